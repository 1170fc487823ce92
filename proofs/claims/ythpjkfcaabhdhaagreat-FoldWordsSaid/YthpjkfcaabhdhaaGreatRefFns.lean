/-
  The reference's Short, Longs, Kinds, Same, over its table.
-/
import Derived.Test.YthpjkfcaabhdhaaGreatRefTab
namespace Go.Proofs.YthpjkfcaabhdhaaGreat
open Go.RowKit

theorem Table_tab (w : World) : Calls Tryz.prog 33 #[] w fun e w' => e = .returned (.slice (some ⟨w.heap.size, 0, none⟩) 40 40) ∧ Below w.heap.size w w' ∧ RefTab w' w.heap.size :=
  (Table_any w).mono fun _ _ ⟨h1, h2⟩ => by
    subst h2
    exact ⟨h1, (Below.refl _ _).alloc (Nat.le_refl _) _, ⟨Sl.new w 86 3 40 40 rowsA _ (Nat.le_refl _) (by unfold maxLen; omega) (by decide) (fun i hi => rowsA_get i (by omega))⟩⟩

theorem RefTab.at_ {w : World} {g k : Nat} (h : RefTab w g) (hk : k < 40) {r1 : Int} {r2 r3 : ByteArray} (hr : tab.getD k dflt = (r1, r2, r3)) :
    w.cell? ⟨g, k * 3, none⟩ = some (.int .u8 r1) ∧ w.cell? ⟨g, k * 3 + 1, none⟩ = some (.string r2) ∧ w.cell? ⟨g, k * 3 + 2, none⟩ = some (.string r3) := by
  obtain ⟨e1, e2, e3⟩ := rowsF_at tab k r1 r2 r3 (by rw [tab_length]; exact hk) hr
  exact ⟨(h.sl.cell (i := k * 3) (by omega)).trans (by rw [e1]), (h.sl.cell (i := k * 3 + 1) (by omega)).trans (by rw [e2]), (h.sl.cell (i := k * 3 + 2) (by omega)).trans (by rw [e3])⟩
theorem RefTab.below {w w' : World} {g : Nat} (h : RefTab w g) (hb : Below w.heap.size w w') : RefTab w' g := ⟨h.sl.below' hb⟩

/-- What the reference's Short returns. -/
def refShortL (kind : Int) (word : ByteArray) : ByteArray × Bool := match tab.find? (shR kind word) with
  | some r => (r.2.2, true)
  | none => (⟨#[]⟩, false)
theorem refShort_hit {kind : Int} {word : ByteArray} {k : Nat} (hk : k < 40) (hno : ∀ j, j < k → shR kind word (tab.getD j dflt) = false) (h : shR kind word (tab.getD k dflt) = true) : refShortL kind word = ((tab.getD k dflt).2.2, true) := by
  have hl : k < tab.length := by rw [tab_length]; exact hk
  unfold refShortL
  have : tab.find? (shR kind word) = some (tab.getD k dflt) := by
    rw [List.find?_eq_some_iff_getElem]
    refine ⟨h, k, hl, by rw [List.getD_eq_getElem?_getD, List.getElem?_eq_getElem hl]; rfl, fun j hj => ?_⟩
    have := hno j hj
    rw [List.getD_eq_getElem?_getD, List.getElem?_eq_getElem (by omega)] at this
    simpa using this
  rw [this]
theorem refShort_miss {kind : Int} {word : ByteArray} (hno : ∀ j, j < 40 → shR kind word (tab.getD j dflt) = false) : refShortL kind word = (⟨#[]⟩, false) := by
  unfold refShortL
  have : tab.find? (shR kind word) = none := by
    rw [List.find?_eq_none]
    intro x hx
    obtain ⟨j, hj, rfl⟩ := List.mem_iff_getElem.1 hx
    have := hno j (by rw [← tab_length]; exact hj)
    rw [List.getD_eq_getElem?_getD, List.getElem?_eq_getElem hj] at this
    simpa using this
  rw [this]

def Rrs (p : Row → Bool) (g : Nat) (w : World) (u7 : Value) (wr : World) : Prop :=
  ∃ k : Nat, k ≤ 40 ∧ u7 = .int .i64 k ∧ (∀ j, j < k → p (tab.getD j dflt) = false) ∧ Below w.heap.size w wr ∧ RefTab wr g

set_option maxRecDepth 1000000 in
set_option maxHeartbeats 1000000 in
theorem refShort_any (w : World) (kind : Int) (word : ByteArray) :
    Calls Tryz.prog 16 #[.int .u8 kind, .string word] w fun e w' => e = .returned (.tuple #[.string (refShortL kind word).1, .bool (refShortL kind word).2]) ∧ Below w.heap.size w w' := by
  go_enter Tryz.func16, Tryz.ntmps16
  go_wp2_with fail
  refine (Table_tab _).mono ?_
  rintro e w1 ⟨rfl, hb1, ht1⟩
  go_wp2_with fail
  go_loopw [7] (Rrs (shR kind word) w.heap.size w) (fun u7 _ => 40 - (intOf u7).toNat)
  case atStart => exact ⟨0, by omega, rfl, fun j hj => absurd hj (by omega), hb1, ht1⟩
  case round =>
    clear hb1 ht1
    obtain ⟨k, hk40, rfl, hno, hb, ht⟩ := hrel
    have Hno := Lib.hid hno
    clear hno
    by_cases hlt : k < 40
    · generalize hr : tab.getD k dflt = r
      obtain ⟨r1, r2, r3⟩ := r
      obtain ⟨hc1, hc2, hc3⟩ := ht.at_ hlt hr
      have Hr := Lib.hid hr
      clear hr
      have hq : Hid (shR kind word (r1, r2, r3) = ((kind == 0 || r1 == kind) && (r2.toList == word.toList))) := rfl
      cases h0 : (kind == 0) <;> cases h1 : (r1 == kind) <;> cases h2 : (r2.toList == word.toList)
      all_goals
        have hq2 := hq.out
        simp only [h0, h1, h2, Bool.or_true, Bool.or_false, Bool.or_self, Bool.and_true, Bool.and_false, Bool.and_self] at hq2
        first
          | (have Hit := Lib.hid (refShort_hit hlt Hno.out (by rw [Hr.out]; exact hq2))
             clear hq2
             go_wp2_with fail
             go_ret2
             rw [Hit.out, Hr.out]
             exact ⟨rfl, hb⟩)
          | (have Hq := Lib.hid hq2
             clear hq2
             go_wp2_with fail
             go_roundw
             case rel => exact ⟨k + 1, by omega, by go_num, fun j hj => (by
               by_cases e : j = k
               · subst e; rw [Hr.out]; exact Hq.out
               · exact Hno.out j (by omega)), hb, ht⟩
             case measure => simp [intOf]; omega)
    · obtain rfl : k = 40 := by omega
      have Hm := Lib.hid (refShort_miss Hno.out)
      go_wp2_with fail
      go_ret2
      rw [Hm.out]
      exact ⟨rfl, hb⟩

/-- What the reference's Longs returns. -/
def refAdd (kind : Int) (word : ByteArray) (acc : List ByteArray) (r : Row) : List ByteArray := if refOf kind word r && !inL acc r.2.1 then acc ++ [r.2.1] else acc
def refLongsTo (kind : Int) (word : ByteArray) (k : Nat) : List ByteArray := (tab.take k).foldl (refAdd kind word) []
theorem refLongsTo_next (kind : Int) (word : ByteArray) (k : Nat) (hk : k < 40) : refLongsTo kind word (k + 1) = refAdd kind word (refLongsTo kind word k) (tab.getD k dflt) := by
  unfold refLongsTo
  rw [take_next k hk, List.foldl_append]
  rfl
theorem refLongsTo_le (kind : Int) (word : ByteArray) : ∀ k, k ≤ 40 → (refLongsTo kind word k).length ≤ k := by
  intro k
  induction k with
  | zero => intro _; simp [refLongsTo]
  | succ k ih =>
    intro hk
    have := ih (by omega)
    rw [refLongsTo_next kind word k (by omega)]
    unfold refAdd
    split
    · simp; omega
    · omega

def Rrl (kind : Int) (word : ByteArray) (B : Nat) (w : World) (u6 u7 : Value) (wr : World) : Prop :=
  ∃ (k : Nat) (ao : Option Addr) (n cap : Nat), k ≤ 40 ∧ u7 = .int .i64 k ∧ u6 = .slice ao n cap ∧ Own B wr ao n cap (refLongsTo kind word k) ∧ Below B w wr ∧ RefTab wr B

set_option maxRecDepth 1000000 in
set_option maxHeartbeats 1000000 in
theorem refLongs_any (w : World) (kind : Int) (word : ByteArray) :
    Calls Tryz.prog 17 #[.int .u8 kind, .string word] w fun e w' => ∃ ao n cap, e = .returned (.slice ao n cap) ∧ Own w.heap.size w' ao n cap (refLongsTo kind word 40) ∧ Below w.heap.size w w' := by
  obtain ⟨i0, hi0, hz0, hz1, hz2⟩ := info_parts info9
  go_enter Tryz.func17, Tryz.ntmps17
  go_wp2_with fail
  refine (Table_tab _).mono ?_
  rintro e w1 ⟨rfl, hb1, ht1⟩
  go_wp2_with fail
  go_loopw [6, 7] (Rrl kind word w.heap.size w) (fun _ u7 _ => 40 - (intOf u7).toNat)
  case atStart => exact ⟨0, none, 0, 0, by omega, rfl, rfl, ⟨⟨Sl.nil _ _ _ _ _, rfl⟩, fun g hg => by simp [rowOf] at hg⟩, hb1, ht1⟩
  case round =>
    clear hb1 ht1
    obtain ⟨k, ao, n, cap, hk40, rfl, rfl, hown, hb, ht⟩ := hrel
    have hB := hb.size
    have hnn := hown.strs.len
    have hle := refLongsTo_le kind word k hk40
    rw [hnn] at hle
    have Hn := Lib.hid hnn
    clear hnn
    by_cases hlt : k < 40
    · generalize hr : tab.getD k dflt = r
      obtain ⟨r1, r2, r3⟩ := r
      obtain ⟨hc1, hc2, hc3⟩ := ht.at_ hlt hr
      have Hr := Lib.hid hr
      clear hr
      have hnx : Hid (refLongsTo kind word (k + 1) = if refOf kind word (r1, r2, r3) && !inL (refLongsTo kind word k) r2 then refLongsTo kind word k ++ [r2] else refLongsTo kind word k) := by
        show refLongsTo kind word (k + 1) = _
        rw [refLongsTo_next kind word k hlt, Hr.out]
        rfl
      go_wp2_with fail
      refine (refOf_any _ kind word r1 r2 r3).mono ?_
      rintro e w2 ⟨rfl, hb2⟩
      have ht2 := ht.below hb2
      obtain ⟨hd1, hd2, hd3⟩ := ht2.at_ hlt Hr.out
      have hown2 : Own w.heap.size w2 ao n cap (refLongsTo kind word k) := ⟨hown.strs.below hb2, hown.row⟩
      have hbw2 : Below w.heap.size w w2 := hb.trans (hb2.mono hB)
      have hB2 := hbw2.size
      clear hc1 hc2 hc3 hown ht hb hb2
      cases hq : refOf kind word (r1, r2, r3) with
      | false =>
        have hst : Hid (refLongsTo kind word (k + 1) = refLongsTo kind word k) := by rw [Hid, hnx.out, hq]; rfl
        go_wp2_with fail
        go_roundw
        case rel => exact ⟨k + 1, ao, n, cap, by omega, by go_num, rfl, by rw [hst.out]; exact hown2, hbw2, ht2⟩
        case measure => simp [intOf]; omega
      | true =>
        go_wp2_with fail
        refine (in_any _ ao n cap (refLongsTo kind word k) r2 hown2.strs (by omega)).mono ?_
        rintro e w' ⟨rfl, rfl⟩
        cases hi : inL (refLongsTo kind word k) r2 with
        | true =>
          have hst : Hid (refLongsTo kind word (k + 1) = refLongsTo kind word k) := by rw [Hid, hnx.out, hq, hi]; rfl
          go_wp2_with fail
          go_roundw
          case rel => exact ⟨k + 1, ao, n, cap, by omega, by go_num, rfl, by rw [hst.out]; exact hown2, hbw2, ht2⟩
          case measure => simp [intOf]; omega
        | false =>
          have hst : Hid (refLongsTo kind word (k + 1) = refLongsTo kind word k ++ [r2]) := by rw [Hid, hnx.out, hq, hi]; rfl
          go_wp2_with (at_builtin; refine wpList_append_sl _ rfl (.tmp 32) (.tmp 38) 25 rfl 9 i0 _ 1 16 Tryz.underlying25 hi0 hz0 hz1 hz2 rfl rfl (hown2.strs.sl.alloc _) ⟨_, 0, none⟩ 1 1 [.string r2] rfl rfl (cell_one_at _ _ _ _ (by simp)) (str_one _) (by unfold maxLen; omega) (by omega) ?_)
          intro ao2 cap2 w3 hap
          have hown' : Own w.heap.size (w2.alloc (.cells #[.string r2] 9)) ao n cap (refLongsTo kind word k) := ⟨⟨hown2.strs.sl.alloc _, Hn.out⟩, hown2.row⟩
          have hBB : w.heap.size ≤ (w2.alloc (.cells #[.string r2] 9)).heap.size := by simp; omega
          have hown3 := strs_snoc hown' hBB hap
          have hb3 := strs_grown hown' hBB (hbw2.alloc hB2 _) hap
          have ht3 : RefTab w3 w.heap.size := ⟨(ht2.sl.alloc _).grown hap.grown fun g' hg' => (ht2.sl.alloc _).ne_row' hown'.strs.sl (by decide) hg'⟩
          clear hap hown2 hown' hd1 hd2 hd3 ht2
          go_wp2_with fail
          go_roundw
          case rel => exact ⟨k + 1, ao2, n + 1, cap2, by omega, by go_num, rfl, by rw [hst.out]; exact hown3, hb3, ht3⟩
          case measure => simp [intOf]; omega
    · obtain rfl : k = 40 := by omega
      go_wp2_with fail
      go_ret
      exact ⟨ao, n, cap, rfl, hown, hb⟩
end Go.Proofs.YthpjkfcaabhdhaaGreat
