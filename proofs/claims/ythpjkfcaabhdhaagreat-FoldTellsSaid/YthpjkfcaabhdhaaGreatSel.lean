/-
  'selected': the rows of the table that a closure keeps; 'first': the first of them.
-/
import Derived.Test.YthpjkfcaabhdhaaGreatOf
import Derived.Test.YthpjkfcaabhdhaaGreatFoldRows
import Derived.Outline
namespace Go.Proofs.YthpjkfcaabhdhaaGreat
open Go.RowKit

def dflt : Row := (0, ByteArray.empty, ByteArray.empty)
theorem idx_rows : ∀ k : Nat, k < 40 → ∀ w, (Instr.index 76 (.agg rowsA) (.int .i64 (k : Int))).run Tryz.prog w = .ok (rowV (tab.getD k dflt)) w
  | 0, _ => fun w => by kernel_rfl
  | 1, _ => fun w => by kernel_rfl
  | 2, _ => fun w => by kernel_rfl
  | 3, _ => fun w => by kernel_rfl
  | 4, _ => fun w => by kernel_rfl
  | 5, _ => fun w => by kernel_rfl
  | 6, _ => fun w => by kernel_rfl
  | 7, _ => fun w => by kernel_rfl
  | 8, _ => fun w => by kernel_rfl
  | 9, _ => fun w => by kernel_rfl
  | 10, _ => fun w => by kernel_rfl
  | 11, _ => fun w => by kernel_rfl
  | 12, _ => fun w => by kernel_rfl
  | 13, _ => fun w => by kernel_rfl
  | 14, _ => fun w => by kernel_rfl
  | 15, _ => fun w => by kernel_rfl
  | 16, _ => fun w => by kernel_rfl
  | 17, _ => fun w => by kernel_rfl
  | 18, _ => fun w => by kernel_rfl
  | 19, _ => fun w => by kernel_rfl
  | 20, _ => fun w => by kernel_rfl
  | 21, _ => fun w => by kernel_rfl
  | 22, _ => fun w => by kernel_rfl
  | 23, _ => fun w => by kernel_rfl
  | 24, _ => fun w => by kernel_rfl
  | 25, _ => fun w => by kernel_rfl
  | 26, _ => fun w => by kernel_rfl
  | 27, _ => fun w => by kernel_rfl
  | 28, _ => fun w => by kernel_rfl
  | 29, _ => fun w => by kernel_rfl
  | 30, _ => fun w => by kernel_rfl
  | 31, _ => fun w => by kernel_rfl
  | 32, _ => fun w => by kernel_rfl
  | 33, _ => fun w => by kernel_rfl
  | 34, _ => fun w => by kernel_rfl
  | 35, _ => fun w => by kernel_rfl
  | 36, _ => fun w => by kernel_rfl
  | 37, _ => fun w => by kernel_rfl
  | 38, _ => fun w => by kernel_rfl
  | 39, _ => fun w => by kernel_rfl
  | _ + 40, h => absurd h (by omega)

theorem info72 : (Tryz.prog.info? 72).map (fun i => (i.zero, i.size, i.bytes)) = some (some (.agg #[.int .u8 0, .string ByteArray.empty, .string ByteArray.empty]), 3, 40) := by kernel_rfl

/-- The cells of a list of rows. -/
def rowsF (l : List Row) (i : Nat) : Value := (l.flatMap rowCells).getD i undef
theorem rowCells_length (l : List Row) : (l.flatMap rowCells).length = l.length * 3 := by
  induction l with
  | nil => rfl
  | cons r l ih => simp only [List.flatMap_cons, List.length_append, ih, List.length_cons, rowCells, List.length_nil]; omega
theorem rowsF_snoc (l : List Row) (r : Row) (j : Nat) (hj : j < (l.length + 1) * 3) : (if j < l.length * 3 then rowsF l j else (rowCells r).getD (j - l.length * 3) undef) = rowsF (l ++ [r]) j := by
  have hl := rowCells_length l
  unfold rowsF
  rw [List.flatMap_append]
  simp only [List.getD_eq_getElem?_getD]
  by_cases h : j < l.length * 3
  · rw [if_pos h, List.getElem?_append_left (by omega)]
  · rw [if_neg h, List.getElem?_append_right (by omega), hl]
    simp
theorem cells_three_at (w : World) (x y z : Value) (t : TypeId) (n : Nat) (hn : n = w.heap.size) : ∀ j u, [x, y, z][j]? = some u → (w.alloc (.cells #[x, y, z] t)).cell? ((⟨n, 0, none⟩ : Addr).add j) = some u := by
  subst hn
  intro j u hj
  match j, hj with
  | 0, hj => simp at hj; subst hj; simp [Addr.add]
  | 1, hj => simp at hj; subst hj; simp [Addr.add]
  | 2, hj => simp at hj; subst hj; simp [Addr.add]
theorem three_one (r1 : Int) (r2 r3 : ByteArray) : ∀ u ∈ [Value.int .u8 r1, .string r2, .string r3], u.oneCell' = true := by
  intro u hu
  simp at hu
  rcases hu with rfl | rfl | rfl <;> rfl

def kept (p : Row → Bool) (k : Nat) : List Row := (tab.take k).filter p
theorem take_next (k : Nat) (hk : k < 40) : tab.take (k + 1) = tab.take k ++ [tab.getD k dflt] := by
  have h : k < tab.length := by rw [tab_length]; exact hk
  rw [List.take_add_one, List.getElem?_eq_getElem h, List.getD_eq_getElem?_getD, List.getElem?_eq_getElem h]
  rfl
theorem kept_hit (p : Row → Bool) (k : Nat) (hk : k < 40) (h : p (tab.getD k dflt) = true) : kept p (k + 1) = kept p k ++ [tab.getD k dflt] := by
  unfold kept
  rw [take_next k hk, List.filter_append]
  simp only [List.filter_cons, h, List.filter_nil, if_true]
theorem kept_miss (p : Row → Bool) (k : Nat) (hk : k < 40) (h : p (tab.getD k dflt) = false) : kept p (k + 1) = kept p k := by
  unfold kept
  rw [take_next k hk, List.filter_append]
  simp only [List.filter_cons, h, List.filter_nil, Bool.false_eq_true, if_false, List.append_nil]
theorem kept_le (p : Row → Bool) (k : Nat) : (kept p k).length ≤ k := Nat.le_trans (List.length_filter_le _ _) (List.length_take_le _ _)

/-- A slice that reads as a list of rows. -/
structure SlRows (w : World) (v : Value) (l : List Row) : Prop where
  ex : ∃ ao cap, v = .slice ao l.length cap ∧ Sl w 72 3 ao l.length cap (rowsF l)

def Rsel (p : Row → Bool) (w : World) (u5 u9 : Value) (wr : World) : Prop :=
  ∃ (k : Nat) (ao : Option Addr) (cap : Nat), k ≤ 40 ∧ u9 = .int .i64 k ∧ u5 = .slice ao (kept p k).length cap ∧ Sl wr 72 3 ao (kept p k).length cap (rowsF (kept p k)) ∧ Below w.heap.size w wr ∧ (∀ g, rowOf ao cap = some g → w.heap.size ≤ g)

theorem rsel_hit {p : Row → Bool} {w wr w1 : World} {k : Nat} {ao ao' : Option Addr} {cap cap' : Nat} {r1 : Int} {r2 r3 : ByteArray} (hk : k < 40) (hr : tab.getD k dflt = (r1, r2, r3)) (hp : p (r1, r2, r3) = true)
    (hb : Below w.heap.size w wr) (hrow : ∀ g, rowOf ao cap = some g → w.heap.size ≤ g)
    (ha : Appended wr w1 72 3 ao (kept p k).length cap ao' ((kept p k).length + 1) cap' (fun j => if j < (kept p k).length * 3 then rowsF (kept p k) j else [Value.int .u8 r1, .string r2, .string r3][j - (kept p k).length * 3]?.getD undef)) :
    (kept p (k + 1)).length = (kept p k).length + 1 ∧ Sl w1 72 3 ao' (kept p (k + 1)).length cap' (rowsF (kept p (k + 1))) ∧ Below w.heap.size w w1 ∧ (∀ g, rowOf ao' cap' = some g → w.heap.size ≤ g) := by
  have e := kept_hit p k hk (by rw [hr]; exact hp)
  have hl : (kept p (k + 1)).length = (kept p k).length + 1 := by rw [e]; simp
  have hg : wr.grownBy w1 (rowOf ao cap) := by
    rcases ha.way with ⟨_, _, h, _⟩ | ⟨_, _, h, _⟩
    · exact h
    · exact ⟨h.os, h.tape, h.output, h.size, fun i hi _ => h.block i hi⟩
  refine ⟨hl, ?_, hb.grown hg hb.size hrow, ?_⟩
  · rw [hl]
    refine ha.sl.congr fun j hj => ?_
    rw [e, hr]
    exact rowsF_snoc (kept p k) (r1, r2, r3) j hj
  · intro g hg'
    rcases ha.way with ⟨rfl, rfl, _, _⟩ | ⟨_, rfl, _, _⟩
    · exact hrow g hg'
    · unfold rowOf at hg'
      split at hg'
      · cases hg'
      · simp at hg'
        have := hb.size
        omega

set_option maxRecDepth 1000000 in
set_option maxHeartbeats 1000000 in
theorem selected_any (w : World) (bk bw : Nat) (kind : Int) (word : ByteArray) (hk : w.cell? ⟨bk, 0, none⟩ = some (.int .u8 kind)) (hw : w.cell? ⟨bw, 0, none⟩ = some (.string word)) :
    Calls Tryz.prog 23 #[.agg rowsA, .func (.func 22) #[] #[.pointer (some ⟨bk, 0, none⟩), .pointer (some ⟨bw, 0, none⟩)]] w fun e w' =>
      ∃ v, e = .returned v ∧ SlRows w' v (kept (ofR kind word) 40) ∧ Below w.heap.size w w' := by
  have hlk : bk < w.heap.size := World.block_lt_of_cell? _ _ hk
  have hlw : bw < w.heap.size := World.block_lt_of_cell? _ _ hw
  obtain ⟨i0, hi0, hz0, hz1, hz2⟩ := info_parts info72
  have hb0 : Below w.heap.size w (w.alloc (.cells rowsA 76)) := (Below.refl _ _).alloc (Nat.le_refl _) _
  go_enter Tryz.func23, Tryz.ntmps23
  go_wp2_with (refine wpList_load_row rfl 76 (.tmp 2) rfl w.heap.size rfl 76 rowsA (0, 0) _ (heap_alloc_new w _) und76 rfl (by kernel_rfl) ?_)
  go_loopw [5, 9] (Rsel (ofR kind word) w) (fun _ u9 _ => 40 - (intOf u9).toNat)
  case atStart => exact ⟨0, none, 0, by omega, rfl, rfl, Sl.nil _ _ _ _ _, hb0, fun g hg => by simp [rowOf] at hg⟩
  case round =>
    clear hb0
    obtain ⟨k, ao, cap, hk40, rfl, rfl, hsl, hb, hrow⟩ := hrel
    by_cases hlt : k < 40
    · have hidx := idx_rows k hlt
      generalize hr : tab.getD k dflt = r at hidx
      obtain ⟨r1, r2, r3⟩ := r
      simp only [rowV] at hidx
      have Hr := Lib.hid hr
      clear hr
      have hck : wr.cell? ⟨bk, 0, none⟩ = some (.int .u8 kind) := (hb.cell (p := ⟨bk, 0, none⟩) hlk).trans hk
      have hcw : wr.cell? ⟨bw, 0, none⟩ = some (.string word) := (hb.cell (p := ⟨bw, 0, none⟩) hlw).trans hw
      have hbk : bk < wr.heap.size := Nat.lt_of_lt_of_le hlk hb.size
      have hbw : bw < wr.heap.size := Nat.lt_of_lt_of_le hlw hb.size
      go_wp2_with fail
      refine (longsOf_any _ bk bw kind word r1 r2 r3 ((World.cell?_alloc_lt _ _ _ hbk).trans hck) ((World.cell?_alloc_lt _ _ _ hbw).trans hcw)).mono ?_
      rintro e w1 ⟨rfl, hb1⟩
      have hsz := hb1.size
      simp only [World.size_alloc] at hsz
      have hc0 : w1.cell? ⟨wr.heap.size, 0, none⟩ = some (.int .u8 r1) := (hb1.cell (p := ⟨wr.heap.size, 0, none⟩) (by simp)).trans (by simp)
      have hc1 : w1.cell? ⟨wr.heap.size, 1, none⟩ = some (.string r2) := (hb1.cell (p := ⟨wr.heap.size, 1, none⟩) (by simp)).trans (by simp)
      have hc2 : w1.cell? ⟨wr.heap.size, 2, none⟩ = some (.string r3) := (hb1.cell (p := ⟨wr.heap.size, 2, none⟩) (by simp)).trans (by simp)
      have hsl1 : Sl w1 72 3 ao (kept (ofR kind word) k).length cap (rowsF (kept (ofR kind word) k)) := (hsl.alloc _).below' hb1
      have hbw1 : Below w.heap.size w w1 := (hb.alloc hb.size _).trans (hb1.mono (by simp; have := hb.size; omega))
      have hkl := kept_le (ofR kind word) k
      clear hsl hb hck hcw hb1 hidx
      cases hq : ofR kind word (r1, r2, r3) with
      | true =>
        go_wp2_with (at_builtin; refine wpList_append_sl _ rfl (.tmp 15) (.tmp 17) 74 rfl 72 i0 _ 3 40 Tryz.underlying74 hi0 hz0 hz1 hz2 rfl rfl (hsl1.alloc _) ⟨_, 0, none⟩ 1 1 [.int .u8 r1, .string r2, .string r3] rfl rfl (cells_three_at _ _ _ _ _ _ (by simp)) (three_one _ _ _) (by unfold maxLen; omega) (by omega) ?_)
        intro ao' cap' w2 hap
        have hap' : Appended (w1.alloc (.cells #[.int .u8 r1, .string r2, .string r3] 72)) w2 72 3 ao (kept (ofR kind word) k).length cap ao' ((kept (ofR kind word) k).length + 1) cap' (fun j => if j < (kept (ofR kind word) k).length * 3 then rowsF (kept (ofR kind word) k) j else [Value.int .u8 r1, .string r2, .string r3][j - (kept (ofR kind word) k).length * 3]?.getD undef) := by simpa using hap
        obtain ⟨hl2, hsl2, hb2, hrow2⟩ := rsel_hit hlt Hr.out hq (hbw1.alloc hbw1.size _) hrow hap'
        clear hap hap' hsl1 hbw1 hc0 hc1 hc2
        have Hl2 := Lib.hid hl2
        clear hl2
        go_wp2_with fail
        go_roundw
        case rel => exact ⟨k + 1, ao', cap', by omega, by go_num, by rw [Hl2.out], hsl2, hb2, hrow2⟩
        case measure => simp [intOf]; omega
      | false =>
        have e := Lib.hid (kept_miss (ofR kind word) k hlt (by rw [Hr.out]; exact hq))
        go_wp2_with fail
        go_roundw
        case rel => exact ⟨k + 1, ao, cap, by omega, by go_num, by rw [e.out], by rw [e.out]; exact hsl1, hbw1, hrow⟩
        case measure => simp [intOf]; omega
    · obtain rfl : k = 40 := by omega
      go_wp2_with fail
      go_ret
      exact ⟨_, rfl, ⟨ao, cap, rfl, hsl⟩, hb⟩

/-- The first row that is kept, and the cells of its copy. -/
def firstL (p : Row → Bool) : Row := (tab.find? p).getD dflt
def Rfirst (p : Row → Bool) (w : World) (u9 : Value) (wr : World) : Prop :=
  ∃ k : Nat, k ≤ 40 ∧ u9 = .int .i64 k ∧ (∀ j, j < k → p (tab.getD j dflt) = false) ∧ Below w.heap.size w wr
theorem firstL_hit {p : Row → Bool} {k : Nat} (hk : k < 40) (hno : ∀ j, j < k → p (tab.getD j dflt) = false) (h : p (tab.getD k dflt) = true) : firstL p = tab.getD k dflt := by
  have hl : k < tab.length := by rw [tab_length]; exact hk
  unfold firstL
  have : tab.find? p = some (tab.getD k dflt) := by
    rw [List.find?_eq_some_iff_getElem]
    refine ⟨h, k, hl, by rw [List.getD_eq_getElem?_getD, List.getElem?_eq_getElem hl]; rfl, fun j hj => ?_⟩
    have := hno j hj
    rw [List.getD_eq_getElem?_getD, List.getElem?_eq_getElem (by omega)] at this
    simpa using this
  rw [this]
  rfl
theorem firstL_miss {p : Row → Bool} (hno : ∀ j, j < 40 → p (tab.getD j dflt) = false) : firstL p = dflt := by
  unfold firstL
  have : tab.find? p = none := by
    rw [List.find?_eq_none]
    intro x hx
    obtain ⟨j, hj, rfl⟩ := List.mem_iff_getElem.1 hx
    have := hno j (by rw [← tab_length]; exact hj)
    rw [List.getD_eq_getElem?_getD, List.getElem?_eq_getElem hj] at this
    simpa using this
  rw [this]
  rfl
end Go.Proofs.YthpjkfcaabhdhaaGreat
