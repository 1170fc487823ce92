/-
  'Kinds', 'Same' of the package fold.
-/
import Derived.Test.YthpjkfcaabhdhaaGreatShort
namespace Go.Proofs.YthpjkfcaabhdhaaGreat
open Go.RowKit

theorem tab_kinds : ∀ k : Nat, k < 40 → 1 ≤ (tab.getD k dflt).1 ∧ (tab.getD k dflt).1 ≤ 5 := by decide +kernel

def orK (acc k : Int) : Int := bits BinOp.or .u8 acc (2 ^ k.toNat % 256)
def stepK (word : ByteArray) (acc : Int) (r : Row) : Int := if sEq r.2.1 word || sEq r.2.2 word then orK acc r.1 else acc
def kindsTo (word : ByteArray) (k : Nat) : Int := (tab.take k).foldl (stepK word) 0
theorem kindsTo_next (word : ByteArray) (k : Nat) (hk : k < 40) : kindsTo word (k + 1) = stepK word (kindsTo word k) (tab.getD k dflt) := by
  unfold kindsTo
  rw [take_next k hk, List.foldl_append]
  rfl

def Rk (word : ByteArray) (w : World) (u3 u9 : Value) (wr : World) : Prop :=
  ∃ k : Nat, k ≤ 40 ∧ u9 = .int .i64 k ∧ u3 = .int .u8 (kindsTo word k) ∧ Below w.heap.size w wr

set_option maxRecDepth 1000000 in
set_option maxHeartbeats 1000000 in
theorem Kinds_any (w : World) (word : ByteArray) :
    Calls Tryz.prog 13 #[.string word] w fun e w' => e = .returned (.int .u8 (kindsTo word 40)) ∧ Below w.heap.size w w' := by
  go_enter Tryz.func13, Tryz.ntmps13
  go_wp2_with fail
  refine (rows_any _).mono ?_
  rintro e w1 ⟨rfl, hb1⟩
  go_wp2_with (first | (refine wpList_store_row rfl 76 (.tmp 4) (.tmp 7) rfl w1.heap.size rowsA rfl rfl 76 _ (heap_alloc_new w1 _) (by kernel_rfl) (by kernel_rfl) (by kernel_rfl) ?_; rw [World.setRow_alloc_new]) | (refine wpList_load_row rfl 76 (.tmp 4) rfl w1.heap.size rfl 76 rowsA (0, 0) _ (heap_alloc_new w1 _) und76 rfl (by kernel_rfl) ?_))
  have hbw : Below w.heap.size w (w1.alloc (.cells rowsA 76)) := hb1.alloc hb1.size _
  generalize w1.alloc (.cells rowsA 76) = w2 at *
  go_loopw [3, 9] (Rk word w) (fun _ u9 _ => 40 - (intOf u9).toNat)
  case atStart => exact ⟨0, by omega, rfl, rfl, hbw⟩
  case round =>
    clear hbw hb1
    obtain ⟨k, hk40, rfl, rfl, hb⟩ := hrel
    by_cases hlt : k < 40
    · have hidx := idx_rows k hlt
      obtain ⟨hb1, hb2⟩ := tab_kinds k hlt
      have hnx := kindsTo_next word k hlt
      generalize tab.getD k dflt = r at hidx hb1 hb2 hnx
      obtain ⟨r1, r2, r3⟩ := r
      simp only [rowV] at hidx hb1 hb2
      generalize kindsTo word k = acc at *
      have Hnx := Lib.hid hnx
      clear hnx
      cases h2 : (r2.toList == word.toList) <;> cases h3 : (r3.toList == word.toList)
      all_goals
        have hst : Hid (kindsTo word (k + 1) = if (r2.toList == word.toList) || (r3.toList == word.toList) then orK acc r1 else acc) := Hnx.out
        simp only [h2, h3, Bool.or_true, Bool.or_false, Bool.or_self, if_true, if_false, Bool.false_eq_true] at hst
        go_wp2_with fail
        go_roundw
        case rel => exact ⟨k + 1, by omega, by go_num, (congrArg (Value.int .u8) hst.out).symm, hb.alloc hb.size _⟩
        case measure => simp [intOf]; omega
    · obtain rfl : k = 40 := by omega
      go_wp2_with fail
      go_ret
      exact ⟨rfl, hb⟩

/-- What Same returns. -/
def sameW (kind : Int) (a b : ByteArray) : Bool := sEq a b || (longsL kind a).any fun x => inL (longsL kind b) x

def Rs (xs ys : List ByteArray) (ax ay : Option Addr) (cx cy : Nat) (w : World) (u20 : Value) (wr : World) : Prop :=
  ∃ k : Nat, k ≤ xs.length ∧ u20 = .int .i64 k ∧ (∀ j, j < k → inL ys (xs.getD j ByteArray.empty) = false) ∧ Below w.heap.size w wr ∧ Strs wr ax xs.length cx xs ∧ Strs wr ay ys.length cy ys

theorem longsL_le (kind : Int) (word : ByteArray) : (longsL kind word).length ≤ 40 := by
  rw [← longsOf_all]
  exact Nat.le_trans (longsOf_le _ _) (kept_le _ _)

set_option maxRecDepth 1000000 in
set_option maxHeartbeats 1000000 in
theorem Same_any (w : World) (kind : Int) (a b : ByteArray) :
    Calls Tryz.prog 14 #[.int .u8 kind, .string a, .string b] w fun e w' => e = .returned (.bool (sameW kind a b)) ∧ Below w.heap.size w w' := by
  cases hab : (a.toList == b.toList) with
  | true =>
    have hv : Hid (sameW kind a b = true) := by show sameW kind a b = true; unfold sameW sEq; rw [hab]; rfl
    go_enter Tryz.func14, Tryz.ntmps14
    go_wp2_with fail
    go_ret
    rw [hv.out]
    exact ⟨rfl, Below.refl _ _⟩
  | false =>
    have hv : Hid (sameW kind a b = (longsL kind a).any fun x => inL (longsL kind b) x) := by show sameW kind a b = _; unfold sameW sEq; rw [hab]; rfl
    go_enter Tryz.func14, Tryz.ntmps14
    go_wp2_with fail
    refine (Longs_any _ kind b).mono ?_
    rintro e w1 ⟨ay, ny, cy, rfl, ⟨hy, _⟩, hb1⟩
    go_wp2_with fail
    refine (Longs_any _ kind a).mono ?_
    rintro e w2 ⟨ax, nx, cx, rfl, ⟨hx, _⟩, hb2⟩
    have hy2 := hy.below hb2
    have hb : Below w.heap.size w w2 := hb1.trans (hb2.mono hb1.size)
    have hx40 := longsL_le kind a
    have hy40 := longsL_le kind b
    obtain rfl := hx.len.symm
    obtain rfl := hy2.len.symm
    clear hy hb1 hb2
    generalize longsL kind a = xs at *
    generalize longsL kind b = ys at *
    go_wp2_with fail
    go_loopw [20] (Rs xs ys ax ay cx cy w) (fun u20 _ => xs.length - (intOf u20).toNat)
    case atStart => exact ⟨0, by omega, rfl, fun j hj => absurd hj (by omega), hb, hx, hy2⟩
    case round =>
      clear hb hx hy2
      obtain ⟨k, hk, rfl, hno, hb, hx, hy⟩ := hrel
      have Hno := Lib.hid hno
      clear hno
      by_cases hlt : k < xs.length
      · obtain ⟨g, rfl, _, _⟩ := hx.sl.some_ (by have := hx.sl.le; omega)
        have hc : wr.cell? ⟨g, k, none⟩ = some (.string (xs.getD k ByteArray.empty)) := hx.sl.cell (i := k) (by omega)
        generalize hxk : xs.getD k ByteArray.empty = x at hc
        have Hx := Lib.hid hxk
        clear hxk
        go_wp2_with fail
        refine (has_any _ ay ys.length cy ys x hy (by omega)).mono ?_
        rintro e w' ⟨rfl, rfl⟩
        cases hq : inL ys x with
        | true =>
          have hany : Hid ((xs.any fun x => inL ys x) = true) := by
            show (xs.any fun x => inL ys x) = true
            rw [List.any_eq_true]
            exact ⟨x, by rw [← Hx.out, List.getD_eq_getElem?_getD, List.getElem?_eq_getElem hlt]; exact List.getElem_mem hlt, hq⟩
          go_wp2_with fail
          go_ret
          rw [hv.out, hany.out]
          exact ⟨rfl, hb⟩
        | false =>
          go_wp2_with fail
          go_roundw
          case rel => exact ⟨k + 1, hlt, by go_num, fun j hj => (by
            by_cases e : j = k
            · subst e; rw [Hx.out]; exact hq
            · exact Hno.out j (by omega)), hb, hx, hy⟩
          case measure => simp [intOf]; omega
      · obtain rfl : k = xs.length := by omega
        have hany : Hid ((xs.any fun x => inL ys x) = false) := by
          show (xs.any fun x => inL ys x) = false
          rw [List.any_eq_false]
          intro x hx
          obtain ⟨j, hj, rfl⟩ := List.mem_iff_getElem.1 hx
          have := Hno.out j hj
          rw [List.getD_eq_getElem?_getD, List.getElem?_eq_getElem hj] at this
          simpa using this
        go_wp2_with fail
        go_ret
        rw [hv.out, hany.out]
        exact ⟨rfl, hb⟩
end Go.Proofs.YthpjkfcaabhdhaaGreat
