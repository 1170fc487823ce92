/-
  FoldTells returns true for every text; nothing that was there has changed.
-/
import Derived.Test.YthpjkfcaabhdhaaGreatAwake
import Derived.Test.YthpjkfcaabhdhaaGreatRefFold
import Derived.Test.YthpjkfcaabhdhaaGreatWords11
import Derived.Test.YthpjkfcaabhdhaaGreatLitsTexts
namespace Go.Proofs.YthpjkfcaabhdhaaGreat
open Go.RowKit

def foldB (s : ByteArray) : ByteArray := ⟨(foldL s.data.toList).toArray⟩
theorem foldB_size (s : ByteArray) : (foldB s).size ≤ 3 * s.size := by
  have h := foldL_len s.data.toList
  rw [← size_list] at h
  exact h
theorem Fold_b (w : World) (s : ByteArray) (hs : s.size ≤ 100000) : Calls Tryz.prog 10 #[.string s] w fun e w' => e = .returned (.string (foldB s)) ∧ Below w.heap.size w w' := Fold_any w s (by omega)
theorem refFold_b (w : World) (s : ByteArray) (hs : s.size ≤ 100000) : Calls Tryz.prog 26 #[.string s] w fun e w' => e = .returned (.string (foldB s)) ∧ Below w.heap.size w w' := refFold_any w s hs

set_option maxRecDepth 1000000 in
set_option maxHeartbeats 1000000 in
theorem Right_any (w : World) (s : ByteArray) (hs : s.size ≤ 100000) :
    Calls Tryz.prog 27 #[.string s] w fun e w' => e = .returned (.bool ((foldB s).toList == s.toList)) ∧ Below w.heap.size w w' := by
  go_enter Tryz.func27, Tryz.ntmps27
  go_wp2_with fail
  refine (Fold_b _ s hs).mono ?_
  rintro e w1 ⟨rfl, hb1⟩
  go_wp2_with fail
  go_ret
  exact ⟨rfl, hb1⟩

set_option maxRecDepth 1000000 in
set_option maxHeartbeats 1000000 in
theorem folds_any (w : World) (s : ByteArray) (hs : s.size ≤ 100000) :
    Calls Tryz.prog 9 #[.string s] w fun e w' => e = .returned (.bool true) ∧ Below w.heap.size w w' := by
  have hF := fun w => Fold_b w s hs
  have hF2 := fun w => refFold_b w s hs
  have hR := fun w => Right_any w s hs
  have HF := Lib.hid hF
  have HF2 := Lib.hid hF2
  have HR := Lib.hid hR
  clear hF hF2 hR
  generalize foldB s = f at HF HF2 HR
  have HR2 : Hid (∀ r, (f.toList == s.toList) = r → ∀ w, Calls Tryz.prog 27 #[.string s] w fun e w' => e = .returned (.bool r) ∧ Below w.heap.size w w') := by
    intro r hr w
    rw [← hr]
    exact HR.out w
  clear HR
  have hff : (f.toList == f.toList) = true := by simp
  have Hlen : Hid (∀ l : List UInt8, l.length = s.size → (wordsB l).length ≤ 1000000) := by
    intro l hl
    unfold wordsB wordsL
    rw [List.length_map]
    have h2 := wAt_len l (l.length + 1) (Nat.le_refl _)
    omega
  cases hr : (f.toList == s.toList) with
  | true =>
    have HR := Lib.hid (HR2.out true hr)
    clear HR2
    go_enter Tryz.func9, Tryz.ntmps9
    go_wp2_with fail
    refine (HF.out _).mono ?_
    rintro e w1 ⟨rfl, hb1⟩
    go_wp2_with fail
    refine (HF2.out _).mono ?_
    rintro e w2 ⟨rfl, hb2⟩
    have hc2 : Below w.heap.size w w2 := hb1.trans (hb2.mono hb1.size)
    clear hb1 hb2
    go_wp2_with fail
    refine (HR.out _).mono ?_
    rintro e w3 ⟨rfl, hb3⟩
    have hc3 : Below w.heap.size w w3 := hc2.trans (hb3.mono hc2.size)
    clear hb3 hc2
    go_wp2_with fail
    refine (HF2.out _).mono ?_
    rintro e w4 ⟨rfl, hb4⟩
    have hc4 : Below w.heap.size w w4 := hc3.trans (hb4.mono hc3.size)
    clear hb4 hc3
    go_wp2_with fail
    refine (WordsOf_any _ s (by omega)).mono ?_
    rintro e w5 ⟨a5, n5, c5, rfl, ho5, hb5⟩
    have hc5 : Below w.heap.size w w5 := hc4.trans (hb5.mono hc4.size)
    clear hb5 hc4
    go_wp2_with fail
    refine (refWords_any _ s (by omega)).mono ?_
    rintro e w6 ⟨a6, n6, c6, rfl, ho6, hb6⟩
    have hc6 : Below w.heap.size w w6 := hc5.trans (hb6.mono hc5.size)
    have hx5 := ho5.strs.below hb6
    have hx6 := ho6.strs
    have hlen := Hlen.out s.data.toList (by simp)
    generalize wordsB s.data.toList = xs at *
    obtain rfl := hx5.len.symm
    obtain rfl := hx6.len.symm
    clear ho5 ho6 hb6 hc5
    go_wp2_with fail
    refine (SameTexts_any _ a5 a6 _ c5 _ c6 _ _ hx5 hx6 hlen hlen).mono ?_
    rintro e w7 ⟨rfl, hb7⟩
    have hc7 : Below w.heap.size w w7 := hc6.trans (hb7.mono hc6.size)
    rw [sameL_refl]
    clear hx5 hx6 hb7
    go_wp2_with fail
    go_ret
    exact ⟨by simp, hc7⟩
  | false =>
    have HR := Lib.hid (HR2.out false hr)
    clear HR2
    go_enter Tryz.func9, Tryz.ntmps9
    go_wp2_with fail
    refine (HF.out _).mono ?_
    rintro e w1 ⟨rfl, hb1⟩
    go_wp2_with fail
    refine (HF2.out _).mono ?_
    rintro e w2 ⟨rfl, hb2⟩
    have hc2 : Below w.heap.size w w2 := hb1.trans (hb2.mono hb1.size)
    clear hb1 hb2
    go_wp2_with fail
    refine (HR.out _).mono ?_
    rintro e w3 ⟨rfl, hb3⟩
    have hc3 : Below w.heap.size w w3 := hc2.trans (hb3.mono hc2.size)
    clear hb3 hc2
    go_wp2_with fail
    refine (HF2.out _).mono ?_
    rintro e w4 ⟨rfl, hb4⟩
    have hc4 : Below w.heap.size w w4 := hc3.trans (hb4.mono hc3.size)
    clear hb4 hc3
    go_wp2_with fail
    refine (WordsOf_any _ s (by omega)).mono ?_
    rintro e w5 ⟨a5, n5, c5, rfl, ho5, hb5⟩
    have hc5 : Below w.heap.size w w5 := hc4.trans (hb5.mono hc4.size)
    clear hb5 hc4
    go_wp2_with fail
    refine (refWords_any _ s (by omega)).mono ?_
    rintro e w6 ⟨a6, n6, c6, rfl, ho6, hb6⟩
    have hc6 : Below w.heap.size w w6 := hc5.trans (hb6.mono hc5.size)
    have hx5 := ho5.strs.below hb6
    have hx6 := ho6.strs
    have hlen := Hlen.out s.data.toList (by simp)
    generalize wordsB s.data.toList = xs at *
    obtain rfl := hx5.len.symm
    obtain rfl := hx6.len.symm
    clear ho5 ho6 hb6 hc5
    go_wp2_with fail
    refine (SameTexts_any _ a5 a6 _ c5 _ c6 _ _ hx5 hx6 hlen hlen).mono ?_
    rintro e w7 ⟨rfl, hb7⟩
    have hc7 : Below w.heap.size w w7 := hc6.trans (hb7.mono hc6.size)
    rw [sameL_refl]
    clear hx5 hx6 hb7
    go_wp2_with fail
    go_ret
    exact ⟨by simp, hc7⟩

set_option maxRecDepth 1000000 in
set_option maxHeartbeats 1000000 in
theorem FoldTells_any (w : World) (s : ByteArray) :
    Calls Tryz.prog 4 #[.string s] w fun e w' => e = .returned (.bool true) ∧ Below w.heap.size w w' := by
  by_cases ha : 2000 < s.size
  · have d1 : decide ((2000 : Int) < (s.size : Int)) = true := decide_eq_true (by omega)
    go_enter Tryz.func4, Tryz.ntmps4
    go_wp2_with fail
    refine (awake_any _).mono ?_
    rintro e w1 ⟨rfl, hb1⟩
    go_wp2_with fail
    go_ret
    exact ⟨rfl, hb1⟩
  · have d1 : decide ((2000 : Int) < (s.size : Int)) = false := decide_eq_false (by omega)
    have hfs := foldB_size s
    go_enter Tryz.func4, Tryz.ntmps4
    go_wp2_with fail
    refine (folds_any _ s (by omega)).mono ?_
    rintro e w1 ⟨rfl, hb1⟩
    go_wp2_with fail
    refine (Fold_b _ s (by omega)).mono ?_
    rintro e w2 ⟨rfl, hb2⟩
    have hc2 : Below w.heap.size w w2 := hb1.trans (hb2.mono hb1.size)
    generalize foldB s = f at *
    go_wp2_with fail
    refine (folds_any _ f (by omega)).mono ?_
    rintro e w3 ⟨rfl, hb3⟩
    have hc3 : Below w.heap.size w w3 := hc2.trans (hb3.mono hc2.size)
    clear hb1 hb2 hb3 hc2
    go_wp2_with fail
    refine (WordsOf_any _ s (by omega)).mono ?_
    rintro e w4 ⟨a1, n1, c1, rfl, ho1, hb4⟩
    have hc4 : Below w.heap.size w w4 := hc3.trans (hb4.mono hc3.size)
    go_wp2_with fail
    refine (WordsOf_any _ s (by omega)).mono ?_
    rintro e w5 ⟨a2, n2, c2, rfl, ho2, hb5⟩
    have hc5 : Below w.heap.size w w5 := hc4.trans (hb5.mono hc4.size)
    have s1 := ho1.strs.sl.below' hb5
    have s2 := ho2.strs.sl
    have e1 : (wordsB s.data.toList).length ≤ 1048576 := by
      unfold wordsB wordsL
      rw [List.length_map]
      have h2 := wAt_len s.data.toList (s.data.toList.length + 1) (Nat.le_refl _)
      rw [← size_list] at h2
      rw [← size_list]
      omega
    have l1 : n1 ≤ 1048576 := by rw [← ho1.strs.len]; exact e1
    have l2 : n2 ≤ 1048576 := by rw [← ho2.strs.len]; exact e1
    have r1 : ∀ x, rowOf a1 c1 = some x → w3.heap.size ≤ x ∧ x < w4.heap.size := fun x hx => ⟨ho1.row x hx, ho1.strs.sl.row_lt x hx⟩
    have r2 : ∀ x, rowOf a2 c2 = some x → w4.heap.size ≤ x := fun x hx => ho2.row x hx
    have z3 := hc3.size
    have z4 := hb4.size
    have z5 := hb5.size
    have Hap := Lib.hid (apartTexts2 w5 w3.heap.size w4.heap.size a1 a2 n1 n2 c1 c2 _ _ s1 s2 l1 l2 r1 r2 z4 (by omega))
    have hc6 : Below w.heap.size w (w5.alloc (.cells #[.slice a1 n1 c1, .slice a2 n2 c2] 25)) := hc5.alloc hc5.size _
    clear ho1 ho2 hb4 hb5 s1 s2 r1 r2 l1 l2 e1 hc3 hc4 hc5
    go_wp2_with fail
    refine Hap.out.mono ?_
    rintro e w6 ⟨rfl, hb6⟩
    have hc7 : Below w.heap.size w w6 := hc6.trans (hb6.mono z3)
    clear Hap hb6 hc6
    go_wp2_with fail
    refine (awake_any _).mono ?_
    rintro e w7 ⟨rfl, hb7⟩
    have hc8 : Below w.heap.size w w7 := hc7.trans (hb7.mono hc7.size)
    go_wp2_with fail
    go_ret
    exact ⟨rfl, hc8⟩
end Go.Proofs.YthpjkfcaabhdhaaGreat
