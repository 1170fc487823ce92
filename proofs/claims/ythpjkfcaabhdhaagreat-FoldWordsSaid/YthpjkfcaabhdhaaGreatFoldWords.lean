/-
  FoldWords returns true for every kind and all words; nothing that was there has changed.
-/
import Derived.Test.YthpjkfcaabhdhaaGreatAwake
import Derived.Test.YthpjkfcaabhdhaaGreatWords6
import Derived.Test.YthpjkfcaabhdhaaGreatLitsTexts
namespace Go.Proofs.YthpjkfcaabhdhaaGreat
open Go.RowKit

set_option maxRecDepth 1000000 in
set_option maxHeartbeats 1000000 in
theorem FoldWords_any (w : World) (kind : Int) (a b : ByteArray) :
    Calls Tryz.prog 3 #[.int .u8 kind, .string a, .string b] w fun e w' => e = .returned (.bool true) ∧ Below w.heap.size w w' := by
  by_cases ha : 2000 < a.size
  · have d1 : decide ((2000 : Int) < (a.size : Int)) = true := decide_eq_true (by omega)
    go_enter Tryz.func3, Tryz.ntmps3
    go_wp2_with fail
    refine (awake_any _).mono ?_
    rintro e w1 ⟨rfl, hb1⟩
    go_wp2_with fail
    go_ret
    exact ⟨rfl, hb1⟩
  · have d1 : decide ((2000 : Int) < (a.size : Int)) = false := decide_eq_false (by omega)
    by_cases hb : 2000 < b.size
    · have d2 : decide ((2000 : Int) < (b.size : Int)) = true := decide_eq_true (by omega)
      go_enter Tryz.func3, Tryz.ntmps3
      go_wp2_with fail
      refine (awake_any _).mono ?_
      rintro e w1 ⟨rfl, hb1⟩
      go_wp2_with fail
      go_ret
      exact ⟨rfl, hb1⟩
    · have d2 : decide ((2000 : Int) < (b.size : Int)) = false := decide_eq_false (by omega)
      go_enter Tryz.func3, Tryz.ntmps3
      go_wp2_with fail
      refine (words_any _ kind a b).mono ?_
      rintro e w1 ⟨rfl, hb1⟩
      go_wp2_with fail
      refine (words_any _ kind b a).mono ?_
      rintro e w2 ⟨rfl, hb2⟩
      have hc2 : Below w.heap.size w w2 := hb1.trans (hb2.mono hb1.size)
      clear hb1 hb2
      go_wp2_with fail
      refine (Longs_any _ kind a).mono ?_
      rintro e w3 ⟨a1, n1, c1, rfl, ho1, hb3⟩
      have hc3 : Below w.heap.size w w3 := hc2.trans (hb3.mono hc2.size)
      go_wp2_with fail
      refine (Longs_any _ kind a).mono ?_
      rintro e w4 ⟨a2, n2, c2, rfl, ho2, hb4⟩
      have hc4 : Below w.heap.size w w4 := hc3.trans (hb4.mono hc3.size)
      go_wp2_with fail
      refine (Longs_any _ 0 a).mono ?_
      rintro e w5 ⟨a3, n3, c3, rfl, ho3, hb5⟩
      have hc5 : Below w.heap.size w w5 := hc4.trans (hb5.mono hc4.size)
      have s1 := (ho1.strs.sl.below' hb4).below' hb5
      have s2 := ho2.strs.sl.below' hb5
      have s3 := ho3.strs.sl
      have e1 := longsL_le kind a
      have e2 := longsL_le 0 a
      have l1 : n1 ≤ 1048576 := by rw [← ho1.strs.len]; omega
      have l2 : n2 ≤ 1048576 := by rw [← ho2.strs.len]; omega
      have l3 : n3 ≤ 1048576 := by rw [← ho3.strs.len]; omega
      have r1 : ∀ x, rowOf a1 c1 = some x → w2.heap.size ≤ x ∧ x < w3.heap.size := fun x hx => ⟨ho1.row x hx, ho1.strs.sl.row_lt x hx⟩
      have r2 : ∀ x, rowOf a2 c2 = some x → w3.heap.size ≤ x ∧ x < w4.heap.size := fun x hx => ⟨ho2.row x hx, ho2.strs.sl.row_lt x hx⟩
      have r3 : ∀ x, rowOf a3 c3 = some x → w4.heap.size ≤ x := fun x hx => ho3.row x hx
      have z2 := hc2.size
      have z3 := hb3.size
      have z4 := hb4.size
      have z5 := hb5.size
      have Hap := Lib.hid (apartTexts3 w5 w2.heap.size w3.heap.size w4.heap.size a1 a2 a3 n1 n2 n3 c1 c2 c3 _ _ _ s1 s2 s3 l1 l2 l3 r1 r2 r3 z3 z4 (by omega))
      have hc6 : Below w.heap.size w (w5.alloc (.cells #[.slice a1 n1 c1, .slice a2 n2 c2, .slice a3 n3 c3] 25)) := hc5.alloc hc5.size _
      clear ho1 ho2 ho3 hb3 hb4 hb5 s1 s2 s3 r1 r2 r3 l1 l2 l3 e1 e2 hc3 hc4 hc5
      go_wp2_with fail
      refine Hap.out.mono ?_
      rintro e w6 ⟨rfl, hb6⟩
      have hc7 : Below w.heap.size w w6 := hc6.trans (hb6.mono z2)
      clear Hap hb6 hc6
      go_wp2_with fail
      refine (awake_any _).mono ?_
      rintro e w7 ⟨rfl, hb7⟩
      have hc8 : Below w.heap.size w w7 := hc7.trans (hb7.mono hc7.size)
      go_wp2_with fail
      go_ret
      exact ⟨rfl, hc8⟩
end Go.Proofs.YthpjkfcaabhdhaaGreat
