/-
  'words' of the law: the package's functions on words return what the reference's return.
-/
import Derived.Test.YthpjkfcaabhdhaaGreatWordLaw
namespace Go.Proofs.YthpjkfcaabhdhaaGreat
open Go.RowKit

set_option maxRecDepth 1000000 in
set_option maxHeartbeats 1000000 in
theorem words_any (w : World) (kind : Int) (a b : ByteArray) :
    Calls Tryz.prog 6 #[.int .u8 kind, .string a, .string b] w fun e w' => e = .returned (.bool true) ∧ Below w.heap.size w w' := by
  have hs1 : (((shortL kind a).1.toList == (shortL kind a).1.toList) = true) := by simp
  go_enter Tryz.func6, Tryz.ntmps6
  go_wp2_with fail
  refine (Short_any _ kind a).mono ?_
  rintro e w1 ⟨rfl, hb1⟩
  go_wp2_with fail
  refine (refShort_any _ kind a).mono ?_
  rintro e w2 ⟨rfl, hb2⟩
  have hb02 : Below w.heap.size w w2 := hb1.trans (hb2.mono hb1.size)
  have hB2 := hb02.size
  clear hb1 hb2
  rw [short_law]
  generalize (shortL kind a).1 = s at *
  generalize (shortL kind a).2 = t at *
  go_wp2_with fail
  refine (Longs_any _ kind a).mono ?_
  rintro e w3 ⟨ax, nx, cx, rfl, ⟨hx, _⟩, hb3⟩
  have hb03 : Below w.heap.size w w3 := hb02.trans (hb3.mono hB2)
  go_wp2_with fail
  refine (refLongs_any _ kind a).mono ?_
  rintro e w4 ⟨ay, ny, cy, rfl, ⟨hy, _⟩, hb4⟩
  have hx4 := hx.below hb4
  have hb04 : Below w.heap.size w w4 := hb03.trans (hb4.mono hb03.size)
  rw [longs_law] at hy
  have hl := longsL_le kind a
  obtain rfl := hx4.len.symm
  obtain rfl := hy.len.symm
  clear hx hb3 hb4 hb02 hb03
  go_wp2_with fail
  refine (SameTexts_any _ ax ay _ cx _ cy _ _ hx4 hy (by omega) (by omega)).mono ?_
  rintro e w5 ⟨rfl, hb5⟩
  have hb05 : Below w.heap.size w w5 := hb04.trans (hb5.mono hb04.size)
  rw [sameL_refl]
  clear hx4 hy hb04 hb5
  go_wp2_with fail
  refine (Kinds_any _ a).mono ?_
  rintro e w6 ⟨rfl, hb6⟩
  have hb06 : Below w.heap.size w w6 := hb05.trans (hb6.mono hb05.size)
  go_wp2_with fail
  refine (refKinds_any _ a).mono ?_
  rintro e w7 ⟨rfl, hb7⟩
  have hb07 : Below w.heap.size w w7 := hb06.trans (hb7.mono hb06.size)
  rw [kinds_law]
  have hk : (kindsTo a 40 == kindsTo a 40) = true := by simp
  generalize kindsTo a 40 = kk at *
  clear hb05 hb06 hb6 hb7
  go_wp2_with fail
  refine (Same_any _ kind a b).mono ?_
  rintro e w8 ⟨rfl, hb8⟩
  have hb08 : Below w.heap.size w w8 := hb07.trans (hb8.mono hb07.size)
  go_wp2_with fail
  refine (refSame_any _ kind a b).mono ?_
  rintro e w9 ⟨rfl, hb9⟩
  have hb09 : Below w.heap.size w w9 := hb08.trans (hb9.mono hb08.size)
  rw [same_law]
  generalize sameW kind a b = ss at *
  go_wp2_with fail
  go_ret
  exact ⟨by simp, hb09⟩
end Go.Proofs.YthpjkfcaabhdhaaGreat
