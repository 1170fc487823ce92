/-
  The reference's table lies in a new block.
-/
import Derived.Test.YthpjkfcaabhdhaaGreatKinds
namespace Go.Proofs.YthpjkfcaabhdhaaGreat
open Go.RowKit

/-- The reference's table, in a block of its own. -/
structure RefTab (w : World) (g : Nat) : Prop where
  sl : Sl w 86 3 (some ⟨g, 0, none⟩) 40 40 (rowsF tab)
theorem rowsA_get (i : Nat) (hi : i < 120) : rowsA[i]? = some (rowsF tab i) := by
  have hl := rowCells_length tab
  rw [tab_length] at hl
  rw [rowsA_tab]
  unfold rowsF
  rw [List.getElem?_toArray, List.getD_eq_getElem?_getD, List.getElem?_eq_getElem (by omega)]
  rfl

set_option maxRecDepth 1000000 in
set_option maxHeartbeats 1000000 in
theorem Table_any (w : World) : Calls Tryz.prog 33 #[] w fun e w' => e = .returned (.slice (some ⟨w.heap.size, 0, none⟩) 40 40) ∧ w.alloc (.cells rowsA 86) = w' := by
  go_enter Tryz.func33, Tryz.ntmps33
  go_wp2_with fail
  go_ret
  exact ⟨rfl, rfl⟩
end Go.Proofs.YthpjkfcaabhdhaaGreat
