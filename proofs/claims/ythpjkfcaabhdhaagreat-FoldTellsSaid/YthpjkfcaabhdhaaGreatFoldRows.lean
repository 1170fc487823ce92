import Derived.Test.YthpjkfcaabhdhaaGreatProg
import Derived.Test.YthpjkfcaabhdhaaGreatFoldTab
import Derived.Laws.Tables
import Derived.Deep.WholeRow
namespace Go.Proofs.YthpjkfcaabhdhaaGreat
open Go.RowKit
theorem und76 : Tryz.prog.underlying 76 = some (.array 40 72) := by kernel_rfl
set_option maxRecDepth 1000000 in
set_option maxHeartbeats 1000000 in
theorem rows_any (w : World) : Calls Tryz.prog 24 #[] w fun e w' => e = .returned (.agg rowsA) ∧ Below w.heap.size w w' := by
  go_enter Tryz.func24, Tryz.ntmps24
  go_wp2_with (refine wpList_store_row rfl 76 (.tmp 0) (.tmp 41) rfl w.heap.size rowsA rfl rfl 76 _ (heap_alloc_new w _) (by kernel_rfl) (by kernel_rfl) (by kernel_rfl) ?_)
  refine bodyPost_ret (v := .agg rowsA) (results_cell_row rfl _ _ w.heap.size 76 rowsA (0, 0) _ rfl (setRow_heap _ _ _ _ _ _ (heap_alloc_new w _)) und76 rfl (by kernel_rfl)) rfl ⟨rfl, ?_⟩
  rw [World.setRow_alloc_new]
  exact (Below.refl _ _).alloc (Nat.le_refl _) _
end Go.Proofs.YthpjkfcaabhdhaaGreat
