/-
  What the law's 'awake' looks at, worked out.
-/
import Derived.Test.YtpfinkdpaomliaaGreatSortDo
namespace Go.Proofs.YtpfinkdpaomliaaGreat

def awL : List Stop := [(5, 2), (6, 2), (7, 3)]
def awP : PlanP := ⟨[5, 5], [(5, 2, 0, 0), (6, 2, 1, 0), (7, 3, 0, 1)], [5, 2], [4, 3]⟩
theorem aw_make : makeP awL [5, 5] = (0, awP) := by kernel_rfl
theorem aw_make4 : makeP [(1, 3), (2, 3), (3, 3)] [5, 5] = (4, noPlan) := by kernel_rfl
theorem aw_make5 : makeP [(1, 1), (2, 1), (3, 1), (4, 1), (5, 1)] [9, 9] = (4, noPlan) := by kernel_rfl
theorem aw_check : checkP awP = (0, 0) := by decide +kernel
theorem aw_sort : sortErr awP [7, 6, 5, 7, 6] = 0 := by decide +kernel
theorem aw_sort6 : sortErr awP [8] = 6 := by decide +kernel
theorem aw_sort4 : sortErr awP [5, 5, 5] = 4 := by decide +kernel
theorem aw_first : pass1 awP [7, 6, 5, 7, 6] = [[0, 2, 3], [1, 4]] := by decide +kernel
theorem aw_second : pass2 awP [7, 6, 5, 7, 6] = [[2, 1, 4], [0, 3]] := by decide +kernel
end Go.Proofs.YtpfinkdpaomliaaGreat
