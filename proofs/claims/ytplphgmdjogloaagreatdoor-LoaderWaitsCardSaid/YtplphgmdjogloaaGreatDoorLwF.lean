/- Lemmas on the way to the law LoaderWaits. -/
import Derived.Test.YtplphgmdjogloaaGreatDoorLwZ
set_option linter.unusedVariables false
set_option linter.unusedSimpArgs false
set_option maxRecDepth 1000000
set_option maxHeartbeats 0
namespace Go.Proofs.YtplphgmdjogloaaGreatDoor.loaderWaits
open Go.ChangeShapes Go.WideShapes Go.ChangeAt Go.RowKit Go.Ex
theorem both {a b : Bool} (h : a = true) (k : b = true) : (a && b) = true := by rw [h, k]; rfl
theorem facts : joinedFacts Tryz.pinned.checked.prog 3 Tryz.f3 (OpenSpec.ofChange Rows.loaderWaitsSpec).bare Rows.loaderWaitsRow = true := by
  unfold joinedFacts
  iterate 31 refine both ?_ ?_
  all_goals as_aux_lemma => kernel_rfl
end Go.Proofs.YtplphgmdjogloaaGreatDoor.loaderWaits
