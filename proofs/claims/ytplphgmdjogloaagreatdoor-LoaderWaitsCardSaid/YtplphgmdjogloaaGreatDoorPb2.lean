/- Lemmas: the program of this seat fits the executor. -/
import Derived.Test.YtplphgmdjogloaaGreatDoorPb1
set_option linter.unusedVariables false
set_option linter.unusedSimpArgs false
set_option linter.unusedVariables false
set_option linter.unusedSimpArgs false
set_option maxRecDepth 1000000
namespace Go.Proofs.YtplphgmdjogloaaGreatDoor
open Go Go.Ex Go.RowKit
def A0 : AH := startA 6 []
theorem awake21 : plainRun (startA 6 []) (ex En 100000 (.fn 16 [] (startA 6 []))) = some (.bool true) := by kernel_rfl
end Go.Proofs.YtplphgmdjogloaaGreatDoor
