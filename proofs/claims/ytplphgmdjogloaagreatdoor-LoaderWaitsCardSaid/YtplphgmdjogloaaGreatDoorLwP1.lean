/- Lemmas on the way to the law LoaderWaits. -/
import Derived.Test.YtplphgmdjogloaaGreatDoorLwC
set_option linter.unusedVariables false
set_option linter.unusedSimpArgs false
set_option linter.unusedVariables false
set_option maxRecDepth 1000000
namespace Go.Proofs.YtplphgmdjogloaaGreatDoor
open Go Go.Ex Go.RowKit
theorem p1 (n : Int) : ckB 107 wN4 wL4 wA4 (exL En orc0 100000 pre1 (mkT [.int .u8 n] 107) (startA 6 [])) = true := by kernel_rfl
theorem p1s (n : Int) : slot0 (exL En orc0 100000 pre1 (mkT [.int .u8 n] 107) (startA 6 [])) = .int .u8 n := by kernel_rfl
end Go.Proofs.YtplphgmdjogloaaGreatDoor
