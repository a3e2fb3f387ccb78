/- Lemmas on the way to the law LoaderWaits. -/
import Derived.Test.YtplphgmdjogloaaGreatDoorLwC
set_option linter.unusedVariables false
set_option linter.unusedSimpArgs false
set_option linter.unusedVariables false
set_option maxRecDepth 1000000
namespace Go.Proofs.YtplphgmdjogloaaGreatDoor
open Go Go.Ex Go.RowKit
theorem p3 (n : Int) : ckB 107 wN8 wL8 wA8 (exL En orc0 100000 pre3 (mkT (wT6 n) 107) (mkA wN6 wA6)) = true := by kernel_rfl
theorem p3s (n : Int) : slot0 (exL En orc0 100000 pre3 (mkT (wT6 n) 107) (mkA wN6 wA6)) = .int .u8 n := by kernel_rfl
end Go.Proofs.YtplphgmdjogloaaGreatDoor
