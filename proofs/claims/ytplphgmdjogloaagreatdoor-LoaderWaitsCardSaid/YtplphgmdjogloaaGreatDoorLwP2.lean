/- Lemmas on the way to the law LoaderWaits. -/
import Derived.Test.YtplphgmdjogloaaGreatDoorLwC
set_option linter.unusedVariables false
set_option linter.unusedSimpArgs false
set_option linter.unusedVariables false
set_option maxRecDepth 1000000
namespace Go.Proofs.YtplphgmdjogloaaGreatDoor
open Go Go.Ex Go.RowKit
theorem p2 (n : Int) : ckB 107 wN6 wL6 wA6 (exL En orc0 100000 pre2 (mkT (wT4 n) 107) (mkA wN4 wA4)) = true := by kernel_rfl
theorem p2s (n : Int) : slot0 (exL En orc0 100000 pre2 (mkT (wT4 n) 107) (mkA wN4 wA4)) = .int .u8 n := by kernel_rfl
end Go.Proofs.YtplphgmdjogloaaGreatDoor
