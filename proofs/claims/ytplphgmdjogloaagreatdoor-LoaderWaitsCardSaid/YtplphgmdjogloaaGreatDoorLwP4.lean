/- Lemmas on the way to the law LoaderWaits. -/
import Derived.Test.YtplphgmdjogloaaGreatDoorLwC
set_option linter.unusedVariables false
set_option linter.unusedSimpArgs false
set_option linter.unusedVariables false
set_option maxRecDepth 1000000
namespace Go.Proofs.YtplphgmdjogloaaGreatDoor
open Go Go.Ex Go.RowKit
theorem p4 (n : Int) : ckB 107 wN10 wL10 wA10 (exL En orc0 100000 pre4 (mkT (wT8 n) 107) (mkA wN8 wA8)) = true := by kernel_rfl
theorem p4s (n : Int) : slot0 (exL En orc0 100000 pre4 (mkT (wT8 n) 107) (mkA wN8 wA8)) = .int .u8 n := by kernel_rfl
theorem p5 (n : Int) : ckB 107 wN11 wL11 wA11 (exL En orc0 100000 [r18] (mkT (wT10 n) 107) (mkA wN10 wA10)) = true := by kernel_rfl
theorem p5s (n : Int) : slot0 (exL En orc0 100000 [r18] (mkT (wT10 n) 107) (mkA wN10 wA10)) = .int .u8 n := by kernel_rfl
end Go.Proofs.YtplphgmdjogloaaGreatDoor
