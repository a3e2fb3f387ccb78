/- Lemmas on the way to the law LoaderWaits. -/
import Derived.Test.YtplphgmdjogloaaGreatDoorLwR0
set_option linter.unusedVariables false
set_option linter.unusedSimpArgs false
set_option linter.unusedVariables false
set_option maxRecDepth 1000000
namespace Go.Proofs.YtplphgmdjogloaaGreatDoor
open Go Go.Ex Go.RowKit
theorem r1 (n i : Int) (y : Nat → Value) : (rOk (rr n i y), rRest (rr n i y)) = (true, (restL [8] deadL (tb n) 107, .int .i64 (IntKind.i64.wrap (i + 1)), wA11.map fun x => some x.2)) := by kernel_rfl
theorem r4 (n : Int) : (restL [8] deadL (tb n) 107).all (okV fun i => Nat.blt i 542) = true := by kernel_rfl
end Go.Proofs.YtplphgmdjogloaaGreatDoor
