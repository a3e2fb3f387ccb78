/- Lemmas on the way to the law LoaderWaits. -/
import Derived.Test.YtplphgmdjogloaaGreatDoorLwC
import Derived.Test.YtplphgmdjogloaaGreatDoorSyD
set_option linter.unusedVariables false
set_option linter.unusedSimpArgs false
set_option linter.unusedVariables false
set_option maxRecDepth 1000000
namespace Go.Proofs.YtplphgmdjogloaaGreatDoor
open Go Go.Ex Go.RowKit
def Hd : AH := mkA 1000 wA11
def deadL : List Nat := [9, 10, 54, 55, 56, 57, 58, 59, 60, 61, 62, 63, 64, 65, 66, 67, 68, 69, 70, 71, 72, 73, 74, 75, 76, 77, 78, 79, 80, 81, 82, 83, 84]
def tb (n : Int) : Trie Value := (mkT (wT11 n) 107).t
def Th (n : Int) (i : Int) (y : Nat → Value) : TT := ⟨headT [8] deadL [.int .i64 i] y (tb n) 107 .leaf, 107⟩
def hd3 (n i : Int) (y : Nat → Value) (b : Bool) : TT := ((((Th n i y).put (some 54) (.int .i64 i)).put (some 55) (.int .u8 n)).put (some 56) (.int .i64 (IntKind.i64.wrap n))).put (some 57) (.bool b)
noncomputable def rr (n i : Int) (y : Nat → Value) : Option (TT × AH) := stNorm (exo En orc0 100000 (.code rest3 none (hd3 n i y true) [] Hd))
def rOk : Option (TT × AH) → Bool
  | some (T, A) => Nat.beq T.n 107 && Nat.ble 1000 A.next && (List.range 107).all (fun k => okV (downP 542 1000) (slot T.t k))
  | none => false
def rRest : Option (TT × AH) → List Value × Value × List (Option AObj)
  | some (T, A) => (restL [8] deadL T.t 107, slot T.t 8, (wA11.map (·.1)).map A.get)
  | none => ([], undef, [])
end Go.Proofs.YtplphgmdjogloaaGreatDoor
