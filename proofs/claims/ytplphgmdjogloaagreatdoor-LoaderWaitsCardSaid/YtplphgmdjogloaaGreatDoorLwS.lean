/- Lemmas on the way to the law LoaderWaits. -/
import Derived.Test.YtplphgmdjogloaaGreatDoorLwR0
import Derived.Test.YtplphgmdjogloaaGreatDoorPb2
set_option linter.unusedVariables false
set_option linter.unusedSimpArgs false
set_option linter.unusedVariables false
set_option maxRecDepth 1000000
namespace Go.Proofs.YtplphgmdjogloaaGreatDoor
open Go Go.Ex Go.RowKit
def orc3 : Orc := fun g args A => match g, args with
  | 16, [] => some (.bool true, A)
  | _, _ => none
theorem orc3_ok : OrcOk En orc3 := by
  intro g args A v A' h
  unfold orc3 at h
  split at h
  · cases h
    exact Ev.closed (l := []) envOk awake21 rfl (by decide) (fun x hx => by cases hx) (fun id o h => by simp [startA, AH.get, Trie.get_leaf] at h)
  · cases h
def retB : Option Out → Option (Value × Nat)
  | some (.code .ret T [] A) => some (T.get 2, T.n)
  | _ => none
theorem s1 (n i : Int) (y : Nat → Value) : retB (exo En orc3 100000 (.code suf none (hd3 n i y false) [] Hd)) = some (.bool true, 107) := by kernel_rfl
end Go.Proofs.YtplphgmdjogloaaGreatDoor
