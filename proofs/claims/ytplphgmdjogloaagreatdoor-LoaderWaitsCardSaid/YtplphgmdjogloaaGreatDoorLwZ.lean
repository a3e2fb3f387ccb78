/- The law 'LoaderWaits' answers true for every number and leaves its number as it was: the statement and its card. -/
import Derived.Test.YtplphgmdjogloaaGreatDoorLwX
import Derived.Test.YtplphgmdjogloaaGreatDoorExI
import Derived.Test.YtplphgmdjogloaaGreatDoorTie
import Derived.WalkKit
import Derived.ProofKit
import Derived.OpenShut
import Derived.Deep.DeepHandedRow
import Derived.Deep.DeepLaidRun
import Derived.Below
set_option linter.unusedVariables false
set_option linter.unusedSimpArgs false
set_option linter.unusedVariables false
set_option linter.unusedSimpArgs false
set_option maxRecDepth 1000000
namespace Go.Proofs.YtplphgmdjogloaaGreatDoor.loaderWaits
open Go.ChangeShapes Go.WideShapes Go.ChangeAt Go.RowKit Go.Ex
theorem own : ownKnob Tryz.prog.godebug = none := by kernel_rfl

/-- A contract out of a run of one function from the start of a call. -/
theorem calls_at {E : Env} {g : FuncId} {args us : List Value} {A' : AH} (h : Ev E (.fn g args (startA E.G [])) (.val (.bool true) A')) {W : World} (hG : E.G < 1099511627775) (hsz : E.G ≤ W.heap.size) (hv : VRL (startR E.G) args us) :
    Calls E.P g us.toArray W fun e w' => e = .returned (.bool true) ∧ Below W.heap.size W w' := by
  have R := start_rel (P := E.P) (G := E.G) (W := W) (l := []) hG hsz (fun x hx => by cases hx)
  refine callsIn_wide.1 (h _ _ _ us W _ R hv ?_)
  intro ρ' u w' _ hv' R' _
  exact ⟨by rw [show u = .bool true from hv'], R'.below⟩

/-- The row's last step, where new blocks may be marked and the old stand. -/
theorem post_under {H : Type} {enc : TypeId × Value → H} {P : Program} {f : Func} {s : ChangeSpec} {apart fresh handsOn again : Bool} {W W' : World} {args : Array Value} {v : Value} {ds gs : List (DataW H)} {before : List MemPlace}
    (hW : DataW.Whole enc P f.params.toList s.vars apart W args.toList ds gs before) (hb : Below W.heap.size W W') (hempty : before = [])
    (hres : ∀ (b : Nat) (sp : Nat → Bool) (hd : Bool), DataW.TrodAll enc P W' b sp hd f.resultTypes.toList (v.resultList f.resultTypes.size) (s.fn H (ds ++ gs)).results [])
    (hargs : ∀ sp : Nat → Bool, DataW.TrodAll enc P W' 0 sp true f.params.toList args.toList (s.fn H (ds ++ gs)).args [])
    (hvars : ∀ sp : Nat → Bool, DataW.TrodVars enc P W' sp s.vars (s.fn H (ds ++ gs)).vars [])
    (hok : ∀ (j : Nat) (t : TypeId) (r : Value), f.resultTypes[j]? = some t → (v.resultList f.resultTypes.size)[j]? = some r → Value.okWide P W' .any 0 t r) :
    s.post enc P f apart fresh handsOn again W args v W' := by
  subst hempty
  refine ⟨ds, gs, [], [], [], [], hW, hres _ _ _, hargs _, hvars _, World.keptBut_mono (fun p hp => by cases hp) (hb.frame (· ∈ ([] : List MemPlace))), fun _ => ?_⟩
  refine ⟨hok, _, _, [], ⟨[], [], trodAll_append (hargs _) (hres _ _ _), hvars _, rfl, fun b off (hp : MemPlace.cell b off ∈ []) => (nomatch hp), fun _ => List.nodup_nil⟩, fun p hp => (nomatch hp)⟩

theorem size6 {W : World} (h : W.ShapedOpen Tryz.prog) : 6 ≤ W.heap.size := by
  have hz : (match ((begin Tryz.prog (fun _ _ => 0) default).world.heap[5]?).bind Obj.row? with | some _ => true | none => false) = true := by kernel_rfl
  cases hr : ((begin Tryz.prog (fun _ _ => 0) default).world.heap[5]?).bind Obj.row? with
  | none => rw [hr] at hz; cases hz
  | some p =>
    obtain ⟨zero, t⟩ := p
    obtain ⟨cs, hcs, _⟩ := h.1 5 zero t (by show 5 < Tryz.prog.globals.size; exact of_decide_eq_true (by kernel_rfl)) hr
    have := (Array.getElem?_eq_some_iff.1 hcs).1
    omega

/-- What the call does: in every world it comes to true and leaves the old memory as it was. -/
theorem walk (n : Int) (h0 : 0 ≤ n) (h1 : n ≤ 255) (W : World) (hsz : 6 ≤ W.heap.size) :
    Calls Tryz.prog 3 #[.int .u8 n] W fun e w' => e = .returned (.bool true) ∧ Below W.heap.size W w' := by
  obtain ⟨A', h⟩ := fn3 n h0 h1
  exact calls_at (E := En) (us := [.int .u8 n]) h (by show 6 < _; omega) hsz (VRL.plain _ (by kernel_rfl))

theorem contract (H : Type) (enc : TypeId × Value → H) (W : World) (base : Nat) (args : Array Value) (ds gs : List (DataW H)) (before : List MemPlace)
    (hval : ∀ (j : Nat) t v, Tryz.f3.params[j]? = some t → args[j]? = some v → Value.okWide Tryz.prog W .any base t v)
    (hW : DataW.Whole enc Tryz.prog Tryz.f3.params.toList Rows.loaderWaitsSpec.vars false W args.toList ds gs before) (hsz : 6 ≤ W.heap.size) :
    Calls Tryz.prog 3 args W fun e W' => ∃ v, e = .returned v ∧ Rows.loaderWaitsSpec.post enc Tryz.prog Tryz.f3 false true false false W args v W' := by
  have hW' := hW
  obtain ⟨p, q, hA0, hV, rfl, hfz, hnd⟩ := hW
  have hA : DataW.TrodAll enc Tryz.prog W 0 (fun _ => true) true Tryz.f3.params.toList args.toList ds p := hA0
  rw [Tryz.params3] at hA hval
  obtain ⟨v0, vs0, d0, ds0, p0, q0, hargs, rfl, rfl, h0, r0⟩ := trodAll_cons hA
  obtain ⟨rfl, rfl, rfl⟩ := trodAll_nil r0
  obtain rfl : args = #[v0] := by cases args; simp_all
  obtain ⟨rfl, rfl⟩ := trodVars_none hV
  obtain ⟨a0, rfl, rfl, rfl, w0⟩ := open_int Tryz.underlying5 (hval 0 5 v0 rfl rfl) h0
  clear hA0
  simp only [List.append_nil] at hW'
  have hb := bounds_u8 w0
  refine (walk a0 (by omega) (by omega) W hsz).mono fun e W' ⟨he, hg⟩ => ?_
  subst he
  exact ⟨_, rfl, post_under hW' hg rfl (fun _ _ _ => trodAll_cons_mk (shut_bool Tryz.underlying4 _) trodAll_mk0) (fun _ => trodAll_cons_mk (shut_int Tryz.underlying5 w0) trodAll_mk0) (fun _ => rfl)
    (ok_one (by kernel_rfl) rfl (okWide_bool_mk Tryz.underlying4 _))⟩

/-! A world for the witness: the two tables hold what the program's text lays. -/
def firstC : Array Value := (Go.Pinned.utf8FirstZ.map fun n => Value.int .u8 (Int.ofNat n)).toArray
def rangesC : Array Value := (([128, 191, 160, 191, 128, 159, 144, 191, 128, 143] ++ List.replicate 22 0 : List Int).map fun n => Value.int .u8 n).toArray
def putC (c : Array Value) : Obj → Obj
  | .cells _ t frozen => .cells c t frozen
  | o => o
noncomputable def laidWorld (os : Os) : World :=
  { World.holding Tryz.prog os ⟨#[], #[], []⟩ with heap := ((World.holding Tryz.prog os ⟨#[], #[], []⟩).heap.modify 2 (putC firstC)).modify 3 (putC rangesC) }
theorem laid_met (os : Os) : laidMet Tryz.prog Rows.loaderWaitsRow.laid ((laidWorld os).forCall (fun _ _ => 0) ⟨#[], #[.int .u8 0], []⟩).memory :=
  laidMet_of_run3 8 (by kernel_rfl) (by kernel_rfl) (by kernel_rfl)
theorem reads (os : Os) {H : Type} (enc : TypeId × Value → H) : ∃ places, DataW.whole enc Tryz.prog ((laidWorld os).forCall (fun _ _ => 0) ⟨#[], #[.int .u8 0], []⟩).memory Tryz.f3.params.toList Rows.loaderWaitsSpec.vars false #[Value.int .u8 0].toList 8 = some ([.lit (.int .u8 0)], [], places) :=
  ⟨[], by kernel_rfl⟩
theorem lifted (os : Os) (started : os.Started) (H : Type) (enc : TypeId × Value → H) (F : Stop.Interp) :
    ReturnsInHanded {} Tryz.checked os 3 .any ((OpenSpec.ofChange Rows.loaderWaitsSpec).preRow enc Tryz.prog Tryz.f3 Rows.loaderWaitsRow.domain false Rows.loaderWaitsRow.laid) (((OpenSpec.ofChange Rows.loaderWaitsSpec).at F).post enc Tryz.prog Tryz.f3 false true false false) := by
  obtain ⟨places, hx⟩ := reads os enc
  refine returnsInHanded_of_row (C := Tryz.checked) (s := OpenSpec.ofChange Rows.loaderWaitsSpec) own started (by kernel_rfl) Tryz.func3
    (witness_row_at (enc := enc) (C := Tryz.checked) false (laidWorld os) #[.int .u8 0] rfl (by kernel_rfl) (by kernel_rfl) (by kernel_rfl)
      (OpenSpec.preRow_of_cond 8 hx (by kernel_rfl) (fun k hk => by cases hk) (by kernel_rfl) (laid_met os))) ?_
  intro W base args ds gs before hval hW _ _ _ hL hsh _
  exact contract H enc W base args ds gs before hval hW (size6 hsh)
end Go.Proofs.YtplphgmdjogloaaGreatDoor.loaderWaits
