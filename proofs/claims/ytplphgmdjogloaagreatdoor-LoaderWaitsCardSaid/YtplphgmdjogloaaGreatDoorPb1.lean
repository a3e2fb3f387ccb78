/- Lemmas: the program of this seat fits the executor. -/
import Derived.Test.YtplphgmdjogloaaGreatDoorExI
import Derived.Lib.MakeNoZero
import Derived.Test.YtplphgmdjogloaaGreatDoorSyC
import Derived.Test.YtplphgmdjogloaaGreatDoorCards
set_option linter.unusedVariables false
set_option linter.unusedSimpArgs false
set_option linter.unusedVariables false
set_option linter.unusedSimpArgs false
set_option maxRecDepth 100000
namespace Go.Ex
open Go Go.RowKit

theorem run_callFunc_ext {P : Program} {f : FuncId} {fn : Func} {e : Array Value → Sem Value} (hf : P.funcs[f]? = some fn) (hname : (fn.name == "runtime.NumGoroutine") = false) (hb : fn.body = none) (hn : Extern.findNext fn = none) (he : Extern.find fn = some e) (args : Array Value) (w : World) :
    (callFunc f args).run P w = ((e args).run P w).andThen fun v w' => .ok (.value v) w' := by
  unfold callFunc
  simp only [Sem.run_bind, run_program, Result.andThen_ok, hf, hname, hb, hn, he, Option.isNone_none, if_true, Bool.false_eq_true, if_false, Sem.run_bind, run_mark, Sem.run_pure]
/-- No function is the count of goroutines. -/
theorem names_ok {P : Program} (h : (P.funcs.toList.all fun fn => !(fn.name == "runtime.NumGoroutine")) = true) (g : Nat) (fn : Func) (hg : P.funcs[g]? = some fn) : (fn.name == "runtime.NumGoroutine") = false := by
  rw [List.all_eq_true] at h
  have := h fn (by rw [← Array.getElem?_toList] at hg; exact List.mem_of_getElem? hg)
  simpa using this
theorem memF_one {f g : Nat} (h : memF f [g] = true) : f = g := by
  rw [memF] at h
  split at h
  · rename_i hb; exact Nat.eq_of_beq_eq_true hb
  · cases h
theorem mnz_run {P : Program} {f : FuncId} {fn : Func} {rt e : TypeId} (hf : P.funcs[f]? = some fn) (hname : (fn.name == "runtime.NumGoroutine") = false) (hb : fn.body = none) (hn : Extern.findNext fn = none) (ps : Array TypeId)
    (he : Extern.find fn = some (Extern.BytealgMakeNoZero.makeNoZero ps #[rt])) (hu : P.underlying rt = some (.slice e)) (hs : sizeT P e = some 1) (n : Int) (w : World) (h0 : 0 ≤ n) (h48 : n ≤ 281474976710656) :
    ∃ cs d, n.toNat ≤ cs.size ∧ sizeT P e = some 1 ∧ (callFunc f #[.int .i64 n]).run P w = .ok (.value (.slice (some ⟨w.heap.size, 0, none⟩) n.toNat cs.size)) { (w.alloc (.cells cs e (0, 0))) with drawn := d } := by
  obtain ⟨cs, h1, h2, _⟩ := Lib.run_makeNoZero (P := P) w ps rt e hu n.toNat (by omega)
  refine ⟨cs, w.drawn + 1 + 1, h2, hs, ?_⟩
  rw [run_callFunc_ext hf hname hb hn he]
  have : ((n.toNat : Nat) : Int) = n := Int.toNat_of_nonneg h0
  rw [this] at h1
  rw [h1]; rfl
end Go.Ex
namespace Go.Proofs.YtplphgmdjogloaaGreatDoor
open Go Go.Ex Go.RowKit
noncomputable def En : Env := { P := Tryz.prog, G := 6, noesc := [271], mnz := [314], clone := [297] }
theorem names : (Tryz.prog.funcs.toList.all fun fn => !(fn.name == "runtime.NumGoroutine")) = true := by kernel_rfl
theorem mixed : Tryz.prog.follows .mixedOrders = true := by kernel_rfl
theorem envOk : EnvOk En where
  name := names_ok names
  mixed := mixed
  noesc := fun g hg v w => by
    obtain rfl := memF_one hg
    rw [show En.P = Tryz.prog from rfl, run_callFunc_ext (e := Extern.AbiNoEscape.same) Tryz.func271 (by kernel_rfl) (by kernel_rfl) (by kernel_rfl) (by kernel_rfl)]
    rfl
  mnz := fun g fn rt e hg hfn hrt hu n w h0 h48 => by
    obtain rfl := memF_one hg
    obtain rfl := Option.some.inj (Tryz.func314.symm.trans hfn)
    have hr : Tryz.f314.resultTypes = #[rt] := by
      have h1 : Tryz.f314.resultTypes.toList.length = 1 := by kernel_rfl
      apply Array.ext'
      cases hl : Tryz.f314.resultTypes.toList with
      | nil => rw [hl] at h1; cases h1
      | cons x r =>
        rw [hl] at h1 hrt
        cases hrt
        cases r with
        | nil => rfl
        | cons y r => cases h1
    have hx : Extern.find Tryz.f314 = some (Extern.BytealgMakeNoZero.makeNoZero Tryz.f314.params Tryz.f314.resultTypes) := by kernel_rfl
    rw [hr] at hx
    refine mnz_run Tryz.func314 (by kernel_rfl) (by kernel_rfl) (by kernel_rfl) _ hx hu ?_ n w h0 h48
    have h2 : (match Tryz.f314.resultTypes.toList with | [t] => (match Tryz.prog.underlying t with | some (.slice e) => decide (sizeT Tryz.prog e = some 1) | _ => false) | _ => false) = true := by kernel_rfl
    rw [hr] at h2
    rw [show En.P = Tryz.prog from rfl] at hu
    simp only [hu] at h2
    exact of_decide_eq_true h2
  clone := fun g hg ty r es clock w hr => by
    obtain rfl := memF_one hg
    rw [show En.P = Tryz.prog from rfl, run_callFunc_ext (e := Extern.MapsClone.clone) Tryz.func297 (by kernel_rfl) (by kernel_rfl) (by kernel_rfl) (by kernel_rfl)]
    have e : Extern.MapsClone.clone #[.iface ty (.map (some r))] = (getObj r >>= fun o => match o with
      | .map entries clock => (newObj (.map entries clock) >>= fun r' => pure (.iface ty (.map (some r'))))
      | _ => stuck "maps.clone: a map expected") := rfl
    rw [e]
    simp only [Sem.run_bind, run_getObj (P := Tryz.prog) hr (fun _ _ _ => by simp), Result.andThen_ok]
    rfl
end Go.Proofs.YtplphgmdjogloaaGreatDoor
