/- Lemmas: runs of code with open values, under the conditions that each theorem names. -/
import Derived.Test.YtplphgmdjogloaaGreatDoorExI
set_option linter.unusedVariables false
set_option linter.unusedSimpArgs false
set_option linter.unusedVariables false
set_option linter.unusedSimpArgs false
namespace Go.Ex
open Go Go.RowKit

/-! ### What a task comes to -/
def Ev (E : Env) (k : Task) (o : Out) : Prop := ∀ B w0, TaskOk E B w0 k o

section
variable {E : Env} {B : Nat} {w0 : Base} {w w' : World} {ρ ρ' : Ren} {A A' A1 A2 : AH} {T T' T1 T2 : TT} {ds ds' ds1 ds2 : List Nat} {ro : Option Nat} {x : AX} {c d : Code} {o : Out}

theorem Ev.of_ex (hE : EnvOk E) {f : Nat} {k : Task} {o : Out} (h : ex E f k = some o) : Ev E k o := fun B w0 => sound_ex hE f B w0 k o h

theorem Ev.skip : Ev E (.code .skip ro T ds A) (.code .normal T ds A) := fun B w0 ρ a w ro' Q R hT hok hd hro hQ => wpIn_skip (hQ ρ a w (Ren.le_refl ρ) R (Keep.refl A) hT hok hd)
theorem Ev.exit {id : Nat} : Ev E (.code (.exit id) ro T ds A) (.code (.exit id) T ds A) := fun B w0 ρ a w ro' Q R hT hok hd hro hQ => wpIn_exit (hQ ρ a w (Ren.le_refl ρ) R (Keep.refl A) hT hok hd)
theorem Ev.ret : Ev E (.code .ret ro T ds A) (.code .ret T ds A) := fun B w0 ρ a w ro' Q R hT hok hd hro hQ => wpIn_ret (hQ ρ a w (Ren.le_refl ρ) R (Keep.refl A) hT hok hd)
theorem Ev.label {l : Nat} : Ev E (.code (.label l) ro T ds A) (.code .normal T ds A) := fun B w0 ρ a w ro' Q R hT hok hd hro hQ => wpIn_label (hQ ρ a w (Ren.le_refl ρ) R (Keep.refl A) hT hok hd)
theorem Ev.seq (h1 : Ev E (.code c ro T ds A) (.code .normal T1 ds1 A1)) (h2 : Ev E (.code d ro T1 ds1 A1) (.code x T2 ds2 A2)) : Ev E (.code (.seq c d) ro T ds A) (.code x T2 ds2 A2) := by
  intro B w0 ρ a w ro' Q R hT hok hd hro hQ
  refine wpIn_seq (h1 B w0 ρ a w ro' _ R hT hok hd hro ?_)
  intro ρ1 a1 w1 k1 k2 k3 k4 k5 k6
  exact h2 B w0 ρ1 a1 w1 ro' Q k2 k4 k5 k6 (hro.mono k1) (fun ρ' a' w' j1 j2 j3 j4 j5 j6 => hQ ρ' a' w' (Ren.le_trans k1 j1) j2 (k3.trans j3) j4 j5 j6)
theorem Ev.seq_out (h1 : Ev E (.code c ro T ds A) (.code x T1 ds1 A1)) (hx : x ≠ .normal) : Ev E (.code (.seq c d) ro T ds A) (.code x T1 ds1 A1) := by
  intro B w0 ρ a w ro' Q R hT hok hd hro hQ
  refine wpIn_seq (h1 B w0 ρ a w ro' _ R hT hok hd hro ?_)
  intro ρ1 a1 w1 k1 k2 k3 k4 k5 k6
  have := hQ ρ1 a1 w1 k1 k2 k3 k4 k5 k6
  cases x with
  | normal => exact absurd rfl hx
  | ret => exact this
  | exit id => exact this
theorem Ev.cond {y : Operand} {t : Bool} (hy : evO E T y = some (.bool t)) (h : Ev E (.code (if t then c else d) ro T ds A) (.code x T1 ds1 A1)) : Ev E (.code (.cond y c d) ro T ds A) (.code x T1 ds1 A1) := by
  intro B w0 ρ a w ro' Q R hT hok hd hro hQ
  exact wpIn_cond (t := t) (evO_VR R hT hok hy) (h B w0 ρ a w ro' Q R hT hok hd hro hQ)
theorem Ev.block {id : Nat} (h : Ev E (.code c ro T ds A) (.code x T1 ds1 A1)) : Ev E (.code (.block id c) ro T ds A) (.code (match x with | .exit id' => if id' = id then .normal else x | y => y) T1 ds1 A1) := by
  intro B w0 ρ a w ro' Q R hT hok hd hro hQ
  refine wpIn_block (h B w0 ρ a w ro' _ R hT hok hd hro ?_)
  intro ρ1 a1 w1 k1 k2 k3 k4 k5 k6
  have := hQ ρ1 a1 w1 k1 k2 k3 k4 k5 k6
  cases x with
  | normal => exact this
  | ret => exact this
  | exit id' =>
    by_cases he : id' = id
    · subst he; simpa [exO, Exit.inBlock] using this
    · simpa [exO, Exit.inBlock, he] using this
theorem Ev.scope (h : Ev E (.code c ro T ds A) (.code x T1 ds1 A1)) : Ev E (.code (.scope c) ro T ds A) (.code x T1 ds1 A1) := by
  intro B w0 ρ a w ro' Q R hT hok hd hro hQ
  refine wpIn_scope_straight (h B w0 ρ a w ro' _ R hT hok hd hro ?_)
  intro ρ1 a1 w1 k1 k2 k3 k4 k5 k6
  exact ⟨(fun l e => by cases x <;> cases e), hQ ρ1 a1 w1 k1 k2 k3 k4 k5 k6⟩

/-! ### A loop -/
inductive LoopEv (E : Env) (c : Code) (ro : Option Nat) (x : AX) (T' : TT) (ds' : List Nat) (A' : AH) : Nat → TT → List Nat → AH → Prop
  | stop {n : Nat} {T : TT} {ds : List Nat} {A : AH} (h : Ev E (.code c ro T ds A) (.code x T' ds' A')) (hx : x ≠ .normal) : LoopEv E c ro x T' ds' A' (n + 1) T ds A
  | more {n : Nat} {T T1 : TT} {ds ds1 : List Nat} {A A1 : AH} (h : Ev E (.code c ro T ds A) (.code .normal T1 ds1 A1)) (r : LoopEv E c ro x T' ds' A' n T1 ds1 A1) : LoopEv E c ro x T' ds' A' (n + 1) T ds A
theorem LoopEv.ev {n : Nat} (h : LoopEv E c ro x T' ds' A' n T ds A) : Ev E (.code (.loop c) ro T ds A) (.code x T' ds' A') := by
  intro B w0 ρ a w ro' Q R hT hok hd hro hQ
  refine wpIn_loop_count (fun j a' w' => ∃ ρ1 T1 ds1 A1, LoopEv E c ro x T' ds' A' j T1 ds1 A1 ∧ Ren.le ρ ρ1 ∧ Rel E.P E.G B w0 ρ1 A1 w' ∧ Keep A A1 ∧ TTR ρ1 T1 a'.tmps ∧ T1.ok ∧ DsR ρ1 ds1 a'.defers) n
    ⟨ρ, T, ds, A, h, Ren.le_refl ρ, R, Keep.refl A, hT, hok, hd⟩ (fun a w h => by obtain ⟨_, _, _, _, h, _⟩ := h; cases h) ?_
  intro j a1 w1 hI
  obtain ⟨ρ1, T1, ds1, A1, hl, hle, R1, k1, hT1, hok1, hd1⟩ := hI
  cases hl with
  | stop hb hx =>
    refine hb B w0 ρ1 a1 w1 ro' _ R1 hT1 hok1 hd1 (hro.mono hle) ?_
    intro ρ2 a2 w2 e1 e2 e3 e4 e5 e6
    have := hQ ρ2 a2 w2 (Ren.le_trans hle e1) e2 (k1.trans e3) e4 e5 e6
    cases x with
    | normal => exact absurd rfl hx
    | ret => exact this
    | exit id => exact this
  | more hb hr =>
    refine hb B w0 ρ1 a1 w1 ro' _ R1 hT1 hok1 hd1 (hro.mono hle) ?_
    intro ρ2 a2 w2 e1 e2 e3 e4 e5 e6
    exact ⟨ρ2, _, _, _, hr, Ren.le_trans hle e1, e2, k1.trans e3, e4, e5, e6⟩

/-! ### Equal frames -/
def TT.Eq (T T' : TT) : Prop := T'.n = T.n ∧ ∀ k, T'.get k = T.get k
theorem TT.Eq.refl (T : TT) : TT.Eq T T := ⟨rfl, fun _ => rfl⟩
theorem TT.Eq.put_same {T : TT} (hn : T.n ≤ 4000) {k : Nat} {v : Value} (h : T.get k = v) : TT.Eq T (T.put (some k) v) := by
  refine ⟨TT.put_n _ _ _, fun j => ?_⟩
  rw [TT.get_put hn]
  by_cases hj : k < T.n ∧ j = k
  · rw [if_pos hj, hj.2, h]
  · rw [if_neg hj]

/-! ### A function -/
theorem Ev.fn {g : FuncId} {fn : Func} (hf : E.P.funcs[g]? = some fn) (hb : fn.body = some c) {args : List Value} (hm : max args.length fn.ntmps ≤ 4000)
    (h : Ev E (.code c none { t := TT.ofList args 0 .leaf, n := max args.length fn.ntmps } [] A) (.code x T1 ds1 A1)) (hx : ∀ id, x ≠ .exit id) (ht : takeAll ds1 A1 = some A2) {vs : List Value} (hr : aresults E.P fn.results.toList T1 A2 = some vs) {v : Value}
    (hv : v = match vs with | [v] => v | vs => .tuple ⟨vs⟩) : Ev E (.fn g args A) (.val v A2) := by
  intro B w0
  have hS : Sound E (fun k => by classical exact if k = .code c none { t := TT.ofList args 0 .leaf, n := max args.length fn.ntmps } [] A then some (.code x T1 ds1 A1) else none) := by
    intro B w0 k o hk
    simp only at hk
    split at hk
    · rename_i e; subst e; cases hk; exact h B w0
    · cases hk
  refine sound_fnStep hS ?_
  unfold fnStep
  simp only [hf, hb, show Nat.ble (max args.length fn.ntmps) 4000 = true from Nat.ble_eq_true_of_le hm, if_true]
  subst hv
  cases x with
  | exit id => exact absurd rfl (hx id)
  | normal =>
    simp only [ht, hr]
    match vs with
    | [v] => rfl
    | [] => rfl
    | _ :: _ :: _ => rfl
  | ret =>
    simp only [ht, hr]
    match vs with
    | [v] => rfl
    | [] => rfl
    | _ :: _ :: _ => rfl

/-- What a call made, and nothing leads to, is forgotten. -/
theorem Ev.back {g : FuncId} {args : List Value} {v : Value} (h : Ev E (.fn g args A) (.val v A')) (hv : plainV v = true) (hs : ∀ id, id < A.next → A'.get id = A.get id) : Ev E (.fn g args A) (.val v A) := by
  intro B w0 ρ us w RR R hvr hK
  refine h B w0 ρ us w RR R hvr ?_
  intro ρ' u w' hle hvu R' k
  have hu : VR ρ v u := by rw [VR.of_plain hv hvu]; exact VR.plain v hv
  exact hK ρ u w' (Ren.le_refl ρ) hu (R.back R' hle hs) (Keep.refl A)
end
end Go.Ex
set_option linter.unusedVariables false
set_option linter.unusedSimpArgs false
namespace Go.Ex
open Go Go.RowKit
section
variable {E : Env} {B : Nat} {w0 : Base} {w w' : World} {ρ ρ' : Ren} {A A' A1 A2 : AH} {T T' T1 T2 : TT} {ds ds' ds1 ds2 : List Nat} {ro : Option Nat} {x : AX} {c d : Code} {o : Oper} {v : Value}

/-! ### One operation -/
def OpEv (E : Env) (o : Oper) (T : TT) (A : AH) (v : Value) (A' : AH) : Prop := ∀ (B : Nat) (w0 : Base) (w : World) (ρ : Ren) (a : Act) (ro : Option Nat) (K : Act → World → Prop) (Q : Exit → Act → World → Prop), Rel E.P E.G B w0 ρ A w →
  (∀ x ∈ o.op.operands.toList, okX E x = true → VR ρ (evT T x) (a.eval x)) →
  (∀ ρ' u w', Ren.le ρ ρ' → VR ρ' v u → Rel E.P E.G B w0 ρ' A' w' → Keep A A' → K (a.put o.dst u) w') → o.wpIn (WF ro) 0 E.P a w K Q

theorem noSelf : Sound E (fun _ => none) := fun _ _ _ _ h => by cases h
theorem OpEv.val (hE : EnvOk E) (h : aop E o T A = some (.val v, none)) : OpEv E o T A v A := by
  intro B w0 w ρ a ro K Q R hop hK
  exact sound_opRun (v := v) (A1 := none) noSelf hE R hop (by unfold opRun; rw [h]) ro hK
theorem OpEv.mem (hE : EnvOk E) (h : aop E o T A = some (.val v, some A')) (hn : A.next < 1099511627775 → A'.next < 1099511627775) : OpEv E o T A v A' := by
  intro B w0 w ρ a ro K Q R hop hK
  refine sound_opRun (v := v) (A1 := some A') noSelf hE R hop (by
    unfold opRun; rw [h]
    simp only [show Nat.blt A'.next 1099511627775 = true from Nat.ble_eq_true_of_le (hn R.small)]) ro hK
theorem OpEv.call (hE : EnvOk E) {g : FuncId} {l : List Value} (h : aop E o T A = some (.enter g l, none)) (hc : Ev E (.fn g l A) (.val v A')) : OpEv E o T A v A' := by
  intro B w0 w ρ a ro K Q R hop hK
  refine ⟨fun _ _ => trivial, ?_⟩
  rw [Oper.semAt_eq _ _ _ (aop_noDefer h)]
  obtain ⟨_, us, hus, hrun⟩ := sound_op R hE hop h
  rw [hrun]
  refine ⟨(fun h => by cases h), ?_⟩
  refine callsIn_WF ro (hc B w0 ρ us w _ R hus ?_)
  intro ρ' u w' hle hv R' hk
  exact hK ρ' u w' hle hv R' hk
theorem OpEv.round (hE : EnvOk E) {l : Nat} {args : List Value} (h : aop E o T A = some (.round l args, none)) (hc : Ev E (.round l args A) (.val v A')) : OpEv E o T A v A' := by
  intro B w0 w ρ a ro K Q R hop hK
  refine ⟨fun _ _ => trivial, ?_⟩
  rw [Oper.semAt_eq _ _ _ (aop_noDefer h)]
  obtain ⟨_, x, us, hx, hus, hrun⟩ := sound_op R hE hop h
  rw [hrun]
  obtain ⟨fn, tmps, as, bd, hy, hr⟩ := hc B w0 ρ x us w (fun | .returned u, w'' => K (a.put o.dst u) w'' | .panicked chain, w'' => Q (.panic chain) a w'' | .outgrown, _ => LetsOut Q) R hx hus
    (fun ρ' u w' hle hv R' hk => hK ρ' u w' hle hv R' hk)
  rw [hy]
  exact ⟨(fun h => by cases h), roundIn_WF ro hr⟩

/-! ### A region in the order of its text -/
def OpsEv (E : Env) (ops : Array Oper) (l : List Oper) (T : TT) (A : AH) (T' : TT) (A' : AH) : Prop := ∀ (i : Nat), ops.toList.drop i = l → ∀ (B : Nat) (w0 : Base) (w : World) (ρ : Ren) (a : Act) (ro : Option Nat) (Q : Exit → Act → World → Prop),
  Rel E.P E.G B w0 ρ A w → TTR ρ T a.tmps → T.ok →
  (∀ ρ' a' w', Ren.le ρ ρ' → Rel E.P E.G B w0 ρ' A' w' → Keep A A' → TTR ρ' T' a'.tmps → T'.ok → a'.defers = a.defers → Q .normal a' w') → wpOpsIn (WF ro) 0 E.P ops Q (List.range' i l.length) a w
theorem OpsEv.nil {ops : Array Oper} : OpsEv E ops [] T A T A := fun i hi B w0 w ρ a ro Q R hT hok hQ => hQ ρ a w (Ren.le_refl ρ) R (Keep.refl A) hT hok rfl
theorem OpsEv.skip {ops : Array Oper} {rest : List Oper} (hw : wantedT ops.toList o T = false) (h : OpsEv E ops rest (T.put o.dst undef) A T' A') : OpsEv E ops (o :: rest) T A T' A' := by
  intro i hi B w0 w ρ a ro Q R hT hok hQ
  have ho : ops[i]? = some o := by
    have h1 : ops.toList[i]? = (ops.toList.drop i)[0]? := by simp
    rw [hi] at h1
    rw [← Array.getElem?_toList, h1]; rfl
  have hrest : ops.toList.drop (i + 1) = rest := by
    have : ops.toList.drop (i + 1) = (ops.toList.drop i).drop 1 := by rw [List.drop_drop]
    rw [this, hi]; rfl
  simp only [List.length_cons, List.range'_succ, wpOpsIn, ho]
  rw [wanted_run (T := T) (guard_TTR hT ops o)]
  simp only [hw, Bool.false_eq_true, if_false]
  exact ⟨fun _ _ => trivial, h (i + 1) hrest B w0 w ρ _ ro Q R (hT.put hok.1 o.dst undef_VR) (TT.put_ok hok _ _) (fun ρ' a' w' h1 h2 h3 h4 h5 h6 => hQ ρ' a' w' h1 h2 h3 h4 h5 (by rw [h6, Act.put_defers']))⟩
theorem OpsEv.run {ops : Array Oper} {rest : List Oper} (hw : wantedT ops.toList o T = true) (h1 : OpEv E o T A v A1) (h : OpsEv E ops rest (T.put o.dst v) A1 T' A') : OpsEv E ops (o :: rest) T A T' A' := by
  intro i hi B w0 w ρ a ro Q R hT hok hQ
  have ho : ops[i]? = some o := by
    have h1 : ops.toList[i]? = (ops.toList.drop i)[0]? := by simp
    rw [hi] at h1
    rw [← Array.getElem?_toList, h1]; rfl
  have hrest : ops.toList.drop (i + 1) = rest := by
    have : ops.toList.drop (i + 1) = (ops.toList.drop i).drop 1 := by rw [List.drop_drop]
    rw [this, hi]; rfl
  simp only [List.length_cons, List.range'_succ, wpOpsIn, ho]
  rw [wanted_run (T := T) (guard_TTR hT ops o)]
  simp only [hw, if_true]
  refine h1 B w0 w ρ a ro _ Q R (eval_TTR R hT hok o) ?_
  intro ρ1 u w1 hle hv R1 k1
  exact h (i + 1) hrest B w0 w1 ρ1 _ ro Q R1 ((hT.mono hle).put hok.1 o.dst hv) (TT.put_ok hok _ _)
    (fun ρ' a' w' h1 h2 h3 h4 h5 h6 => hQ ρ' a' w' (Ren.le_trans hle h1) h2 (k1.trans h3) h4 h5 (by rw [h6, Act.put_defers']))

/-- Frames that tell the same. -/
def TT.Same (T T' : TT) : Prop := T'.n = T.n ∧ (∀ k, T'.get k = T.get k) ∧ (T.ok → T'.ok)
theorem TT.Same.refl (T : TT) : TT.Same T T := ⟨rfl, fun _ => rfl, id⟩
theorem TT.Same.put {T : TT} {k : Nat} {v : Value} (hn : T.n ≤ 4000) (h : T.get k = v) : TT.Same T (T.put (some k) v) := by
  refine ⟨TT.put_n _ _ _, fun j => ?_, fun h => TT.put_ok h _ _⟩
  rw [TT.get_put hn]
  by_cases hj : k < T.n ∧ j = k
  · rw [if_pos hj, hj.2, h]
  · rw [if_neg hj]
theorem TT.Same.ttr (h : TT.Same T T') {a : Array Value} (k : TTR ρ T a) : TTR ρ T' a := ⟨by rw [h.1]; exact k.1, fun i hi => by
  obtain ⟨u, hu, hv⟩ := k.2 i (by rw [← h.1]; exact hi)
  exact ⟨u, hu, by rw [h.2.1]; exact hv⟩⟩
theorem OpsEv.same {ops : Array Oper} {l : List Oper} (hs : T.ok → TT.Same T T1) (h : OpsEv E ops l T1 A T' A') : OpsEv E ops l T A T' A' := fun i hi B w0 w ρ a ro Q R hT hok hQ => h i hi B w0 w ρ a ro Q R ((hs hok).ttr hT) ((hs hok).2.2 hok) hQ
theorem Ev.same (hs : T.ok → TT.Same T T1) (h : Ev E (.code c ro T1 ds A) (.code x T' ds' A')) : Ev E (.code c ro T ds A) (.code x T' ds' A') := fun B w0 ρ a w ro' Q R hT hok hd hro hQ => h B w0 ρ a w ro' Q R ((hs hok).ttr hT) ((hs hok).2.2 hok) hd hro hQ

theorem Ev.region {id : Nat} {ops : Array Oper} (h : OpsEv E ops ops.toList T A T' A') : Ev E (.code (.region id ops false) ro T ds A) (.code .normal T' ds A') := by
  intro B w0 ρ a w ro' Q R hT hok hd hro hQ
  refine wpIn_region ?_
  have := h 0 (by simp) B w0 w ρ a ro' Q R hT hok (fun ρ' a' w' h1 h2 h3 h4 h5 h6 => hQ ρ' a' w' h1 h2 h3 h4 h5 (by rw [h6]; exact hd.mono h1))
  rw [List.range_eq_range']
  rw [← Array.length_toList]; exact this
end
end Go.Ex
set_option linter.unusedVariables false
set_option linter.unusedSimpArgs false
namespace Go.Ex
open Go Go.RowKit
section
variable {E : Env} {B : Nat} {w0 : Base} {w w' : World} {ρ ρ' : Ren} {A A' A1 A2 : AH} {T T' T1 T2 : TT} {ds ds' ds1 ds2 : List Nat} {ro : Option Nat} {x : AX} {c d : Code} {o : Oper} {v : Value} {P : Program}

theorem pev_bind {α β : Type} (s : Sem α) (f : α → Sem β) : pev P (s >>= f) = (match pev P s with | some a => pev P (f a) | none => none) := by
  show pev P (s.bind f) = _
  induction s with
  | pure a => rfl
  | program k ih => exact ih P
  | mark m k ih => exact ih
  | _ => rfl
theorem pev_pure {α : Type} (a : α) : pev P (pure a : Sem α) = some a := rfl
theorem pev_program : pev P program = some P := rfl

theorem OpEv.ofOk {A1 : Option AH} (hnd : ∀ c, o.op ≠ .defer c) (hn : A.next < 1099511627775 → (orA A A1).next < 1099511627775)
    (h : ∀ (B : Nat) (w0 : Base) (w : World) (ρ : Ren) (a : Act), Rel E.P E.G B w0 ρ A w → (∀ x ∈ o.op.operands.toList, okX E x = true → VR ρ (evT T x) (a.eval x)) → OpOk E.P E.G B w0 ρ A (execOp a.eval o) w (.val v, A1)) : OpEv E o T A v (orA A A1) := by
  intro B w0 w ρ a ro K Q R hop hK
  refine ⟨fun _ _ => trivial, ?_⟩
  rw [Oper.semAt_eq _ _ _ hnd]
  obtain ⟨ρ', w', n, u, h1, h2, h3, h4, h5, h6⟩ := h B w0 w ρ a R hop (hn R.small)
  rw [h2]
  rcases h3 with rfl | ⟨rfl, rfl⟩
  · exact hK ρ' u w' h1 h4 h5 h6
  · exact hK ρ' undef w' h1 h4 h5 h6
theorem OpEv.spec {A1 : Option AH} (hE : EnvOk E) (hx : ∀ x ∈ o.op.operands.toList, okX E x = true) (h : aspec E o T A = some (.val v, A1)) (hn : A.next < 1099511627775 → (orA A A1).next < 1099511627775) : OpEv E o T A v (orA A A1) := by
  refine OpEv.ofOk (fun c hc => by unfold aspec at h; rw [hc] at h; cases h) hn ?_
  intro B w0 w ρ a R hop
  exact sound_spec R hE (fun x hxm => hop x hxm (hx x hxm)) h
theorem OpEv.plain (hE : EnvOk E) (hp : isPlainOp o = true) (hx : ∀ x ∈ o.op.operands.toList, okX E x = true) (hv : ∀ x ∈ o.op.operands.toList, plainV (evT T x) = true) (h : pev E.P (execOp (evT T) o) = some (.value v)) (hpv : plainV v = true) : OpEv E o T A v A := by
  refine OpEv.ofOk (A1 := none) (fun c hc => by unfold isPlainOp at hp; rw [hc] at hp; cases hp) id ?_
  intro B w0 w ρ a R hop
  have hcong : execOp a.eval o = execOp (evT T) o := by
    refine execOp_congr o ?_ ?_
    · intro cs b he
      unfold isPlainOp at hp
      rw [he] at hp; cases hp
    · intro x hxm
      have hxm : x ∈ o.op.operands.toList := by simpa using hxm
      exact VR.of_plain (hv x hxm) (hop x hxm (hx x hxm))
  rw [hcong]
  exact OpOk.same (Ends.same R (pev_run _ _ h w) (VR.plain v hpv))

/-! ### Continuations -/
def optK {α : Type} (r : Option α) (K : α → Prop) : Prop := match r with
  | some a => K a
  | none => False
theorem optK_mk {α : Type} {r : Option α} {K : α → Prop} {a : α} (h : r = some a) (k : K a) : optK r K := by subst h; exact k
theorem optK_out {α : Type} {r : Option α} {K : α → Prop} (h : optK r K) : ∃ a, r = some a ∧ K a := by
  cases r with
  | none => exact h.elim
  | some a => exact ⟨a, rfl, h⟩
def belim (b : Bool) (Kt Kf : Prop) : Prop := match b with
  | true => Kt
  | false => Kf
theorem belim_mk {b : Bool} {Kt Kf : Prop} (h1 : b = true → Kt) (h2 : b = false → Kf) : belim b Kt Kf := by
  cases b with
  | true => exact h1 rfl
  | false => exact h2 rfl
theorem belim_t {b : Bool} {Kt Kf : Prop} (h : b = true) (k : Kt) : belim b Kt Kf := by subst h; exact k
theorem belim_f {b : Bool} {Kt Kf : Prop} (h : b = false) (k : Kf) : belim b Kt Kf := by subst h; exact k

def evK (E : Env) (T : TT) (x : Operand) (K : Value → Prop) : Prop := match x with
  | .tmp k => match T.t.get k with
    | some v => K v
    | none => K undef
  | .const v => match plainV v with
    | true => K v
    | false => False
  | .global g => match Nat.blt g E.G with
    | true => K (.pointer (some ⟨g, 0, none⟩))
    | false => False
  | .func f => K (.func (.func f) #[] #[])
theorem evK_out {x : Operand} {K : Value → Prop} (h : evK E T x K) : ∃ v, evO E T x = some v ∧ K v := by
  cases x with
  | tmp k =>
    simp only [evK] at h
    simp only [evO]
    split at h
    · rename_i v hv; exact ⟨v, by simp only [hv], h⟩
    · rename_i hv; exact ⟨undef, by simp only [hv], h⟩
  | const v =>
    simp only [evK] at h
    split at h
    · rename_i hv; exact ⟨v, by simp only [evO, hv], h⟩
    · exact h.elim
  | global g =>
    simp only [evK] at h
    split at h
    · rename_i hv; exact ⟨_, by simp only [evO, hv], h⟩
    · exact h.elim
  | func f => exact ⟨_, rfl, h⟩
def evLK (E : Env) (T : TT) : List Operand → (List Value → Prop) → Prop
  | [], K => K []
  | x :: r, K => evK E T x fun v => evLK E T r fun l => K (v :: l)
theorem evLK_out : ∀ {xs : List Operand} {K : List Value → Prop}, evLK E T xs K → ∃ l, evL E T xs = some l ∧ K l
  | [], K, h => ⟨[], rfl, h⟩
  | x :: r, K, h => by
    obtain ⟨v, h1, h2⟩ := evK_out h
    obtain ⟨l, h3, h4⟩ := evLK_out h2
    exact ⟨v :: l, by simp only [evL, h1, h3], h4⟩
def forceV (v : Value) (K : Value → Prop) : Prop := match v with
  | .bool b => K (.bool b)
  | .int k n => K (.int k n)
  | .string s => K (.string s)
  | .pointer a => K (.pointer a)
  | .slice a n c => K (.slice a n c)
  | .agg cs => K (.agg cs)
  | .tuple vs => K (.tuple vs)
  | v => K v
theorem forceV_out {v : Value} {K : Value → Prop} (h : forceV v K) : K v := by cases v <;> exact h
def setK : Nat → Trie Value → Nat → Value → (Trie Value → Prop) → Prop
  | 0, t, _, _, K => K t
  | f + 1, .leaf, n, x, K => match n with
    | 0 => K (.node .leaf (some x) .leaf)
    | k + 1 => match Nat.beq (k % 2) 0 with
      | true => setK f .leaf (k / 2) x fun l => K (.node l none .leaf)
      | false => setK f .leaf (k / 2) x fun r => K (.node .leaf none r)
  | f + 1, .node l v r, n, x, K => match n with
    | 0 => K (.node l (some x) r)
    | k + 1 => match Nat.beq (k % 2) 0 with
      | true => setK f l (k / 2) x fun l => K (.node l v r)
      | false => setK f r (k / 2) x fun r => K (.node l v r)
theorem setK_eq (x : Value) : ∀ (f : Nat) (t : Trie Value) (n : Nat) (K : Trie Value → Prop), setK f t n x K = K (Trie.set f t n (some x))
  | 0, t, n, K => rfl
  | f + 1, .leaf, 0, K => rfl
  | f + 1, .leaf, k + 1, K => by
    simp only [setK, Trie.set]
    cases Nat.beq (k % 2) 0 with
    | true => simp only; rw [setK_eq x f]
    | false => simp only; rw [setK_eq x f]
  | f + 1, .node l v r, 0, K => rfl
  | f + 1, .node l v r, k + 1, K => by
    simp only [setK, Trie.set]
    cases Nat.beq (k % 2) 0 with
    | true => simp only; rw [setK_eq x f]
    | false => simp only; rw [setK_eq x f]
def putK (T : TT) (d : Option Tmp) (v : Value) (K : TT → Prop) : Prop := match d with
  | some k => match T with
    | ⟨t, n⟩ => match Nat.blt k n with
      | true => setK 24 t k v fun t => K ⟨t, n⟩
      | false => K ⟨t, n⟩
  | none => K T
theorem putK_eq {T : TT} {d : Option Tmp} {v : Value} {K : TT → Prop} : putK T d v K = K (T.put d v) := by
  cases d with
  | none => rfl
  | some k =>
    obtain ⟨t, n⟩ := T
    simp only [putK, TT.put]
    cases Nat.blt k n with
    | true => simp only [setK_eq]
    | false => rfl

/-! ### Calls -/
inductive CallP (E : Env) (g : FuncId) (args : List Value) (A : AH) (K : Value → AH → Prop) : Prop
  | mk (v : Value) (A' : AH) (h : Ev E (.fn g args A) (.val v A')) (k : K v A')
inductive RoundP (E : Env) (l : Nat) (args : List Value) (A : AH) (K : Value → AH → Prop) : Prop
  | mk (v : Value) (A' : AH) (h : Ev E (.round l args A) (.val v A')) (k : K v A')
def arK (E : Env) (A : AH) (r : AR) (K : Value → AH → Prop) : Prop := match r with
  | some (.val v, none) => K v A
  | some (.val v, some A') => A'.next < 1099511627775 ∧ K v A'
  | some (.enter g l, none) => CallP E g l A K
  | some (.round g l, none) => RoundP E g l A K
  | _ => False
def OpX (E : Env) (o : Oper) (T : TT) (A : AH) (K : Value → AH → Prop) : Prop := ∃ v A', OpEv E o T A v A' ∧ K v A'
theorem arK_out (hE : EnvOk E) {K : Value → AH → Prop} (h : arK E A (aop E o T A) K) : OpX E o T A K := by
  unfold arK at h
  split at h
  · rename_i v hr; exact ⟨v, A, OpEv.val hE hr, h⟩
  · rename_i v A' hr; exact ⟨v, A', OpEv.mem hE hr (fun _ => h.1), h.2⟩
  · rename_i g l hr
    obtain ⟨v, A', h1, h2⟩ := h
    exact ⟨v, A', OpEv.call hE hr h1, h2⟩
  · rename_i g l hr
    obtain ⟨v, A', h1, h2⟩ := h
    exact ⟨v, A', OpEv.round hE hr h1, h2⟩
  · exact h.elim

/-! ### Whole numbers, strings -/
def intOp (op : BinOp) (k : IntKind) (a b : Int) (K : Value → Prop) : Prop := match op with
  | .add => K (.int k (k.wrap (a + b)))
  | .sub => K (.int k (k.wrap (a - b)))
  | .mul => K (.int k (k.wrap (a * b)))
  | .quo => b ≠ 0 ∧ K (.int k (k.wrap (a.tdiv b)))
  | .rem => b ≠ 0 ∧ K (.int k (a.tmod b))
  | .and => K (.int k (k.wrap (BitVec.ofInt k.bits a &&& BitVec.ofInt k.bits b).toNat))
  | .or => K (.int k (k.wrap (BitVec.ofInt k.bits a ||| BitVec.ofInt k.bits b).toNat))
  | .xor => K (.int k (k.wrap (BitVec.ofInt k.bits a ^^^ BitVec.ofInt k.bits b).toNat))
  | .andNot => K (.int k (k.wrap (BitVec.ofInt k.bits a &&& ~~~BitVec.ofInt k.bits b).toNat))
  | .eql => K (.bool (a == b))
  | .neq => K (.bool (a != b))
  | .lss => K (.bool (decide (a < b)))
  | .leq => K (.bool (decide (a ≤ b)))
  | .gtr => K (.bool (decide (a > b)))
  | .geq => K (.bool (decide (a ≥ b)))
  | _ => False
def shiftOp (op : BinOp) (k : IntKind) (a b : Int) (K : Value → Prop) : Prop := match op with
  | .shl => 0 ≤ b ∧ K (.int k (k.wrap (a * 2 ^ (min b.toNat k.bits))))
  | .shr => 0 ≤ b ∧ K (.int k (a.fdiv (2 ^ (min b.toNat k.bits))))
  | _ => False
def strOp (op : BinOp) (a b : ByteArray) (K : Value → Prop) : Prop := match op with
  | .add => a.size + b.size ≤ 9223372036854775807 ∧ K (.string (a ++ b))
  | .eql => K (.bool (a.toList == b.toList))
  | .neq => K (.bool (!(a.toList == b.toList)))
  | _ => False
def isShift : BinOp → Bool
  | .shl => true
  | .shr => true
  | _ => false
theorem intOp_out {op : BinOp} {k : IntKind} {a b : Int} {ty : TypeId} {x y : Operand} {K : Value → Prop} (h : intOp op k a b K) : ∃ v, pev P (do eqGuard op ty x y (.int k a) (.int k b); binOp op ty (.int k a) (.int k b)) = some v ∧ plainV v = true ∧ K v := by
  cases op <;> simp only [intOp] at h
  all_goals first
    | exact h.elim
    | (refine ⟨_, ?_, rfl, h⟩; simp [pev_bind, pev_pure, eqGuard, binOp, Op.intArith, Op.intBits, Op.intCmp]; done)
    | (refine ⟨_, ?_, rfl, h.2⟩; simp [pev_bind, pev_pure, eqGuard, binOp, Op.intDiv, h.1]; done)
theorem shiftOp_out {op : BinOp} {k j : IntKind} {a b : Int} {ty : TypeId} {x y : Operand} {K : Value → Prop} (h : shiftOp op k a b K) : ∃ v, pev P (do eqGuard op ty x y (.int k a) (.int j b); binOp op ty (.int k a) (.int j b)) = some v ∧ plainV v = true ∧ K v := by
  cases op <;> simp only [shiftOp] at h
  all_goals first
    | exact h.elim
    | (refine ⟨_, ?_, rfl, h.2⟩; simp [pev_bind, pev_pure, eqGuard, binOp, Op.shift, Int.not_lt.2 h.1]; done)
theorem strOp_out {op : BinOp} {a b : ByteArray} {ty : TypeId} {x y : Operand} {K : Value → Prop} (h : strOp op a b K) : ∃ v, pev P (do eqGuard op ty x y (.string a) (.string b); binOp op ty (.string a) (.string b)) = some v ∧ plainV v = true ∧ K v := by
  cases op <;> simp only [strOp] at h
  all_goals first
    | exact h.elim
    | (refine ⟨_, ?_, rfl, h⟩; simp [pev_bind, pev_pure, eqGuard, binOp, Op.stringOp]; done)
    | skip
  · have : ¬ ((a.size + b.size : Nat) : Int) > IntKind.i64.max := by
      have : IntKind.i64.max = 9223372036854775807 := by decide
      rw [this]; omega
    refine ⟨_, ?_, rfl, h.2⟩
    simp only [pev_bind, pev_pure, eqGuard, binOp, Op.stringOp, if_neg this]
    rfl
end
end Go.Ex
set_option linter.unusedVariables false
set_option linter.unusedSimpArgs false
namespace Go.Ex
open Go Go.RowKit
section
variable {E : Env} {B : Nat} {w0 : Base} {w w' : World} {ρ ρ' : Ren} {A A' A1 A2 : AH} {T T' T1 T2 : TT} {ds ds' ds1 ds2 : List Nat} {ro : Option Nat} {x : AX} {c d : Code} {o : Oper} {v : Value} {P : Program}

def unOpK (op : UnOp) (v : Value) (K : Value → Prop) : Prop := match op, v with
  | .not, .bool b => K (.bool (!b))
  | .neg, .int k n => K (.int k (k.wrap (0 - n)))
  | .xor, .int k n => K (.int k (k.wrap (BitVec.ofInt k.bits (if k.signed then -1 else k.max) ^^^ BitVec.ofInt k.bits n).toNat))
  | _, _ => False
def binK (op : BinOp) (u v : Value) (K : Value → Prop) (F : Prop) : Prop := match u, v with
  | .int j a, .int k b => match isShift op with
    | true => shiftOp op j a b K
    | false => match decide (j = k) with
      | true => intOp op j a b K
      | false => False
  | .string a, .string b => strOp op a b K
  | _, _ => F
def iaK (P : Program) (t : TypeId) (p u : Value) (K : Value → Prop) : Prop := match u with
  | .int _ n => match P.underlying t, p with
    | some (.slice e), .slice (some a) len _ => optK (sizeT P e) fun size => 0 ≤ n ∧ n.toNat < len ∧ K (.pointer (some (a.add (n.toNat * size))))
    | some (.array m e), .pointer (some a) => optK (sizeT P e) fun size => 0 ≤ n ∧ n.toNat < m ∧ K (.pointer (some (a.add (n.toNat * size))))
    | _, _ => False
  | _ => False
def idxK (P : Program) (t : TypeId) (s i : Value) (K : Value → Prop) (F : Prop) : Prop := match P.underlying t, s, i with
  | some .string, .string s, .int _ n => 0 ≤ n ∧ n.toNat < s.size ∧ K (.int .u8 (s.data.toList.getD n.toNat 0).toNat)
  | _, _, _ => F
def sliceSK (s : ByteArray) (lo hi : Option Value) (K : Value → Prop) : Prop := match lo, hi with
  | none, none => K (.string (s.extract 0 s.size))
  | some (.int _ l), none => 0 ≤ l ∧ l ≤ s.size ∧ K (.string (s.extract l.toNat s.size))
  | none, some (.int _ h) => 0 ≤ h ∧ h ≤ s.size ∧ K (.string (s.extract 0 h.toNat))
  | some (.int _ l), some (.int _ h) => 0 ≤ h ∧ h ≤ s.size ∧ 0 ≤ l ∧ l ≤ h ∧ K (.string (s.extract l.toNat h.toNat))
  | _, _ => False
def evOptK (E : Env) (T : TT) (x : Option Operand) (K : Option Value → Prop) : Prop := match x with
  | none => K none
  | some x => evK E T x fun v => K (some v)
def lenK (P : Program) (tt : TypeId) (v : Value) (K : Value → Prop) (F : Prop) : Prop := match P.underlying tt, v with
  | some .string, .string s => K (.int .i64 s.size)
  | some (.slice _), .slice _ n _ => K (.int .i64 n)
  | _, _ => F
def convK (P : Program) (s d : TypeId) (v : Value) (K : Value → Prop) (F : Prop) : Prop := match P.underlying s, P.underlying d, v with
  | some _, some (.int k), .int _ n => K (.int k (k.wrap n))
  | _, _, _ => F
def quietR (r : AR) : Option Value := match r with
  | some (.val v, none) => some v
  | _ => none
def isLen : Builtin → Bool
  | .len => true
  | _ => false

/-- Operations that change no memory. -/
def opq (E : Env) (o : Oper) (T : TT) (A : AH) (K : Value → Prop) : Prop := match o.op with
  | .move x => evK E T x K
  | .assign x => evK E T x K
  | .load t x => evK E T x fun p => optK (aload E.P t p A) K
  | .fieldAddr s x f => evK E T x fun p => optK (afieldAddr E.P s p f) K
  | .indexAddr t x i => evK E T x fun p => evK E T i fun u => iaK E.P t p u K
  | .extract x i => evK E T x fun v => match v with
    | .tuple ⟨vs⟩ => optK vs[i]? K
    | _ => False
  | .pick c a b => evK E T c fun v => evK E T a fun va => evK E T b fun vb => match v with
    | .bool t => belim t (K va) (K vb)
    | _ => False
  | .nilCheck x => evK E T x fun v => match v with
    | .pointer (some a) => K (.pointer (some a))
    | .func (.func f) a b => K (.func (.func f) a b)
    | .func (.yield f) a b => K (.func (.yield f) a b)
    | .iface a b => K (.iface a b)
    | _ => False
  | .unOp op _ x => evK E T x fun v => unOpK op v K
  | .binOp op _ x y _ => evK E T x fun u => evK E T y fun v => binK op u v K (optK (quietR (aop E o T A)) K)
  | .index t x i => evK E T x fun s => evK E T i fun u => idxK E.P t s u K (optK (quietR (aop E o T A)) K)
  | .slice t x lo hi none => evK E T x fun v => match E.P.underlying t, v with
    | some .string, .string s => evOptK E T lo fun l => evOptK E T hi fun h => sliceSK s l h K
    | _, _ => optK (quietR (aop E o T A)) K
  | .convert s d x => evK E T x fun v => convK E.P s d v K (optK (quietR (aop E o T A)) K)
  | .call c => match c.callee with
    | .builtin b => match isLen b, c.args.toList, c.argTypes.toList with
      | true, [x], tt :: _ => evK E T x fun v => lenK E.P tt v K (optK (quietR (aop E o T A)) K)
      | _, _, _ => optK (quietR (aop E o T A)) K
    | _ => optK (quietR (aop E o T A)) K
  | _ => optK (quietR (aop E o T A)) K

theorem pev_underlying {t : TypeId} {d : TypeDesc} (h : P.underlying t = some d) : pev P (underlying t) = some d := by
  unfold underlying
  rw [pev_bind, pev_program]
  simp only [h]
  rfl
def OpQ (E : Env) (o : Oper) (T : TT) (A : AH) (K : Value → Prop) : Prop := ∃ v, OpEv E o T A v A ∧ K v
theorem quiet_out (hE : EnvOk E) {K : Value → Prop} (h : optK (quietR (aop E o T A)) K) : OpQ E o T A K := by
  obtain ⟨v, h1, h2⟩ := optK_out h
  unfold quietR at h1
  split at h1
  · rename_i v' hr
    cases h1
    exact ⟨v, OpEv.val hE hr, h2⟩
  · cases h1
theorem evO_plain {x : Operand} {v : Value} (h : evO E T x = some v) (hp : plainV v = true) : okX E x = true ∧ plainV (evT T x) = true := by
  obtain ⟨h1, rfl⟩ := evO_spec h
  exact ⟨h1, hp⟩
/-- One plain operand. -/
theorem OpQ.plain1 (hE : EnvOk E) {K : Value → Prop} {x : Operand} {u : Value} (hp : isPlainOp o = true) (hx : o.op.operands.toList = [x]) (h : evO E T x = some u) (hu : plainV u = true) (hr : ∃ r, pev E.P (execOp (evT T) o) = some (.value r) ∧ plainV r = true ∧ K r) : OpQ E o T A K := by
  obtain ⟨r, h1, h2, h3⟩ := hr
  refine ⟨r, OpEv.plain hE hp ?_ ?_ h1 h2, h3⟩
  · rw [hx]; intro y hy; cases List.mem_singleton.1 hy; exact (evO_plain h hu).1
  · rw [hx]; intro y hy; cases List.mem_singleton.1 hy; exact (evO_plain h hu).2
theorem OpQ.plain2 (hE : EnvOk E) {K : Value → Prop} {x y : Operand} {u v : Value} (hp : isPlainOp o = true) (hx : o.op.operands.toList = [x, y]) (h : evO E T x = some u) (hu : plainV u = true) (h' : evO E T y = some v) (hv : plainV v = true)
    (hr : ∃ r, pev E.P (execOp (evT T) o) = some (.value r) ∧ plainV r = true ∧ K r) : OpQ E o T A K := by
  obtain ⟨r, h1, h2, h3⟩ := hr
  refine ⟨r, OpEv.plain hE hp ?_ ?_ h1 h2, h3⟩
  · rw [hx]; intro z hz
    rcases List.mem_cons.1 hz with rfl | hz
    · exact (evO_plain h hu).1
    · cases List.mem_singleton.1 hz; exact (evO_plain h' hv).1
  · rw [hx]; intro z hz
    rcases List.mem_cons.1 hz with rfl | hz
    · exact (evO_plain h hu).2
    · cases List.mem_singleton.1 hz; exact (evO_plain h' hv).2

theorem opq_out (hE : EnvOk E) {K : Value → Prop} (h : opq E o T A K) : OpQ E o T A K := by
  unfold opq at h
  split at h
  · rename_i x ho
    obtain ⟨v, h1, h2⟩ := evK_out h
    exact ⟨v, OpEv.val hE (by simp [aop, ho, cls, oMv, h1]), h2⟩
  · rename_i x ho
    obtain ⟨v, h1, h2⟩ := evK_out h
    exact ⟨v, OpEv.val hE (by simp [aop, ho, cls, oMv, h1]), h2⟩
  · rename_i t x ho
    obtain ⟨p, h1, h2⟩ := evK_out h
    obtain ⟨v, h3, h4⟩ := optK_out h2
    exact ⟨v, OpEv.val hE (by simp [aop, ho, cls, oLoad, h1, h3]), h4⟩
  · rename_i s x f ho
    obtain ⟨p, h1, h2⟩ := evK_out h
    obtain ⟨v, h3, h4⟩ := optK_out h2
    exact ⟨v, OpEv.val hE (by simp [aop, ho, cls, oFa, h1, h3, asV]), h4⟩
  · rename_i t x i ho
    obtain ⟨p, h1, h2⟩ := evK_out h
    obtain ⟨u, h3, h4⟩ := evK_out h2
    unfold iaK at h4
    split at h4
    · rename_i k n
      split at h4
      · rename_i e a len cap hu
        obtain ⟨size, h5, h6, h7, h8⟩ := optK_out h4
        refine ⟨_, OpEv.val hE (by simp [aop, ho, cls, oIa, h1, h3, aindexAddr, natOf, h6, hu, h5, show Nat.blt n.toNat len = true from Nat.ble_eq_true_of_le h7, asV]), h8⟩
      · rename_i m e a hu
        obtain ⟨size, h5, h6, h7, h8⟩ := optK_out h4
        refine ⟨_, OpEv.val hE (by simp [aop, ho, cls, oIa, h1, h3, aindexAddr, natOf, h6, hu, h5, show Nat.blt n.toNat m = true from Nat.ble_eq_true_of_le h7, asV]), h8⟩
      · exact h4.elim
    · exact h4.elim
  · rename_i x i ho
    obtain ⟨p, h1, h2⟩ := evK_out h
    split at h2
    · obtain ⟨v, h3, h4⟩ := optK_out h2
      exact ⟨v, OpEv.val hE (by simp [aop, ho, cls, oExt, h1, h3, asV]), h4⟩
    · exact h2.elim
  · rename_i c a b ho
    obtain ⟨u, h1, h2⟩ := evK_out h
    obtain ⟨va, h3, h4⟩ := evK_out h2
    obtain ⟨vb, h5, h6⟩ := evK_out h4
    split at h6
    · rename_i t
      cases t with
      | true => exact ⟨va, OpEv.val hE (by simp [aop, ho, cls, oPick, h1, oMv, h3]), h6⟩
      | false => exact ⟨vb, OpEv.val hE (by simp [aop, ho, cls, oPick, h1, oMv, h5]), h6⟩
    · exact h6.elim
  · rename_i x ho
    obtain ⟨u, h1, h2⟩ := evK_out h
    have hs := evO_spec h1
    have hx : ∀ y ∈ o.op.operands.toList, okX E y = true := by
      intro y hy
      rw [ho] at hy
      cases List.mem_singleton.1 (by simpa [Op.operands] using hy)
      exact hs.1
    split at h2
    · rename_i a
      exact ⟨_, OpEv.val hE (by simp [aop, ho, cls, oNc, h1]), h2⟩
    · rename_i f a b
      exact ⟨_, OpEv.spec (A1 := none) hE hx (by unfold aspec; rw [ho]; simp only; rw [← hs.2]) id, h2⟩
    · rename_i f a b
      exact ⟨_, OpEv.spec (A1 := none) hE hx (by unfold aspec; rw [ho]; simp only; rw [← hs.2]) id, h2⟩
    · rename_i a b
      exact ⟨_, OpEv.spec (A1 := none) hE hx (by unfold aspec; rw [ho]; simp only; rw [← hs.2]) id, h2⟩
    · exact h2.elim
  · rename_i op t x ho
    obtain ⟨u, h1, h2⟩ := evK_out h
    have hs := evO_spec h1
    unfold unOpK at h2
    split at h2
    · exact OpQ.plain1 hE (by simp [isPlainOp, ho]) (by simp [ho, Op.operands]) h1 rfl ⟨_, by simp [execOp, ho, ← hs.2, Op.unary, pev_bind, pev_pure], rfl, h2⟩
    · exact OpQ.plain1 hE (by simp [isPlainOp, ho]) (by simp [ho, Op.operands]) h1 rfl ⟨_, by simp only [execOp, ho, ← hs.2, Op.unary, Op.intArith, pev_bind, pev_pure], rfl, h2⟩
    · exact OpQ.plain1 hE (by simp [isPlainOp, ho]) (by simp [ho, Op.operands]) h1 rfl ⟨_, by simp only [execOp, ho, ← hs.2, Op.unary, Op.intBits, pev_bind, pev_pure], rfl, h2⟩
    · exact h2.elim
  · rename_i op t x y yt ho
    obtain ⟨u, h1, h2⟩ := evK_out h
    obtain ⟨v, h3, h4⟩ := evK_out h2
    have hs := evO_spec h1
    have hs' := evO_spec h3
    unfold binK at h4
    have fin : ∀ {K : Value → Prop}, (∃ r, pev E.P (do eqGuard op t x y u v; binOp op t u v) = some r ∧ plainV r = true ∧ K r) → plainV u = true → plainV v = true → OpQ E o T A K := by
      intro K ⟨r, g1, g2, g3⟩ hu hv
      refine OpQ.plain2 hE (by simp [isPlainOp, ho]) (by simp [ho, Op.operands]) h1 hu h3 hv ⟨r, ?_, g2, g3⟩
      simp only [execOp, ho, ← hs.2, ← hs'.2]
      rw [pev_bind, g1]
      rfl
    split at h4
    · rename_i j a k b
      split at h4
      · exact fin (shiftOp_out h4) rfl rfl
      · split at h4
        · rename_i hd
          have := of_decide_eq_true hd
          subst this
          exact fin (intOp_out h4) rfl rfl
        · exact h4.elim
    · exact fin (strOp_out h4) rfl rfl
    · exact quiet_out hE h4
  · rename_i t x i ho
    obtain ⟨s, h1, h2⟩ := evK_out h
    obtain ⟨u, h3, h4⟩ := evK_out h2
    have hs := evO_spec h1
    have hs' := evO_spec h3
    unfold idxK at h4
    split at h4
    · rename_i s k n hu
      obtain ⟨g1, g2, g3⟩ := h4
      refine OpQ.plain2 hE (by simp [isPlainOp, ho]) (by simp [ho, Op.operands]) h1 rfl h3 rfl ⟨_, ?_, rfl, g3⟩
      have hb : s[n.toNat]? = some (s.data.toList.getD n.toNat 0) := by
        rw [getElem?_pos s n.toNat g2]
        have : s[n.toNat] = s.data.toList[n.toNat]'(by simpa using g2) := rfl
        rw [this, List.getD_eq_getElem?_getD, List.getElem?_eq_getElem (by simpa using g2)]
        rfl
      have hun : pev E.P (underlying t) = some .string := pev_underlying hu
      simp only [execOp, ho, ← hs.2, ← hs'.2, Instr.index, pev_bind, pev_pure, asIntOf, hun, if_pos g1, hb]
    · exact quiet_out hE h4
  · rename_i t x lo hi ho
    obtain ⟨u, h1, h2⟩ := evK_out h
    have hs := evO_spec h1
    split at h2
    · rename_i s hu
      have key : ∀ (l h : Option Value) (K : Value → Prop), sliceSK s l h K → ∃ r, pev E.P (Instr.sliceAt t (.string s) l h none) = some r ∧ plainV r = true ∧ K r := by
        intro l h K hk
        have hun : pev E.P (underlying t) = some .string := pev_underlying hu
        unfold sliceSK at hk
        split at hk
        · exact ⟨_, by simp only [Instr.sliceAt, Instr.slice, Instr.sliceBounds, pev_bind, hun, pev_pure, Option.isSome_none, Bool.false_eq_true, if_false], rfl, hk⟩
        · obtain ⟨g1, g2, g3⟩ := hk
          exact ⟨_, by simp only [Instr.sliceAt, Instr.slice, Instr.sliceBounds, Instr.sliceBound, asIntOf, pev_bind, hun, pev_pure, g1, g2, and_self, if_true, Option.isSome_none, Bool.false_eq_true, if_false], rfl, g3⟩
        · obtain ⟨g1, g2, g3⟩ := hk
          exact ⟨_, by simp only [Instr.sliceAt, Instr.slice, Instr.sliceBounds, Instr.sliceBound, asIntOf, pev_bind, hun, pev_pure, g1, g2, and_self, if_true, Option.isSome_none, Bool.false_eq_true, if_false], rfl, g3⟩
        · obtain ⟨g1, g2, g3, g4, g5⟩ := hk
          have g4' : ∀ {h : Int}, 0 ≤ h → ∀ {l : Int}, l ≤ h → l ≤ (h.toNat : Int) := fun h0 _ hl => by omega
          exact ⟨_, by simp only [Instr.sliceAt, Instr.slice, Instr.sliceBounds, Instr.sliceBound, asIntOf, pev_bind, hun, pev_pure, g1, g2, g3, g4' g1 g4, and_self, if_true, Option.isSome_none, Bool.false_eq_true, if_false], rfl, g5⟩
        · exact hk.elim
      have hok : ∀ {y : Option Operand} {K : Option Value → Prop}, evOptK E T y K → ∃ r, y.map (evT T) = r ∧ (∀ z ∈ y.toArray.toList, okX E z = true) ∧ K r := by
        intro y K hy
        cases y with
        | none => exact ⟨none, rfl, (fun z hz => by simp at hz), hy⟩
        | some y =>
          obtain ⟨r, g1, g2⟩ := evK_out hy
          have := evO_spec g1
          exact ⟨some r, by simp [← this.2], (fun z hz => by simp at hz; subst hz; exact this.1), g2⟩
      obtain ⟨l, l1, l2, l3⟩ := hok h2
      obtain ⟨h', e1, e2, e3⟩ := hok l3
      obtain ⟨r, g1, g2, g3⟩ := key l h' K e3
      have hplain : ∀ {y : Option Operand} {r : Option Value}, y.map (evT T) = r → (∀ v, r = some v → plainV v = true) → ∀ z ∈ y.toArray.toList, plainV (evT T z) = true := by
        intro y r hy hr z hz
        cases y with
        | none => simp at hz
        | some y => simp at hz; subst hz; exact hr _ (by rw [← hy]; rfl)
      have hl : (∀ v, l = some v → plainV v = true) ∧ (∀ v, h' = some v → plainV v = true) := by
        unfold sliceSK at e3
        split at e3
        · exact ⟨(fun v hv => by cases hv), (fun v hv => by cases hv)⟩
        · exact ⟨(fun v hv => by cases hv; rfl), (fun v hv => by cases hv)⟩
        · exact ⟨(fun v hv => by cases hv), (fun v hv => by cases hv; rfl)⟩
        · exact ⟨(fun v hv => by cases hv; rfl), (fun v hv => by cases hv; rfl)⟩
        · exact e3.elim
      have hops : ∀ z ∈ o.op.operands.toList, z = x ∨ z ∈ lo.toArray.toList ∨ z ∈ hi.toArray.toList := by
        intro z hz
        rw [ho] at hz
        simp only [Op.operands, Array.toList_append, List.mem_append] at hz
        rcases hz with ((hz | hz) | hz) | hz
        · exact .inl (by simpa using hz)
        · exact .inr (.inl hz)
        · exact .inr (.inr hz)
        · simp at hz
      refine ⟨r, OpEv.plain hE (by simp [isPlainOp, ho]) ?_ ?_ ?_ g2, g3⟩
      · intro z hz
        rcases hops z hz with rfl | hz | hz
        · exact hs.1
        · exact l2 z hz
        · exact e2 z hz
      · intro z hz
        rcases hops z hz with rfl | hz | hz
        · rw [← hs.2]; rfl
        · exact hplain l1 hl.1 z hz
        · exact hplain e1 hl.2 z hz
      · simp only [execOp, ho, ← hs.2, Option.map_none]
        rw [l1, e1, pev_bind, g1]
        rfl
    · exact quiet_out hE h2
  · rename_i s d x ho
    obtain ⟨u, h1, h2⟩ := evK_out h
    have hs := evO_spec h1
    unfold convK at h2
    split at h2
    · rename_i ts k j n hus hud
      refine OpQ.plain1 hE (by simp [isPlainOp, ho]) (by simp [ho, Op.operands]) h1 rfl ⟨_, ?_, rfl, h2⟩
      simp only [execOp, ho, ← hs.2, convert, pev_bind, pev_pure, pev_underlying hus, pev_underlying hud, Conv.intToInt]
    · exact quiet_out hE h2
  · rename_i c ho
    split at h
    · rename_i b hc
      split at h
      · rename_i x tt tts hb hargs hats
        obtain ⟨u, h1, h2⟩ := evK_out h
        have hs := evO_spec h1
        have hb : b = .len := by cases b <;> first | rfl | cases hb
        subst hb
        have hcargs : c.args = #[x] := by rw [← Array.toArray_toList (xs := c.args), hargs]
        have hopr : o.op.operands.toList = [x] := by rw [ho]; simp [Op.operands, Call.operands, hc, hcargs]
        unfold lenK at h2
        split at h2
        · rename_i s hu
          have hat : c.argTypes[0]? = some tt := by rw [← Array.getElem?_toList, hats]; rfl
          refine OpQ.plain1 hE (by simp [isPlainOp, ho]) hopr h1 rfl ⟨_, ?_, rfl, h2⟩
          simp only [execOp, ho, resolve, hc, hcargs, pev_bind, pev_pure, invoke, builtin, Builtin.len_, hat, List.map_toArray, List.map_cons, List.map_nil, ← hs.2, List.getElem?_toArray, List.getElem?_cons_zero, pev_underlying hu, goInt]
        · rename_i e a n cap hu
          refine ⟨_, OpEv.spec (A1 := none) hE ?_ ?_ id, h2⟩
          · rw [hopr]; intro z hz; cases List.mem_singleton.1 hz; exact hs.1
          · unfold aspec; rw [ho]; simp only [acall, hc, hargs, hats, List.map_cons, List.map_nil, acallB, ← hs.2, alenB, hu, asV, goInt]
        · exact quiet_out hE h2
      · exact quiet_out hE h
    · exact quiet_out hE h
  · exact quiet_out hE h
end
end Go.Ex
