/- Lemmas: runs of code with open values, under the conditions that each theorem names. -/
import Derived.Test.YtplphgmdjogloaaGreatDoorSyA
set_option linter.unusedVariables false
set_option linter.unusedSimpArgs false
set_option linter.unusedVariables false
set_option linter.unusedSimpArgs false
namespace Go.Ex
open Go Go.RowKit
section
variable {E : Env} {B : Nat} {w0 : Base} {w w' : World} {ρ ρ' : Ren} {A A' A1 A2 : AH} {T T' T1 T2 : TT} {ds ds' ds1 ds2 : List Nat} {ro : Option Nat} {x : AX} {c d : Code} {o : Oper} {v : Value} {P : Program}

theorem aput_next {b n : Nat} {vs : List Value} (h : aput b n vs A = some A') : A'.next = A.next := by
  unfold aput at h
  split at h
  · split at h
    · cases h; rfl
    · cases h
  · cases h
theorem astore_next {t : TypeId} {p u : Value} (h : astore P t p u A = some A') : A'.next = A.next := by
  unfold astore at h
  split at h
  · split at h
    · split at h
      · exact aput_next h
      · cases h
    · cases h
  · cases h

/-- A call by a function's value. -/
def clK (E : Env) (fv : Value) (l : List Value) (A : AH) (K : Value → AH → Prop) : Prop := match fv with
  | .func (.func g) ⟨first⟩ ⟨captured⟩ => match hasBody E.P g with
    | true => CallP E g (first ++ l ++ captured) A K
    | false => False
  | .func (.yield n) ⟨first⟩ _ => RoundP E n (first ++ l) A K
  | _ => False
def opk (E : Env) (o : Oper) (T : TT) (A : AH) (K : Value → AH → Prop) : Prop := match o.op with
  | .store t x y => evK E T x fun p => evK E T y fun u => optK (astore E.P t p u A) fun A' => K undef A'
  | .alloc _ => arK E A (aop E o T A) K
  | .box _ _ => arK E A (aop E o T A) K
  | .buildSlice _ _ _ => arK E A (aop E o T A) K
  | .makeMap _ _ => arK E A (aop E o T A) K
  | .makeSlice _ _ _ => arK E A (aop E o T A) K
  | .range _ _ => arK E A (aop E o T A) K
  | .next _ _ => arK E A (aop E o T A) K
  | .mapUpdate _ _ _ _ => arK E A (aop E o T A) K
  | .insert _ _ _ _ => arK E A (aop E o T A) K
  | .slice t _ _ _ _ => match E.P.underlying t with
    | some .string => opq E o T A fun v => K v A
    | _ => arK E A (aop E o T A) K
  | .convert _ d _ => match E.P.underlying d with
    | some (.int _) => opq E o T A fun v => K v A
    | _ => arK E A (aop E o T A) K
  | .call c => match c.callee with
    | .value (.func g) => evLK E T c.args.toList fun l => match hasBody E.P g with
      | true => CallP E g l A K
      | false => arK E A (aop E o T A) K
    | .value f => evK E T f fun fv => evLK E T c.args.toList fun l => clK E fv l A K
    | .builtin b => match isLen b with
      | true => opq E o T A fun v => K v A
      | false => arK E A (aop E o T A) K
    | .invoke _ _ => arK E A (aop E o T A) K
  | _ => opq E o T A fun v => K v A
theorem opq_X (hE : EnvOk E) {K : Value → AH → Prop} (h : opq E o T A fun v => K v A) : OpX E o T A K := by
  obtain ⟨v, h1, h2⟩ := opq_out hE h
  exact ⟨v, A, h1, h2⟩
theorem OpEv.callOk {g : FuncId} {l : List Value} (hnd : ∀ c, o.op ≠ .defer c) (h : ∀ (B : Nat) (w0 : Base) (w : World) (ρ : Ren) (a : Act), Rel E.P E.G B w0 ρ A w → (∀ x ∈ o.op.operands.toList, okX E x = true → VR ρ (evT T x) (a.eval x)) → OpOk E.P E.G B w0 ρ A (execOp a.eval o) w (.enter g l, none))
    (hc : Ev E (.fn g l A) (.val v A')) : OpEv E o T A v A' := by
  intro B w0 w ρ a ro K Q R hop hK
  refine ⟨fun _ _ => trivial, ?_⟩
  rw [Oper.semAt_eq _ _ _ hnd]
  obtain ⟨_, us, hus, hrun⟩ := h B w0 w ρ a R hop
  rw [hrun]
  refine ⟨(fun h => by cases h), ?_⟩
  refine callsIn_WF ro (hc B w0 ρ us w _ R hus ?_)
  intro ρ' u w' hle hv R' hk
  exact hK ρ' u w' hle hv R' hk
theorem OpEv.roundOk {n : Nat} {l : List Value} (hnd : ∀ c, o.op ≠ .defer c) (h : ∀ (B : Nat) (w0 : Base) (w : World) (ρ : Ren) (a : Act), Rel E.P E.G B w0 ρ A w → (∀ x ∈ o.op.operands.toList, okX E x = true → VR ρ (evT T x) (a.eval x)) → OpOk E.P E.G B w0 ρ A (execOp a.eval o) w (.round n l, none))
    (hc : Ev E (.round n l A) (.val v A')) : OpEv E o T A v A' := by
  intro B w0 w ρ a ro K Q R hop hK
  refine ⟨fun _ _ => trivial, ?_⟩
  rw [Oper.semAt_eq _ _ _ hnd]
  obtain ⟨_, x, us, hx, hus, hrun⟩ := h B w0 w ρ a R hop
  rw [hrun]
  obtain ⟨fn, tmps, as, bd, hy, hr⟩ := hc B w0 ρ x us w (fun | .returned u, w'' => K (a.put o.dst u) w'' | .panicked chain, w'' => Q (.panic chain) a w'' | .outgrown, _ => LetsOut Q) R hx hus
    (fun ρ' u w' hle hv R' hk => hK ρ' u w' hle hv R' hk)
  rw [hy]
  exact ⟨(fun h => by cases h), roundIn_WF ro hr⟩
theorem evL_ok : ∀ {xs : List Operand} {l : List Value}, evL E T xs = some l → (∀ x ∈ xs, okX E x = true) ∧ xs.map (evT T) = l
  | [], l, h => by cases h; exact ⟨(fun x hx => by cases hx), rfl⟩
  | x :: r, l, h => by
    simp only [evL] at h
    split at h
    · rename_i v hv
      split at h
      · rename_i l' hl
        cases h
        obtain ⟨h1, h2⟩ := evL_ok hl
        have h3 := evO_spec hv
        refine ⟨fun y hy => ?_, by rw [List.map_cons, h2, ← h3.2]⟩
        rcases List.mem_cons.1 hy with rfl | hy
        · exact h3.1
        · exact h1 y hy
      · cases h
    · cases h
theorem hasBody_spec {g : Nat} (h : hasBody P g = true) : ∃ fn c, P.funcs[g]? = some fn ∧ fn.body = some c := by
  unfold hasBody at h
  split at h
  · rename_i fn hfn
    obtain ⟨c, hc⟩ := Option.isSome_iff_exists.1 h
    exact ⟨fn, c, hfn, hc⟩
  · cases h

theorem opk_out (hE : EnvOk E) {K : Value → AH → Prop} (h : opk E o T A K) : OpX E o T A K := by
  unfold opk at h
  split at h
  · rename_i t x y ho
    obtain ⟨p, h1, h2⟩ := evK_out h
    obtain ⟨u, h3, h4⟩ := evK_out h2
    obtain ⟨A', h5, h6⟩ := optK_out h4
    exact ⟨undef, A', OpEv.mem hE (by simp [aop, ho, cls, oStore, h1, h3, h5, asU]) (fun hn => by rw [astore_next h5]; exact hn), h6⟩
  · exact arK_out hE h
  · exact arK_out hE h
  · exact arK_out hE h
  · exact arK_out hE h
  · exact arK_out hE h
  · exact arK_out hE h
  · exact arK_out hE h
  · exact arK_out hE h
  · exact arK_out hE h
  · split at h
    · exact opq_X hE h
    · exact arK_out hE h
  · split at h
    · exact opq_X hE h
    · exact arK_out hE h
  · rename_i c ho
    split at h
    · rename_i g hc
      obtain ⟨l, h1, h2⟩ := evLK_out h
      split at h2
      · rename_i hb
        obtain ⟨v, A', h3, h4⟩ := h2
        obtain ⟨fn, cd, e1, e2⟩ := hasBody_spec hb
        exact ⟨v, A', OpEv.call hE (by simp [aop, ho, cls, oCall, hc, oCallF, e1, e2, h1]) h3, h4⟩
      · exact arK_out hE h2
    · rename_i f hnf hc
      obtain ⟨fv, f1, f2⟩ := evK_out h
      obtain ⟨l, h1, h2⟩ := evLK_out f2
      have hs := evO_spec f1
      obtain ⟨l1, l2⟩ := evL_ok h1
      have hx : ∀ y ∈ o.op.operands.toList, okX E y = true := by
        intro y hy
        rw [ho] at hy
        simp only [Op.operands, Call.operands, hc, Array.toList_append, List.mem_append] at hy
        rcases hy with hy | hy
        · simp at hy; subst hy; exact hs.1
        · exact l1 y hy
      have hnd : ∀ c', o.op ≠ .defer c' := fun c' e => by rw [ho] at e; cases e
      unfold clK at h2
      split at h2
      · rename_i g first captured
        split at h2
        · rename_i hb
          obtain ⟨v, A', h3, h4⟩ := h2
          obtain ⟨fn, cd, e1, e2⟩ := hasBody_spec hb
          refine ⟨v, A', OpEv.callOk hnd ?_ h3, h4⟩
          intro B w0 w ρ a R hop
          refine sound_spec (T := T) R hE (fun z hz => hop z hz (hx z hz)) ?_
          unfold aspec
          rw [ho]
          simp only [acall, hc, ← hs.2, l2, acallV, acallF, e1, e2]
        · exact h2.elim
      · rename_i n first captured
        obtain ⟨v, A', h3, h4⟩ := h2
        refine ⟨v, A', OpEv.roundOk hnd ?_ h3, h4⟩
        intro B w0 w ρ a R hop
        refine sound_spec (T := T) R hE (fun z hz => hop z hz (hx z hz)) ?_
        unfold aspec
        rw [ho]
        simp only [acall, hc, ← hs.2, l2, acallV]
      · exact h2.elim
    · split at h
      · exact opq_X hE h
      · exact arK_out hE h
    · exact arK_out hE h
  · exact opq_X hE h

/-! ### A region -/
def guardK (all : List Oper) (j : Nat) (want : Bool) (T : TT) (run skip : TT → Prop) : Prop := match all[j]? with
  | some o' => match o'.dst with
    | some d => match Nat.blt d T.n && Nat.blt d 10000 with
      | true => match T.t.get d with
        | some (.bool b) => belim b (putK T (some d) (.bool true) fun T => match want with | true => run T | false => skip T) (putK T (some d) (.bool false) fun T => match want with | true => skip T | false => run T)
        | some (.tuple _) => skip T
        | _ => False
      | false => False
    | none => False
  | none => False
def opsx (E : Env) (all : List Oper) : List Oper → TT → AH → (TT → AH → Prop) → Prop
  | [], T, A, K => K T A
  | o :: r, T, A, K => match o.guard with
    | none => opk E o T A fun v A => forceV v fun v => putK T o.dst v fun T => opsx E all r T A K
    | some (j, want) => guardK all j want T (fun T => opk E o T A fun v A => forceV v fun v => putK T o.dst v fun T => opsx E all r T A K) (fun T => putK T o.dst undef fun T => opsx E all r T A K)
theorem guardK_out {all : List Oper} {j : Nat} {want : Bool} {run skip : TT → Prop} (h : guardK all j want T run skip) (hg : o.guard = some (j, want)) : ∃ T1, (T.ok → TT.Same T T1) ∧ ((wantedT all o T1 = true ∧ run T1) ∨ (wantedT all o T1 = false ∧ skip T1)) := by
  unfold guardK at h
  split at h
  · rename_i o' ho
    split at h
    · rename_i d hd
      split at h
      · rename_i hlt2
        simp only [Bool.and_eq_true] at hlt2
        obtain ⟨hlt, hlt3⟩ := hlt2
        have key : ∀ (b : Bool), T.t.get d = some (.bool b) → (match want with | true => (match b with | true => run (T.put (some d) (.bool b)) | false => skip (T.put (some d) (.bool b))) | false => (match b with | true => skip (T.put (some d) (.bool b)) | false => run (T.put (some d) (.bool b)))) →
            ∃ T1, (T.ok → TT.Same T T1) ∧ ((wantedT all o T1 = true ∧ run T1) ∨ (wantedT all o T1 = false ∧ skip T1)) := by
          intro b hb hk
          have hget : T.get d = .bool b := by simp only [TT.get, hb]
          refine ⟨T.put (some d) (.bool b), fun hok => TT.Same.put hok.1 hget, ?_⟩
          have hy : yieldedT all (T.put (some d) (.bool b)) j = some b := by
            unfold yieldedT
            have hg2 : (T.put (some d) (.bool b)).get d = .bool b := by
              have : (T.put (some d) (.bool b)).t.get d = some (.bool b) := by
                have := blt_true hlt3
                rw [TT.put_lt (blt_true hlt), Trie.get_set' _ _ _ _ _ (by omega), if_pos rfl]
              simp only [TT.get, this]
            simp only [ho, hd, TT.put_n, hlt, hg2]
          unfold wantedT
          simp only [hg, hy]
          cases want <;> cases b <;> first | exact .inl ⟨rfl, hk⟩ | exact .inr ⟨rfl, hk⟩
        split at h
        · rename_i b hb
          cases b with
          | true => simp only [belim, putK_eq] at h; exact key true hb (by cases want <;> exact h)
          | false => simp only [belim, putK_eq] at h; exact key false hb (by cases want <;> exact h)
        · rename_i vs hb
          refine ⟨T, fun _ => TT.Same.refl T, .inr ⟨?_, h⟩⟩
          have hget : T.get d = .tuple vs := by simp only [TT.get, hb]
          unfold wantedT yieldedT
          simp only [hg, ho, hd, hlt, hget]
        · exact h.elim
      · exact h.elim
    · exact h.elim
  · exact h.elim

theorem TT.Same.trans (h : TT.Same T T1) (k : TT.Same T1 T2) : TT.Same T T2 := ⟨k.1.trans h.1, fun i => (k.2.1 i).trans (h.2.1 i), fun hok => k.2.2 (h.2.2 hok)⟩
theorem opsx_out (hE : EnvOk E) {ops : Array Oper} : ∀ {l : List Oper} {T : TT} {A : AH} {K : TT → AH → Prop}, opsx E ops.toList l T A K → ∃ T' A', OpsEv E ops l T A T' A' ∧ K T' A'
  | [], T, A, K, h => ⟨T, A, OpsEv.nil, h⟩
  | o :: r, T, A, K, h => by
    have go : ∀ {T : TT}, wantedT ops.toList o T = true → (opk E o T A fun v A => forceV v fun v => putK T o.dst v fun T => opsx E ops.toList r T A K) → ∃ T' A', OpsEv E ops (o :: r) T A T' A' ∧ K T' A' := by
      intro T hw h
      obtain ⟨v, A1, h1, h2⟩ := opk_out hE h
      have h2 := forceV_out h2
      rw [putK_eq] at h2
      obtain ⟨T', A', h3, h4⟩ := opsx_out hE h2
      exact ⟨T', A', OpsEv.run hw h1 h3, h4⟩
    simp only [opsx] at h
    split at h
    · rename_i hg
      exact go (by unfold wantedT; rw [hg]) h
    · rename_i j want hg
      obtain ⟨T1, hs, hw | hw⟩ := guardK_out h hg
      · obtain ⟨T', A', h1, h2⟩ := go hw.1 hw.2
        exact ⟨T', A', OpsEv.same hs h1, h2⟩
      · have h2 := hw.2
        rw [putK_eq] at h2
        obtain ⟨T', A', h3, h4⟩ := opsx_out hE h2
        exact ⟨T', A', OpsEv.same hs (OpsEv.skip hw.1 h3), h4⟩
end
end Go.Ex
set_option linter.unusedVariables false
set_option linter.unusedSimpArgs false
namespace Go.Ex
open Go Go.RowKit
section
variable {E : Env} {B : Nat} {w0 : Base} {w w' : World} {ρ ρ' ρ0 : Ren} {A A' A1 A2 : AH} {T T' T1 T2 : TT} {ds ds' ds1 ds2 : List Nat} {ro : Option Nat} {x : AX} {c d : Code} {o : Oper} {v : Value} {P : Program}

/-! ### A drawn region that changes no memory -/
theorem OpEv.congr (h : ∀ x ∈ o.op.operands.toList, evT T1 x = evT T x) (k : OpEv E o T1 A v A') : OpEv E o T A v A' := fun B w0 w ρ a ro K Q R hop hK => k B w0 w ρ a ro K Q R (fun x hx hok => by rw [h x hx]; exact hop x hx hok) hK

inductive QCallP (E : Env) (g : FuncId) (args : List Value) (A : AH) (K : Value → Prop) : Prop
  | mk (v : Value) (h : Ev E (.fn g args A) (.val v A)) (k : K v)
def opqq (E : Env) (o : Oper) (T : TT) (A : AH) (K : Value → Prop) : Prop := match o.op with
  | .call c => match c.callee with
    | .value (.func g) => evLK E T c.args.toList fun l => match hasBody E.P g with
      | true => QCallP E g l A K
      | false => optK (quietR (aop E o T A)) K
    | _ => opq E o T A K
  | _ => opq E o T A K
theorem opqq_out (hE : EnvOk E) {K : Value → Prop} (h : opqq E o T A K) : OpQ E o T A K := by
  unfold opqq at h
  split at h
  · rename_i c ho
    split at h
    · rename_i g hc
      obtain ⟨l, h1, h2⟩ := evLK_out h
      split at h2
      · rename_i hb
        obtain ⟨v, h3, h4⟩ := h2
        obtain ⟨fn, cd, e1, e2⟩ := hasBody_spec hb
        exact ⟨v, OpEv.call hE (by simp [aop, ho, cls, oCall, hc, oCallF, e1, e2, h1]) h3, h4⟩
      · exact quiet_out hE h2
    · exact opq_out hE h
  · exact opq_out hE h
def opsq (E : Env) (all : List Oper) : List Oper → TT → AH → (TT → Prop) → Prop
  | [], T, A, K => K T
  | o :: r, T, A, K => match o.guard with
    | none => opqq E o T A fun v => forceV v fun v => putK T o.dst v fun T => opsq E all r T A K
    | some (j, want) => guardK all j want T (fun T => opqq E o T A fun v => forceV v fun v => putK T o.dst v fun T => opsq E all r T A K) (fun T => putK T o.dst undef fun T => opsq E all r T A K)

def QRun (E : Env) (all : List Oper) : List Oper → TT → AH → TT → Prop
  | [], T, A, T' => T' = T
  | o :: r, T, A, T' => ∃ v, ((wantedT all o T = false ∧ v = undef) ∨ (wantedT all o T = true ∧ OpEv E o T A v A)) ∧ QRun E all r (T.put o.dst v) A T'
theorem TT.Same.put2 (hok : T.ok) (h : TT.Same T T1) (d : Option Tmp) (v : Value) : TT.Same (T.put d v) (T1.put d v) := by
  cases d with
  | none => exact h
  | some d =>
    refine ⟨by rw [TT.put_n, TT.put_n]; exact h.1, fun k => ?_, fun _ => TT.put_ok (h.2.2 hok) _ _⟩
    rw [TT.get_put hok.1, TT.get_put (h.2.2 hok).1, h.1, h.2.1]
theorem wanted_same (h : TT.Same T T1) (all : List Oper) (o : Oper) : wantedT all o T1 = wantedT all o T := by
  unfold wantedT yieldedT
  simp only [h.1, h.2.1]
theorem evT_same (h : TT.Same T T1) (x : Operand) : evT T1 x = evT T x := by
  cases x with
  | tmp k => exact h.2.1 k
  | _ => rfl
theorem opsq_out (hE : EnvOk E) {all : List Oper} : ∀ {l : List Oper} {T T1 : TT} {K : TT → Prop}, T.ok → TT.Same T T1 → opsq E all l T1 A K → ∃ T' T1', QRun E all l T A T' ∧ TT.Same T' T1' ∧ K T1'
  | [], T, T1, K, hok, hs, h => ⟨T, T1, rfl, hs, h⟩
  | o :: r, T, T1, K, hok, hs, h => by
    have go : ∀ {T1 : TT}, TT.Same T T1 → wantedT all o T1 = true → (opqq E o T1 A fun v => forceV v fun v => putK T1 o.dst v fun T => opsq E all r T A K) → ∃ T' T1', QRun E all (o :: r) T A T' ∧ TT.Same T' T1' ∧ K T1' := by
      intro T1 hs hw h
      obtain ⟨v, h1, h2⟩ := opqq_out hE h
      have h2 := forceV_out h2
      rw [putK_eq] at h2
      obtain ⟨T', T1', h3, h4, h5⟩ := opsq_out hE (TT.put_ok hok _ _) (hs.put2 hok o.dst v) h2
      exact ⟨T', T1', ⟨v, .inr ⟨by rw [← wanted_same hs]; exact hw, OpEv.congr (fun x _ => evT_same hs x) h1⟩, h3⟩, h4, h5⟩
    simp only [opsq] at h
    split at h
    · rename_i hg
      exact go hs (by unfold wantedT; rw [hg]) h
    · rename_i j want hg
      obtain ⟨T2, hs2, hw | hw⟩ := guardK_out h hg
      · exact go (hs.trans (hs2 (hs.2.2 hok))) hw.1 hw.2
      · have hs3 := hs.trans (hs2 (hs.2.2 hok))
        have h2 := hw.2
        rw [putK_eq] at h2
        obtain ⟨T', T1', h3, h4, h5⟩ := opsq_out hE (TT.put_ok hok _ _) (hs3.put2 hok o.dst undef) h2
        exact ⟨T', T1', ⟨undef, .inl ⟨by rw [← wanted_same hs3]; exact hw.1, rfl⟩, h3⟩, h4, h5⟩

structure QAt (E : Env) (all l : List Oper) (n : Nat) (T' : TT) (A : AH) (i : Nat) (o : Oper) (Ti : TT) (v : Value) : Prop where
  size : Ti.n = n
  same : ∀ k, k ∉ dstsOf (l.drop i) → T'.get k = Ti.get k
  step : (wantedT all o Ti = false ∧ v = undef) ∨ (wantedT all o Ti = true ∧ OpEv E o Ti A v A)
  out : ∀ d, o.dst = some d → d < n → d ∉ dstsOf (l.drop (i + 1)) → T'.get d = v
theorem QRun_spec {all : List Oper} : ∀ (l : List Oper) (T : TT) (T' : TT), T.ok → QRun E all l T A T' →
    T'.n = T.n ∧ T'.ok ∧ (∀ k, k ∉ dstsOf l → T'.get k = T.get k) ∧ ∀ (i : Nat) (o : Oper), l[i]? = some o → ∃ Ti v, QAt E all l T.n T' A i o Ti v
  | [], T, T', hok, h => by
    obtain rfl : T' = T := h
    exact ⟨rfl, hok, fun _ _ => rfl, fun i o h => by simp at h⟩
  | o :: rest, T, T', hok, ⟨v, hstep, hrun⟩ => by
    obtain ⟨h1, h2, h3, h8⟩ := QRun_spec rest _ _ (TT.put_ok hok _ _) hrun
    rw [TT.put_n] at h1
    have hput : ∀ k, o.dst ≠ some k → (T.put o.dst v).get k = T.get k := fun k hk => put_other hok hk v
    have hnot : ∀ k, k ∉ dstsOf (o :: rest) → o.dst ≠ some k ∧ k ∉ dstsOf rest := by
      intro k hk
      exact ⟨fun e => hk (mem_dstsOf.2 ⟨0, o, rfl, e⟩), fun e => hk (by
        obtain ⟨i, o', hi, hd⟩ := mem_dstsOf.1 e
        exact mem_dstsOf.2 ⟨i + 1, o', by simpa using hi, hd⟩)⟩
    refine ⟨h1, h2, fun k hk => by rw [h3 k (hnot k hk).2, hput k (hnot k hk).1], ?_⟩
    intro i o' hi
    cases i with
    | zero =>
      simp at hi; subst hi
      refine ⟨T, v, rfl, fun k hk => ?_, hstep, fun d hd hlt hn => ?_⟩
      · rw [List.drop_zero] at hk
        rw [h3 k (hnot k hk).2, hput k (hnot k hk).1]
      · have hn : d ∉ dstsOf rest := by simpa using hn
        rw [h3 d hn, hd, TT.get_put hok.1, if_pos ⟨hlt, rfl⟩]
    | succ i =>
      obtain ⟨Ti, v', q⟩ := h8 i o' (by simpa using hi)
      exact ⟨Ti, v', by rw [q.size, TT.put_n], fun k hk => q.same k (by simpa using hk), q.step, fun d hd hlt hn => q.out d hd (by rw [TT.put_n]; exact hlt) (by simpa using hn)⟩

theorem QAt.evT_eq {L : List Oper} {n i : Nat} {Ti : TT} (q : QAt E L L n T' A i o Ti v) (hn : T'.n = n) (hd : distinct (dstsOf L) = true) (hor : orderOk L L = true) (heb : edgesBack L 0 = true) (ho : L[i]? = some o) :
    (∀ x ∈ o.op.operands.toList, evT Ti x = evT T' x) ∧ wantedT L o Ti = wantedT L o T' := by
  have hback := edgesBack_spec L 0 i o heb ho
  have get : ∀ d, (∀ (j : Nat) (p : Oper), L[j]? = some p → p.dst = some d → j < i) → T'.get d = Ti.get d := by
    intro d h
    refine q.same d fun hm => ?_
    obtain ⟨m, p, hm, hp⟩ := mem_dstsOf.1 hm
    rw [List.getElem?_drop] at hm
    have := h _ _ hm hp
    omega
  refine ⟨fun x hx => ?_, ?_⟩
  · cases x with
    | tmp d =>
      exact (get d fun j p hj hp => by
        have := hback j ((orderOk_spec _ i o hor ho).1 d hx j (by have := placeOf_spec _ 0 j p d hd hj hp; simpa using this))
        omega).symm
    | _ => rfl
  · unfold wantedT
    cases hg : o.guard with
    | none => rfl
    | some p =>
      obtain ⟨j, want⟩ := p
      simp only
      have hj := hback j ((orderOk_spec _ i o hor ho).2 j want hg)
      have : yieldedT L Ti j = yieldedT L T' j := by
        unfold yieldedT
        cases ho' : L[j]? with
        | none => rfl
        | some o' =>
          cases hdst : o'.dst with
          | none => simp [hdst]
          | some d =>
            have := get d fun m p hm hp => by
              have := dst_uniq hd hm ho' hp hdst
              omega
            simp only [hdst, q.size, hn, this]
      rw [this]

theorem quietRun (hE : EnvOk E) (ro : Option Nat) {ops : Array Oper} {Q : Exit → Act → World → Prop} {dd : List Deferred} (hok : T'.ok) (hn : T'.n = T.n) (hd : distinct (dstsOf ops.toList) = true) (hor : orderOk ops.toList ops.toList = true) (heb : edgesBack ops.toList 0 = true)
    (hAt : ∀ (i : Nat) (o : Oper), ops.toList[i]? = some o → ∃ Ti v, QAt E ops.toList ops.toList T.n T' A i o Ti v)
    (hQ : ∀ ρ' a' w', Ren.le ρ0 ρ' → Rel E.P E.G B w0 ρ' A w' → Keep A A → TTR ρ' T' a'.tmps → T'.ok → a'.defers = dd → Q .normal a' w') :
    ∀ (fuel : Nat) (listed : Array Bool) (a : Act) (w : World) (ρ : Ren), listed.toList.count false ≤ fuel → Mid E B w0 ops T' [] [A] A ρ0 dd listed a w ρ 0 A → wpAnyIn (WF ro) 0 E.P .any ops Q fuel listed a w := by
  have hedge : ∀ {o : Oper} {listed : Array Bool}, (∀ e ∈ o.after, Region.binds .any e = true → listed.getD e.on false = true) → ∀ e ∈ edgesTo o, listed.getD e false = true := by
    intro o listed h e he
    unfold edgesTo at he
    obtain ⟨x, hx, rfl⟩ := List.mem_map.1 he
    obtain ⟨h1, h2⟩ := List.mem_filter.1 hx
    exact h x (by simpa using h1) h2
  have hedge' : ∀ {o : Oper} {listed : Array Bool}, (∀ e ∈ edgesTo o, listed.getD e false = true) → ∀ e ∈ o.after, Region.binds .any e = true → listed.getD e.on false = true := by
    intro o listed h e he hb
    exact h e.on (List.mem_map.2 ⟨e, List.mem_filter.2 ⟨by simpa using he, hb⟩, rfl⟩)
  have allDone : ∀ {listed : Array Bool} {a : Act} {w : World} {ρ : Ren}, Mid E B w0 ops T' [] [A] A ρ0 dd listed a w ρ 0 A → Region.ready .any ops listed = [] → Q .normal a w := by
    intro listed a w ρ M hr
    have all : ∀ i, i < ops.size → listed.getD i false = true := by
      intro i
      induction i using Nat.strongRecOn with
      | _ i ih =>
        intro hi
        cases hl : listed.getD i false with
        | true => rfl
        | false =>
          exfalso
          have hi2 : i < listed.size := by rw [M.size]; exact hi
          have ho : ops[i]? = some ops[i] := Array.getElem?_eq_getElem hi
          have : i ∈ Region.ready .any ops listed := by
            refine mem_ready.2 ⟨?_, ops[i], ho, hedge' fun e he => ?_⟩
            · simp [hi2] at hl ⊢; exact hl
            · have := edgesBack_spec ops.toList 0 i ops[i] heb (by rw [Array.getElem?_toList]; exact ho) e he
              exact ih e (by omega) (by omega)
          rw [hr] at this; cases this
    refine hQ ρ a w M.ren M.rel (Keep.refl A) ⟨M.tsize, fun d hd => M.tmps d hd fun j o hj _ => all j ?_⟩ hok M.defers
    have := (List.getElem?_eq_some_iff.1 hj).1
    simpa using this
  have one : ∀ {listed : Array Bool} {a : Act} {w : World} {ρ : Ren} (i : Nat) (K : Act → World → Prop), Mid E B w0 ops T' [] [A] A ρ0 dd listed a w ρ 0 A → i ∈ Region.ready .any ops listed →
      (∀ a' w' ρ', Mid E B w0 ops T' [] [A] A ρ0 dd (listed.setIfInBounds i true) a' w' ρ' 0 A → K a' w') → wpOpIn (WF ro) 0 E.P ops Q i K a w := by
    intro listed a w ρ i K M hi hK
    obtain ⟨hun, o, ho, haft⟩ := mem_ready.1 hi
    have hr := hedge haft
    have hoL : ops.toList[i]? = some o := by rw [Array.getElem?_toList]; exact ho
    have hiL : i < listed.size := by rw [M.size]; exact (Array.getElem?_eq_some_iff.1 ho).1
    obtain ⟨Ti, v, q⟩ := hAt i o hoL
    obtain ⟨hev, hwant⟩ := q.evT_eq hn hd hor heb hoL
    have hop := M.opers hok hd hor hoL hr
    have hwd := M.guard hd hor hoL hr
    have mk : ∀ {ρ' : Ren} {u : Value} {w' : World}, Ren.le ρ ρ' → VR ρ' v u → Rel E.P E.G B w0 ρ' A w' → K (a.put o.dst u) w' := by
      intro ρ' u w' hle hv R'
      refine hK _ _ ρ' ⟨by simp [M.size], closed_set hiL hoL M.closed hr, (fun j x hx => by simp at hx), Nat.zero_le _, rfl, R', Keep.refl A, Ren.le_trans M.ren hle, put_tsize M.tsize _ _, ?_, by rw [Act.put_defers']; exact M.defers⟩
      refine put_tmps (R := fun k x y => VR ρ' x y) hd hiL hoL M.tsize (fun d hdst hlt => q.out d hdst (by rw [← hn]; exact hlt) (not_in_drop hd hoL hdst (Nat.lt_succ_self i))) (fun d hd => hv) ?_
      intro k hk _ hall
      obtain ⟨u, hu, h1⟩ := M.tmps k hk hall
      exact ⟨u, hu, h1.mono hle⟩
    unfold wpOpIn
    simp only [ho, hwd, ← hwant]
    rcases q.step with ⟨hw, hv⟩ | ⟨hw, hrun⟩
    · simp only [hw, Bool.false_eq_true, if_false]
      exact ⟨fun _ _ => trivial, mk (Ren.le_refl ρ) (by rw [hv]; exact undef_VR) M.rel⟩
    · simp only [hw, if_true]
      exact hrun B w0 w ρ a ro K Q M.rel (fun x hx hok => by rw [hev x hx]; exact hop x hx hok) (fun ρ' u w' hle hv R' _ => mk hle hv R')
  intro fuel
  induction fuel with
  | zero =>
    intro listed a w ρ hc M
    have hr : Region.ready .any ops listed = [] := by
      cases hrd : Region.ready .any ops listed with
      | nil => rfl
      | cons i r =>
        exfalso
        have hi : i ∈ Region.ready .any ops listed := by rw [hrd]; simp
        obtain ⟨hun, o, ho, _⟩ := mem_ready.1 hi
        have := count_set (by rw [M.size]; exact (Array.getElem?_eq_some_iff.1 ho).1) hun
        omega
    exact ⟨hr, allDone M hr⟩
  | succ fuel ih =>
    intro listed a w ρ hc M
    refine ⟨fun hr => allDone M hr, fun i hi => one i _ M hi fun a' w' ρ' M' => ih _ _ _ ρ' ?_ M'⟩
    obtain ⟨hun, o, ho, _⟩ := mem_ready.1 hi
    have := count_set (by rw [M.size]; exact (Array.getElem?_eq_some_iff.1 ho).1) hun
    omega

theorem Ev.quiet (hE : EnvOk E) {id : Nat} {ops : Array Oper} (hd : distinct (dstsOf ops.toList) = true) (hor : orderOk ops.toList ops.toList = true) (heb : edgesBack ops.toList 0 = true) (h : T.ok → QRun E ops.toList ops.toList T A T') : Ev E (.code (.region id ops true) ro T ds A) (.code .normal T' ds A) := by
  intro B w0 ρ a w ro' Q R hT hok hdd hro hQ
  obtain ⟨h1, h2, h3, h4⟩ := QRun_spec _ _ _ hok (h hok)
  refine wpIn_region_any hE.mixed ?_
  refine quietRun (T := T) (ρ0 := ρ) (dd := a.defers) hE ro' h2 h1 hd hor heb h4 (fun ρ' a' w' g1 g2 g3 g4 g5 g6 => hQ ρ' a' w' g1 g2 g3 g4 g5 (by rw [g6]; exact hdd.mono g1)) ops.size _ a _ ρ ?_ ?_
  · have := List.count_le_length (a := false) (l := (Array.replicate ops.size false).toList)
    simp
  · have none0 : ∀ j, (Array.replicate ops.size false).getD j false = true → False := by
      intro j hl
      simp only [Array.getD_eq_getD_getElem?, Array.getElem?_replicate] at hl
      split at hl <;> cases hl
    refine ⟨by simp, fun i o _ hl => (none0 i hl).elim, fun j x hx => by simp at hx, Nat.zero_le _, rfl, R.drewTo _, Keep.refl A, Ren.le_refl ρ, by rw [h1]; exact hT.1, ?_, rfl⟩
    intro k hk hall
    have hnot : k ∉ dstsOf ops.toList := by
      intro hm
      obtain ⟨i, o, hi, hdst⟩ := mem_dstsOf.1 hm
      exact (none0 _ (hall i o hi hdst)).elim
    rw [h3 k hnot]
    exact hT.2 k (by rw [← h1]; exact hk)
end
end Go.Ex
set_option linter.unusedVariables false
set_option linter.unusedSimpArgs false
namespace Go.Ex
open Go Go.RowKit
section
variable {E : Env} {B : Nat} {w0 : Base} {w w' : World} {ρ ρ' ρ0 : Ren} {A A' A1 A2 : AH} {T T' T1 T2 : TT} {ds ds' ds1 ds2 : List Nat} {ro : Option Nat} {x : AX} {c d : Code} {o : Oper} {v : Value} {P : Program}

/-- Some code, whatever it comes to. -/
inductive CodeP (E : Env) (c : Code) (ro : Option Nat) (T : TT) (ds : List Nat) (A : AH) (K : AX → TT → List Nat → AH → Prop) : Prop
  | mk (x : AX) (T' : TT) (ds' : List Nat) (A' : AH) (h : Ev E (.code c ro T ds A) (.code x T' ds' A')) (k : K x T' ds' A')
def condK (E : Env) (T : TT) (y : Operand) (Kt Kf : TT → Prop) : Prop := match y with
  | .tmp k => match Nat.blt k 10000, T.t.get k with
    | true, some (.bool b) => belim b (putK T (some k) (.bool true) Kt) (putK T (some k) (.bool false) Kf)
    | _, _ => False
  | .const (.bool true) => Kt T
  | .const (.bool false) => Kf T
  | _ => False
def seqK (K K' : AX → TT → List Nat → AH → Prop) : AX → TT → List Nat → AH → Prop
  | .normal, T, ds, A => K .normal T ds A
  | .ret, T, ds, A => K' .ret T ds A
  | .exit i, T, ds, A => K' (.exit i) T ds A
def blockK (id : Nat) (K : AX → TT → List Nat → AH → Prop) : AX → TT → List Nat → AH → Prop
  | .normal, T, ds, A => K .normal T ds A
  | .ret, T, ds, A => K .ret T ds A
  | .exit i, T, ds, A => match Nat.beq i id with
    | true => K .normal T ds A
    | false => K (.exit i) T ds A
def drawOkB (ops : List Oper) : Bool := distinct (dstsOf ops) && orderOk ops ops && edgesBack ops 0
def wx (E : Env) (ro : Option Nat) : Code → TT → List Nat → AH → (AX → TT → List Nat → AH → Prop) → Prop
  | .skip, T, ds, A, K => K .normal T ds A
  | .region _ ops false, T, ds, A, K => opsx E ops.toList ops.toList T A fun T A => K .normal T ds A
  | .region id ops true, T, ds, A, K => CodeP E (.region id ops true) ro T ds A K
  | .seq a b, T, ds, A, K => wx E ro a T ds A (seqK (fun _ T ds A => wx E ro b T ds A K) K)
  | .cond y a b, T, ds, A, K => condK E T y (fun T => wx E ro a T ds A K) (fun T => wx E ro b T ds A K)
  | .block id a, T, ds, A, K => wx E ro a T ds A (blockK id K)
  | .loop a, T, ds, A, K => CodeP E (.loop a) ro T ds A K
  | .rangeFunc f p a b, T, ds, A, K => CodeP E (.rangeFunc f p a b) ro T ds A K
  | .exit id, T, ds, A, K => K (.exit id) T ds A
  | .scope a, T, ds, A, K => wx E ro a T ds A K
  | .label _, T, ds, A, K => K .normal T ds A
  | .ret, T, ds, A, K => K .ret T ds A
  | .goto _, _, _, _, _ => False
  | .refuse _, _, _, _, _ => False

theorem condK_out {y : Operand} {Kt Kf : TT → Prop} (h : condK E T y Kt Kf) : ∃ T1 b, (T.ok → TT.Same T T1) ∧ evO E T1 y = some (.bool b) ∧ ((b = true ∧ Kt T1) ∨ (b = false ∧ Kf T1)) := by
  unfold condK at h
  split at h
  · rename_i k
    split at h
    · rename_i b hk hb
      have hk := blt_true hk
      have same : ∀ (b' : Bool), T.t.get k = some (.bool b') → (T.ok → TT.Same T (T.put (some k) (.bool b'))) := fun b' hb' hok => TT.Same.put hok.1 (by simp only [TT.get, hb'])
      have hev : ∀ (b' : Bool), T.t.get k = some (.bool b') → evO E (T.put (some k) (.bool b')) (.tmp k) = some (.bool b') := by
        intro b' hb'
        by_cases hlt : k < T.n
        · rw [TT.put_lt hlt]
          simp only [evO]
          rw [Trie.get_set' _ _ _ _ _ (by omega), if_pos rfl]
        · rw [TT.put_ge hlt]; simp only [evO, hb']
      cases b with
      | true => simp only [belim, putK_eq] at h; exact ⟨_, true, same true hb, hev true hb, .inl ⟨rfl, h⟩⟩
      | false => simp only [belim, putK_eq] at h; exact ⟨_, false, same false hb, hev false hb, .inr ⟨rfl, h⟩⟩
    · exact h.elim
  · exact ⟨T, true, fun _ => TT.Same.refl T, rfl, .inl ⟨rfl, h⟩⟩
  · exact ⟨T, false, fun _ => TT.Same.refl T, rfl, .inr ⟨rfl, h⟩⟩
  · exact h.elim

theorem wx_out (hE : EnvOk E) : ∀ {c : Code} {T : TT} {ds : List Nat} {A : AH} {K : AX → TT → List Nat → AH → Prop}, wx E ro c T ds A K → CodeP E c ro T ds A K
  | .skip, T, ds, A, K, h => ⟨_, _, _, _, Ev.skip, h⟩
  | .region _ ops false, T, ds, A, K, h => by
    obtain ⟨T', A', h1, h2⟩ := opsx_out hE h
    exact ⟨_, _, _, _, Ev.region h1, h2⟩
  | .region _ ops true, T, ds, A, K, h => h
  | .seq a b, T, ds, A, K, h => by
    obtain ⟨x, T1, ds1, A1, h1, h2⟩ := wx_out hE (c := a) h
    cases x with
    | normal =>
      obtain ⟨x2, T2, ds2, A2, h3, h4⟩ := wx_out hE (c := b) h2
      exact ⟨_, _, _, _, Ev.seq h1 h3, h4⟩
    | ret => exact ⟨_, _, _, _, Ev.seq_out h1 (fun e => by cases e), h2⟩
    | exit i => exact ⟨_, _, _, _, Ev.seq_out h1 (fun e => by cases e), h2⟩
  | .cond y a b, T, ds, A, K, h => by
    obtain ⟨T1, t, hs, hev, ⟨rfl, hk⟩ | ⟨rfl, hk⟩⟩ := condK_out h
    · obtain ⟨x1, T2, ds1, A1, h1, h2⟩ := wx_out hE (c := a) hk
      exact ⟨_, _, _, _, Ev.same hs (Ev.cond hev h1), h2⟩
    · obtain ⟨x1, T2, ds1, A1, h1, h2⟩ := wx_out hE (c := b) hk
      exact ⟨_, _, _, _, Ev.same hs (Ev.cond hev h1), h2⟩
  | .block id a, T, ds, A, K, h => by
    obtain ⟨x, T1, ds1, A1, h1, h2⟩ := wx_out hE (c := a) h
    refine ⟨_, _, _, _, Ev.block h1, ?_⟩
    cases x with
    | normal => exact h2
    | ret => exact h2
    | exit i =>
      simp only [blockK] at h2
      simp only
      split at h2
      · rename_i hb
        rw [if_pos (Nat.eq_of_beq_eq_true hb)]; exact h2
      · rename_i hb
        rw [if_neg (fun e => by subst e; rw [Nat.beq_refl] at hb; cases hb)]; exact h2
  | .loop a, T, ds, A, K, h => h
  | .rangeFunc f p a b, T, ds, A, K, h => h
  | .exit id, T, ds, A, K, h => ⟨_, _, _, _, Ev.exit, h⟩
  | .scope a, T, ds, A, K, h => by
    obtain ⟨x, T1, ds1, A1, h1, h2⟩ := wx_out hE (c := a) h
    exact ⟨_, _, _, _, Ev.scope h1, h2⟩
  | .label _, T, ds, A, K, h => ⟨_, _, _, _, Ev.label, h⟩
  | .ret, T, ds, A, K, h => ⟨_, _, _, _, Ev.ret, h⟩
  | .goto _, _, _, _, _, h => h.elim
  | .refuse _, _, _, _, _, h => h.elim

theorem guardK_weak {all : List Oper} {j : Nat} {want : Bool} {run skip : TT → Prop} (h : guardK all j want T run skip) : ∃ T1, run T1 ∨ skip T1 := by
  unfold guardK at h
  split at h
  · split at h
    · split at h
      · split at h
        · rename_i b _
          cases b <;> cases want <;> simp only [belim, putK_eq] at h <;> first | exact ⟨_, .inl h⟩ | exact ⟨_, .inr h⟩
        · exact ⟨_, .inr h⟩
        · exact h.elim
      · exact h.elim
    · exact h.elim
  · exact h.elim
theorem opsq_weak (hE : EnvOk E) {all : List Oper} : ∀ {l : List Oper} {T : TT} {K : TT → Prop}, opsq E all l T A K → ∃ T', K T'
  | [], T, K, h => ⟨T, h⟩
  | o :: r, T, K, h => by
    have go : ∀ {T : TT}, (opqq E o T A fun v => forceV v fun v => putK T o.dst v fun T => opsq E all r T A K) → ∃ T', K T' := by
      intro T h
      obtain ⟨v, _, h2⟩ := opqq_out hE h
      have h2 := forceV_out h2
      rw [putK_eq] at h2
      exact opsq_weak hE h2
    simp only [opsq] at h
    split at h
    · exact go h
    · obtain ⟨T1, h | h⟩ := guardK_weak h
      · exact go h
      · rw [putK_eq] at h
        exact opsq_weak hE h
/-- A drawn region that changes no memory, in the order of its text. -/
theorem quiet_draw (hE : EnvOk E) {id : Nat} {ops : Array Oper} {K : AX → TT → List Nat → AH → Prop} (hc : drawOkB ops.toList = true) (h : opsq E ops.toList ops.toList T A fun T => K .normal T ds A) : CodeP E (.region id ops true) ro T ds A K := by
  simp only [drawOkB, Bool.and_eq_true] at hc
  by_cases hn : T.ok
  · obtain ⟨T', T1', h1, h2, h3⟩ := opsq_out hE (l := ops.toList) hn (TT.Same.refl T) h
    refine ⟨_, T1', ds, A, ?_, h3⟩
    have := Ev.quiet (E := E) (ro := ro) (ds := ds) (T := T) (T' := T') (id := id) (ops := ops) hE hc.1.1 hc.1.2 hc.2 (fun _ => h1)
    intro B w0 ρ a w ro' Q R hT hok hd hro hQ
    refine this B w0 ρ a w ro' Q R hT hok hd hro ?_
    intro ρ' a' w' g1 g2 g3 g4 g5 g6
    exact hQ ρ' a' w' g1 g2 g3 (h2.ttr g4) (h2.2.2 g5) g6
  · obtain ⟨T1', h3⟩ := opsq_weak hE h
    exact ⟨_, T1', ds, A, fun B w0 ρ a w ro' Q R hT hok => absurd hok hn, h3⟩

/-! ### A function -/
def resK (P : Program) (T : TT) (A : AH) : List ResultVar → (List Value → Prop) → Prop
  | [], K => K []
  | .tmp k :: r, K => match T.t.get k with
    | some v => resK P T A r fun l => K (v :: l)
    | none => resK P T A r fun l => K (undef :: l)
  | .cell a ty :: r, K => match T.t.get a with
    | some p => optK (aload P ty p A) fun v => resK P T A r fun l => K (v :: l)
    | none => False
theorem resK_out : ∀ {rs : List ResultVar} {K : List Value → Prop}, resK P T A rs K → ∃ vs, aresults P rs T A = some vs ∧ K vs
  | [], K, h => ⟨[], rfl, h⟩
  | .tmp k :: r, K, h => by
    simp only [resK] at h
    split at h
    · rename_i v hv
      obtain ⟨l, h1, h2⟩ := resK_out h
      exact ⟨v :: l, by simp only [aresults, h1, TT.get, hv], h2⟩
    · rename_i hv
      obtain ⟨l, h1, h2⟩ := resK_out h
      exact ⟨undef :: l, by simp only [aresults, h1, TT.get, hv], h2⟩
  | .cell a ty :: r, K, h => by
    simp only [resK] at h
    split at h
    · rename_i p hp
      obtain ⟨v, h1, h2⟩ := optK_out h
      obtain ⟨l, h3, h4⟩ := resK_out h2
      exact ⟨v :: l, by simp only [aresults, h3, TT.get, hp, h1], h4⟩
    · exact h.elim
def finK (E : Env) (fn : Func) (K : Value → AH → Prop) : AX → TT → List Nat → AH → Prop
  | .exit _, _, _, _ => False
  | _, T, ds, A => optK (takeAll ds A) fun A => resK E.P T A fn.results.toList fun vs => match vs with
    | [v] => K v A
    | vs => K (.tuple ⟨vs⟩) A
def leafK (n : Nat) : List Value → Nat → Trie Value → (Trie Value → Prop) → Prop
  | [], _, t, K => K t
  | v :: r, i, t, K => setK 24 t i v fun t => leafK n r (i + 1) t K
theorem leafK_eq (n : Nat) : ∀ (l : List Value) (i : Nat) (t : Trie Value) (K : Trie Value → Prop), leafK n l i t K = K (TT.ofList l i t)
  | [], i, t, K => rfl
  | v :: r, i, t, K => by
    simp only [leafK, setK_eq, TT.ofList]
    exact leafK_eq n r (i + 1) _ K
/-- Into a function: its number of temporaries is told. -/
theorem fn_in (hE : EnvOk E) {g : FuncId} {fn : Func} (hf : E.P.funcs[g]? = some fn) (hb : fn.body = some c) {args : List Value} {n : Nat} (hn : max args.length fn.ntmps = n) (hm : n ≤ 4000) {K : Value → AH → Prop}
    (h : leafK n args 0 .leaf fun t => wx E none c ⟨t, n⟩ [] A (finK E fn K)) : CallP E g args A K := by
  rw [leafK_eq] at h
  subst hn
  obtain ⟨x, T', ds', A', h1, h2⟩ := wx_out hE h
  have fin : (∀ id, x ≠ .exit id) → optK (takeAll ds' A') (fun A => resK E.P T' A fn.results.toList fun vs => match vs with
    | [v] => K v A
    | vs => K (.tuple ⟨vs⟩) A) → CallP E g args A K := by
    intro hx h
    obtain ⟨A2, e1, e2⟩ := optK_out h
    obtain ⟨vs, e3, e4⟩ := resK_out e2
    refine ⟨_, A2, Ev.fn hf hb hm h1 hx e1 e3 rfl, ?_⟩
    split at e4
    · exact e4
    · rename_i hne
      match vs, hne with
      | [v], hne => exact absurd rfl (hne v)
      | [], _ => exact e4
      | _ :: _ :: _, _ => exact e4
  cases x with
  | normal => exact fin (fun id e => by cases e) h2
  | ret => exact fin (fun id e => by cases e) h2
  | exit id => exact h2.elim
end
end Go.Ex
set_option linter.unusedVariables false
set_option linter.unusedSimpArgs false
namespace Go.Ex
open Go Go.RowKit
theorem belim_dec {p : Prop} [Decidable p] {Kt Kf : Prop} (h1 : p → Kt) (h2 : ¬ p → Kf) : belim (decide p) Kt Kf := belim_mk (fun h => h1 (of_decide_eq_true h)) (fun h => h2 (of_decide_eq_false h))
theorem belim_dt {p : Prop} [Decidable p] {Kt Kf : Prop} (h : p) (k : Kt) : belim (decide p) Kt Kf := belim_t (decide_eq_true h) k
theorem belim_df {p : Prop} [Decidable p] {Kt Kf : Prop} (h : ¬ p) (k : Kf) : belim (decide p) Kt Kf := belim_f (decide_eq_false h) k
theorem belim_beq {a b : Int} {Kt Kf : Prop} (h1 : a = b → Kt) (h2 : a ≠ b → Kf) : belim (a == b) Kt Kf := belim_mk (fun h => h1 (by simpa using h)) (fun h => h2 (by simpa using h))
theorem belim_bne {a b : Int} {Kt Kf : Prop} (h1 : a ≠ b → Kt) (h2 : a = b → Kf) : belim (a != b) Kt Kf := belim_mk (fun h => h1 (by simpa using h)) (fun h => h2 (by simpa using h))
theorem belim_not {b : Bool} {Kt Kf : Prop} (h : belim b Kf Kt) : belim (!b) Kt Kf := by cases b <;> exact h
/-- What a call comes to, memory as it was. -/
structure Ret (v0 : Value) (A0 : AH) (v : Value) (A : AH) : Prop where
  val : v = v0
  mem : A = A0
/-- What a call comes to; what it made is forgotten. -/
structure RetB (v0 : Value) (A0 : AH) (v : Value) (A : AH) : Prop where
  val : v = v0
  mem : ∀ id, id < A0.next → A.get id = A0.get id
theorem Ev.ofRet {E : Env} {g : FuncId} {args : List Value} {A : AH} {v : Value} (h : CallP E g args A (Ret v A)) : Ev E (.fn g args A) (.val v A) := by
  obtain ⟨v', A', h1, ⟨rfl, rfl⟩⟩ := h
  exact h1
theorem Ev.ofRetB {E : Env} {g : FuncId} {args : List Value} {A : AH} {v : Value} (hv : plainV v = true) (h : CallP E g args A (RetB v A)) : Ev E (.fn g args A) (.val v A) := by
  obtain ⟨v', A', h1, ⟨rfl, hm⟩⟩ := h
  exact h1.back hv hm
end Go.Ex
