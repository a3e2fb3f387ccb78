/- Lemmas: an executor over the program's code and its soundness, under the conditions that each theorem names. -/
import Derived.Test.YtplphgmdjogloaaGreatDoorExF
set_option linter.unusedVariables false
set_option linter.unusedSimpArgs false
set_option linter.unusedVariables false
set_option linter.unusedSimpArgs false
namespace Go.Ex
open Go Go.RowKit
section
variable {E : Env} {B : Nat} {w0 : Base}

/-! ### What our order tells, by operation -/
def MainOk (self : Self) (E : Env) (L : List Oper) (T' : TT) (preds ws : List Nat) (As : List AH) (i : Nat) (o : Oper) (v : Value) : Prop :=
  (∀ d, o.dst = some d → d < T'.n → T'.get d = v) ∧
  ((wantedT L o T' = false ∧ v = undef ∧ i ∉ ws) ∨
   (wantedT L o T' = true ∧ i ∉ ws ∧ ∀ k Ak, As[k]? = some Ak → winLo (preds.getD i 0) ws ≤ k → k ≤ winHi preds i ws → opRun self E o T' Ak = some (v, none)) ∨
   (wantedT L o T' = true ∧ ∃ c Tx Ax An, ws[c]? = some i ∧ As[c]? = some Ax ∧ As[c + 1]? = some An ∧ (∀ x ∈ o.op.operands.toList, evT Tx x = evT T' x) ∧ opRun self E o Tx Ax = some (v, some An)))
structure SideOk (me : Self) (E : Env) (L : List Oper) (T' : TT) (sd : List Nat) (m : Nat) (Xs : List AH) (q : Nat) (o : Oper) (v : Value) : Prop where
  ops : ∀ k, .tmp k ∈ o.op.operands.toList → ∃ j p, L[j]? = some p ∧ p.dst = some k ∧ j ∈ sd
  guard : o.guard = none
  out : ∀ d, o.dst = some d → d < T'.n → T'.get d = v
  val : sideV m v = true
  run : ∃ Tx X Y, Xs[q]? = some X ∧ Xs[q + 1]? = some (orA X Y) ∧ (∀ x ∈ o.op.operands.toList, evT Tx x = evT T' x) ∧ opRun me E o Tx X = some (v, Y)
def JoinOk (self : Self) (E : Env) (L : List Oper) (T' : TT) (As Xs : List AH) (n m kr : Nat) (o : Oper) (v : Value) : Prop :=
  (∀ d, o.dst = some d → d < T'.n → T'.get d = v) ∧ ∃ A1 X1 J A2, As[kr]? = some A1 ∧ Xs[n]? = some X1 ∧ m = A1.next ∧ joinA A1 X1 = some J ∧ As[kr + 1]? = some A2 ∧
    ((wantedT L o T' = false ∧ v = undef ∧ A2 = J) ∨ (wantedT L o T' = true ∧ ∃ Tx Ax, (∀ x ∈ o.op.operands.toList, evT Tx x = evT T' x) ∧ opRun self E o Tx J = some (v, Ax) ∧ A2 = orA J Ax))

structure ACtx (me : Self) (E : Env) (ops : Array Oper) (T' : TT) (ws sd : List Nat) (As Xs : List AH) (A A' : AH) (r kr m : Nat) : Prop where
  ok : T'.ok
  dist : distinct (dstsOf ops.toList) = true
  ord : orderOk ops.toList ops.toList = true
  back : edgesBack ops.toList 0 = true
  wsU : ∀ (j j' x : Nat), ws[j]? = some x → ws[j']? = some x → j = j'
  sdU : ∀ (j j' x : Nat), sd[j]? = some x → sd[j']? = some x → j = j'
  chW : chainOk (predsOf ops.toList 0 []) ws = true
  chS : chainOk (predsOf ops.toList 0 []) sd = true
  rS : ∀ x ∈ sd, hasBit ((predsOf ops.toList 0 []).getD r 0) x = true
  rNot : r ∉ sd
  wsNot : ∀ x ∈ ws, x ∉ sd
  aside : ∀ (i : Nat) (o : Oper), ops.toList[i]? = some o → i ∉ sd → i ≠ r → (∃ j ∈ edgesTo o, j ∈ sd) → hasBit ((predsOf ops.toList 0 []).getD i 0) r = true
  main : ∀ (i : Nat) (o : Oper), ops.toList[i]? = some o → i ∉ sd → i ≠ r → ∃ v, MainOk me E ops.toList T' (predsOf ops.toList 0 []) ws As i o v
  side : ∀ (q i : Nat), sd[q]? = some i → ∃ o v, ops.toList[i]? = some o ∧ SideOk me E ops.toList T' sd m Xs q o v
  wsR : ws[kr]? = some r
  join : ∃ o v, ops.toList[r]? = some o ∧ JoinOk me E ops.toList T' As Xs sd.length m kr o v
  last : As[ws.length]? = some A'
  wsLt : ∀ x ∈ ws, x < ops.size
  low : A.next ≤ m
  high : m < 1099511627775

/-! ### The walk ahead of the join -/
def SideT (L : List Oper) (sd : List Nat) (k : Nat) : Prop := ∃ j o, L[j]? = some o ∧ o.dst = some k ∧ j ∈ sd

structure MidA (E : Env) (B : Nat) (w0 : Base) (ops : Array Oper) (T' : TT) (ws sd : List Nat) (As Xs : List AH) (A : AH) (ρ0 : Ren) (ds : List Deferred) (r m : Nat) (listed : Array Bool) (a : Act) (w : World) (ρ : Ren) (k : Nat) (Ak : AH) (ρX : Ren) (q : Nat) (X : AH) : Prop where
  size : listed.size = ops.size
  closed : ClosedS ops.toList (fun j => listed.getD j false = true)
  pre : ∀ (j x : Nat), ws[j]? = some x → (listed.getD x false = true ↔ j < k)
  le : k ≤ ws.length
  mem : As[k]? = some Ak
  rel : Rel E.P E.G B w0 ρ Ak w
  keep : Keep A Ak
  ren : Ren.le ρ0 ρ
  tsize : a.tmps.size = T'.n
  defers : a.defers = ds
  notR : listed.getD r false = false
  preX : ∀ (j x : Nat), sd[j]? = some x → (listed.getD x false = true ↔ j < q)
  leX : q ≤ sd.length
  memX : Xs[q]? = some X
  relX : Rel E.P E.G B w0 ρX X w
  nextX : m ≤ X.next
  apart : Apart ρ Ak ρX X
  tmps : ∀ k, k < T'.n → (∀ (j : Nat) (o : Oper), ops.toList[j]? = some o → o.dst = some k → listed.getD j false = true) → ∃ u, a.tmps[k]? = some u ∧ (¬ SideT ops.toList sd k → VR ρ (T'.get k) u) ∧ (SideT ops.toList sd k → VR ρX (T'.get k) u)

theorem getD_set {listed : Array Bool} {i : Nat} (hi : i < listed.size) (j : Nat) : (listed.setIfInBounds i true).getD j false = (if j = i then true else listed.getD j false) := by
  by_cases hj : j = i
  · subst hj; simp [hi]
  · simp only [if_neg hj]
    simp only [Array.getD_eq_getD_getElem?]
    rw [Array.getElem?_setIfInBounds_ne (fun e => hj e.symm)]
theorem closed_set {L : List Oper} {listed : Array Bool} {i : Nat} {o : Oper} (hi : i < listed.size) (ho : L[i]? = some o) (hc : ClosedS L (fun j => listed.getD j false = true)) (hr : ∀ e ∈ edgesTo o, listed.getD e false = true) : ClosedS L (fun j => (listed.setIfInBounds i true).getD j false = true) := by
  intro j p hj hlj e he
  simp only [getD_set hi] at hlj ⊢
  by_cases h1 : e = i
  · rw [if_pos h1]
  · rw [if_neg h1]
    by_cases h2 : j = i
    · subst h2
      rw [ho] at hj; cases hj
      exact hr e he
    · rw [if_neg h2] at hlj
      exact hc j p hj hlj e he
/-- All that an operation waits for is listed where its edges are. -/
theorem preds_listed {L : List Oper} {listed : Array Bool} {i : Nat} {o : Oper} (ho : L[i]? = some o) (hc : ClosedS L (fun j => listed.getD j false = true)) (hr : ∀ e ∈ edgesTo o, listed.getD e false = true) (x : Nat) (hx : hasBit ((predsOf L 0 []).getD i 0) x = true) : listed.getD x false = true :=
  predsOf_spec L 0 [] rfl rfl (fun j hj => by omega) i _ hc (fun p hp e he => by rw [ho] at hp; cases hp; exact hr e he) x hx
theorem preds_listed' {L : List Oper} {listed : Array Bool} {i : Nat} (hc : ClosedS L (fun j => listed.getD j false = true)) (hl : listed.getD i false = true) (x : Nat) (hx : hasBit ((predsOf L 0 []).getD i 0) x = true) : listed.getD x false = true :=
  predsOf_spec L 0 [] rfl rfl (fun j hj => by omega) i _ hc (fun p hp e he => hc i p hp hl e he) x hx
theorem window_of {L : List Oper} {ws : List Nat} {listed : Array Bool} {k i : Nat} {o : Oper} (ho : L[i]? = some o) (hc : ClosedS L (fun j => listed.getD j false = true)) (hr : ∀ e ∈ edgesTo o, listed.getD e false = true) (hun : listed.getD i false = false)
    (pre : ∀ (j x : Nat), ws[j]? = some x → (listed.getD x false = true ↔ j < k)) (le : k ≤ ws.length) : winLo ((predsOf L 0 []).getD i 0) ws ≤ k ∧ k ≤ winHi (predsOf L 0 []) i ws := by
  constructor
  · exact filter_le _ _ k fun j x hx hp => (pre j x hx).1 (preds_listed ho hc hr x hp)
  · refine filter_ge _ _ k le fun j x hx hj => ?_
    have hxl := (pre j x hx).2 hj
    cases hb : hasBit ((predsOf L 0 []).getD x 0) i with
    | false => rfl
    | true =>
      exfalso
      have := preds_listed' hc hxl i hb
      rw [hun] at this; cases this
/-- Of a chain the next one is the first that is not listed. -/
theorem next_of {L : List Oper} {ws : List Nat} {listed : Array Bool} {k c i : Nat} {o : Oper} (ho : L[i]? = some o) (hc : ClosedS L (fun j => listed.getD j false = true)) (hr : ∀ e ∈ edgesTo o, listed.getD e false = true) (hun : listed.getD i false = false)
    (pre : ∀ (j x : Nat), ws[j]? = some x → (listed.getD x false = true ↔ j < k)) (ch : chainOk (predsOf L 0 []) ws = true) (hci : ws[c]? = some i) (le : k ≤ ws.length) : c = k := by
  have hnot : ¬ c < k := fun h => by
    have := (pre _ _ hci).2 h
    rw [hun] at this; cases this
  rcases Nat.eq_zero_or_pos c with h0 | hpos
  · omega
  · have hlen : c < ws.length := (List.getElem?_eq_some_iff.1 hci).1
    obtain ⟨d, hd⟩ : ∃ d, c = d + 1 := ⟨c - 1, by omega⟩
    have hpx : ws[d]? = some ws[d] := List.getElem?_eq_getElem (by omega)
    have hch := chainOk_spec ws d _ i ch hpx (by rw [← hd]; exact hci)
    have := (pre d _ hpx).1 (preds_listed ho hc hr _ hch)
    omega
theorem pre_set {ws : List Nat} {listed : Array Bool} {k i : Nat} (hi : i < listed.size) (hU : ∀ (j j' x : Nat), ws[j]? = some x → ws[j']? = some x → j = j') (pre : ∀ (j x : Nat), ws[j]? = some x → (listed.getD x false = true ↔ j < k)) (hk : ws[k]? = some i) (j x : Nat) (hx : ws[j]? = some x) :
    ((listed.setIfInBounds i true).getD x false = true ↔ j < k + 1) := by
  rw [getD_set hi]
  by_cases hxi : x = i
  · subst hxi
    have := hU j k x hx hk
    subst this
    rw [if_pos rfl]; exact ⟨fun _ => by omega, fun _ => rfl⟩
  · rw [if_neg hxi, pre j x hx]
    constructor
    · intro h; omega
    · intro h
      rcases Nat.lt_or_ge j k with h' | h'
      · exact h'
      · have hjk : j = k := by omega
        subst hjk
        rw [hk] at hx; cases hx
        exact absurd rfl hxi
theorem pre_keep {ws : List Nat} {listed : Array Bool} {k i : Nat} (hi : i < listed.size) (hn : i ∉ ws) (pre : ∀ (j x : Nat), ws[j]? = some x → (listed.getD x false = true ↔ j < k)) (j x : Nat) (hx : ws[j]? = some x) :
    ((listed.setIfInBounds i true).getD x false = true ↔ j < k) := by
  rw [getD_set hi, if_neg (fun e => hn (by rw [← e]; exact List.mem_of_getElem? hx))]
  exact pre j x hx
theorem put_tsize {a : Act} {n : Nat} (h : a.tmps.size = n) (d : Option Nat) (u : Value) : (a.put d u).tmps.size = n := by
  cases d with
  | none => exact h
  | some e => simp [Act.put, h]
theorem put_tmps {L : List Oper} {listed : Array Bool} {T' : TT} {a : Act} {i : Nat} {o : Oper} {v u : Value} {R : Nat → Value → Value → Prop} (hd : distinct (dstsOf L) = true) (hi : i < listed.size) (ho : L[i]? = some o) (ts : a.tmps.size = T'.n)
    (out : ∀ d, o.dst = some d → d < T'.n → T'.get d = v) (h0 : ∀ d, o.dst = some d → R d v u)
    (h : ∀ k, k < T'.n → o.dst ≠ some k → (∀ (j : Nat) (o : Oper), L[j]? = some o → o.dst = some k → listed.getD j false = true) → ∃ u, a.tmps[k]? = some u ∧ R k (T'.get k) u) :
    ∀ k, k < T'.n → (∀ (j : Nat) (o : Oper), L[j]? = some o → o.dst = some k → (listed.setIfInBounds i true).getD j false = true) → ∃ z, (a.put o.dst u).tmps[k]? = some z ∧ R k (T'.get k) z := by
  intro d hlt hall
  by_cases hdst : o.dst = some d
  · refine ⟨u, ?_, ?_⟩
    · rw [hdst]
      simp only [Act.put]
      exact Array.getElem?_setIfInBounds_self_of_lt (by rw [ts]; exact hlt)
    · rw [out d hdst hlt]; exact h0 d hdst
  · obtain ⟨z, hz, hr'⟩ := h d hlt hdst fun j p hj hp => by
      have := hall j p hj hp
      rw [getD_set hi] at this
      by_cases hji : j = i
      · subst hji
        rw [ho] at hj; cases hj
        exact absurd hp hdst
      · rwa [if_neg hji] at this
    refine ⟨z, ?_, hr'⟩
    cases hx : o.dst with
    | none => exact hz
    | some e =>
      simp only [Act.put]
      rw [Array.getElem?_setIfInBounds_ne (fun h => hdst (by rw [hx, h]))]; exact hz

section walk
variable {self : Self} {ops : Array Oper} {T' : TT} {ws sd : List Nat} {As Xs : List AH} {A A' : AH} {ρ0 ρ ρX : Ren} {ds : List Deferred} {r kr m : Nat} {listed : Array Bool} {a : Act} {w : World} {k q : Nat} {Ak X : AH}

theorem tmp_out (hok : T'.ok) (ts : a.tmps.size = T'.n) {d : Nat} (h : ¬ d < T'.n) {ρ : Ren} : VR ρ (T'.get d) (a.tmps.getD d undef) := by
  have h1 : T'.get d = undef := by simp only [TT.get]; rw [hok.2 d (Nat.le_of_not_lt h)]
  have h2 : a.tmps.getD d undef = undef := by
    have : a.tmps[d]? = none := Array.getElem?_eq_none (Nat.le_trans (Nat.le_of_eq ts) (Nat.le_of_not_lt h))
    simp [this]
  rw [h1, h2]; exact undef_VR
/-- Ahead of the join no main operation looks at what stands aside. -/
theorem MidA.noSide (M : MidA E B w0 ops T' ws sd As Xs A ρ0 ds r m listed a w ρ k Ak ρX q X) (C : ACtx self E ops T' ws sd As Xs A A' r kr m) {i : Nat} {o : Oper} (ho : ops.toList[i]? = some o) (hi : i ∉ sd) (hir : i ≠ r)
    (hr : ∀ e ∈ edgesTo o, listed.getD e false = true) : ∀ j ∈ edgesTo o, j ∉ sd := fun j hj hs => by
  have := preds_listed ho M.closed hr r (C.aside i o ho hi hir ⟨j, hj, hs⟩)
  rw [M.notR] at this; cases this
theorem MidA.opers (M : MidA E B w0 ops T' ws sd As Xs A ρ0 ds r m listed a w ρ k Ak ρX q X) (C : ACtx self E ops T' ws sd As Xs A A' r kr m) {i : Nat} {o : Oper} (ho : ops.toList[i]? = some o)
    (hr : ∀ e ∈ edgesTo o, listed.getD e false = true) (hs : ∀ j ∈ edgesTo o, j ∉ sd) : ∀ x ∈ o.op.operands.toList, okX E x = true → VR ρ (evT T' x) (a.eval x) := by
  intro x hx hok2
  cases x with
  | tmp d =>
    show VR ρ (T'.get d) (a.tmps.getD d undef)
    by_cases hlt : d < T'.n
    · have hedge : ∀ (j : Nat) (p : Oper), ops.toList[j]? = some p → p.dst = some d → j ∈ edgesTo o := fun j p hj hp => (orderOk_spec _ i o C.ord ho).1 d hx j (by have := placeOf_spec _ 0 j p d C.dist hj hp; simpa using this)
      obtain ⟨u, hu, hv, _⟩ := M.tmps d hlt (fun j p hj hp => hr j (hedge j p hj hp))
      have : a.tmps.getD d undef = u := by simp [hu]
      rw [this]; exact hv fun ⟨j, p, hj, hp, hjs⟩ => hs j (hedge j p hj hp) hjs
    · exact tmp_out C.ok M.tsize hlt
  | const v => exact VR.plain v hok2
  | global g =>
    obtain ⟨q, hq⟩ := M.rel.glob g (blt_true hok2)
    exact ⟨⟨g, 0, none⟩, ⟨_, hq, by simp⟩, rfl⟩
  | func f => exact ⟨.func f, #[], #[], rfl, rfl, rfl, rfl⟩
theorem MidA.opersX (M : MidA E B w0 ops T' ws sd As Xs A ρ0 ds r m listed a w ρ k Ak ρX q X) (C : ACtx self E ops T' ws sd As Xs A A' r kr m) {i : Nat} {o : Oper} (ho : ops.toList[i]? = some o)
    (hr : ∀ e ∈ edgesTo o, listed.getD e false = true) (hs : ∀ k, .tmp k ∈ o.op.operands.toList → ∃ j p, ops.toList[j]? = some p ∧ p.dst = some k ∧ j ∈ sd) : ∀ x ∈ o.op.operands.toList, okX E x = true → VR ρX (evT T' x) (a.eval x) := by
  intro x hx hok2
  cases x with
  | tmp d =>
    show VR ρX (T'.get d) (a.tmps.getD d undef)
    by_cases hlt : d < T'.n
    · have hedge : ∀ (j : Nat) (p : Oper), ops.toList[j]? = some p → p.dst = some d → j ∈ edgesTo o := fun j p hj hp => (orderOk_spec _ i o C.ord ho).1 d hx j (by have := placeOf_spec _ 0 j p d C.dist hj hp; simpa using this)
      obtain ⟨u, hu, _, hv⟩ := M.tmps d hlt (fun j p hj hp => hr j (hedge j p hj hp))
      have : a.tmps.getD d undef = u := by simp [hu]
      rw [this]; exact hv (hs d hx)
    · exact tmp_out C.ok M.tsize hlt
  | const v => exact VR.plain v hok2
  | global g =>
    obtain ⟨q, hq⟩ := M.relX.glob g (blt_true hok2)
    exact ⟨⟨g, 0, none⟩, ⟨_, hq, by simp⟩, rfl⟩
  | func f => exact ⟨.func f, #[], #[], rfl, rfl, rfl, rfl⟩
theorem MidA.guard (M : MidA E B w0 ops T' ws sd As Xs A ρ0 ds r m listed a w ρ k Ak ρX q X) (C : ACtx self E ops T' ws sd As Xs A A' r kr m) {i : Nat} {o : Oper} (ho : ops.toList[i]? = some o)
    (hr : ∀ e ∈ edgesTo o, listed.getD e false = true) (hs : ∀ j ∈ edgesTo o, j ∉ sd) : Region.wanted o (yielded ops a.tmps) = wantedT ops.toList o T' := by
  refine wanted_run (ρ := ρ) fun j want hg o' ho' d hdst => ⟨fun hlt => ?_, fun hn => Array.getElem?_eq_none (Nat.le_trans (Nat.le_of_eq M.tsize) (Nat.le_of_not_lt hn))⟩
  have ho'' : ops.toList[j]? = some o' := by rw [Array.getElem?_toList]; exact ho'
  have hje := (orderOk_spec _ i o C.ord ho).2 j want hg
  have huniq : ∀ m p, ops.toList[m]? = some p → p.dst = some d → m = j := fun m p hm hp => dst_uniq C.dist hm ho'' hp hdst
  obtain ⟨u, hu, hv, _⟩ := M.tmps d hlt fun m p hm hp => by
    rw [huniq m p hm hp]; exact hr j hje
  exact ⟨u, hu, hv fun ⟨m, p, hm, hp, hms⟩ => hs j hje (by rw [← huniq m p hm hp]; exact hms)⟩
end walk
end
end Go.Ex
set_option linter.unusedVariables false
set_option linter.unusedSimpArgs false
namespace Go.Ex
open Go Go.RowKit
section
variable {E : Env} {B : Nat} {w0 : Base}
section walk
variable {self : Self} {ops : Array Oper} {T' : TT} {ws sd : List Nat} {As Xs : List AH} {A A' : AH} {ρ0 ρ ρX : Ren} {ds : List Deferred} {r kr m : Nat} {listed : Array Bool} {a : Act} {w : World} {k q : Nat} {Ak X : AH} {Q : Exit → Act → World → Prop}

theorem opers_gen (C : ACtx self E ops T' ws sd As Xs A A' r kr m) {G : Nat} (hG : E.G = G) (glob : ∀ g, g < G → ∃ k, ρ g = some (g, 0, k)) (ts : a.tmps.size = T'.n) {i : Nat} {o : Oper} (ho : ops.toList[i]? = some o)
    (hr : ∀ e ∈ edgesTo o, listed.getD e false = true) (tm : ∀ k, k < T'.n → (∀ (j : Nat) (o : Oper), ops.toList[j]? = some o → o.dst = some k → listed.getD j false = true) → ∃ u, a.tmps[k]? = some u ∧ VR ρ (T'.get k) u) :
    ∀ x ∈ o.op.operands.toList, okX E x = true → VR ρ (evT T' x) (a.eval x) := by
  intro x hx hok2
  cases x with
  | tmp d =>
    show VR ρ (T'.get d) (a.tmps.getD d undef)
    by_cases hlt : d < T'.n
    · obtain ⟨u, hu, hv⟩ := tm d hlt (fun j p hj hp => hr j ((orderOk_spec _ i o C.ord ho).1 d hx j (by have := placeOf_spec _ 0 j p d C.dist hj hp; simpa using this)))
      have : a.tmps.getD d undef = u := by simp [hu]
      rw [this]; exact hv
    · exact tmp_out C.ok ts hlt
  | const v => exact VR.plain v hok2
  | global g =>
    obtain ⟨q, hq⟩ := glob g (by rw [← hG]; exact blt_true hok2)
    exact ⟨⟨g, 0, none⟩, ⟨_, hq, by simp⟩, rfl⟩
  | func f => exact ⟨.func f, #[], #[], rfl, rfl, rfl, rfl⟩
theorem guard_gen (C : ACtx self E ops T' ws sd As Xs A A' r kr m) (ts : a.tmps.size = T'.n) {i : Nat} {o : Oper} (ho : ops.toList[i]? = some o)
    (hr : ∀ e ∈ edgesTo o, listed.getD e false = true) (tm : ∀ k, k < T'.n → (∀ (j : Nat) (o : Oper), ops.toList[j]? = some o → o.dst = some k → listed.getD j false = true) → ∃ u, a.tmps[k]? = some u ∧ VR ρ (T'.get k) u) :
    Region.wanted o (yielded ops a.tmps) = wantedT ops.toList o T' := by
  refine wanted_run (ρ := ρ) fun j want hg o' ho' d hdst => ⟨fun hlt => tm d hlt fun m p hm hp => ?_, fun hn => Array.getElem?_eq_none (Nat.le_trans (Nat.le_of_eq ts) (Nat.le_of_not_lt hn))⟩
  have ho'' : ops.toList[j]? = some o' := by rw [Array.getElem?_toList]; exact ho'
  have := dst_uniq C.dist hm ho'' hp hdst
  subst this
  exact hr m ((orderOk_spec _ i o C.ord ho).2 m want hg)

/-- A main operation ahead of the join. -/
theorem stepMain (hS : Sound E self) (hE : EnvOk E) (ro : Option Nat) (C : ACtx self E ops T' ws sd As Xs A A' r kr m) (M : MidA E B w0 ops T' ws sd As Xs A ρ0 ds r m listed a w ρ k Ak ρX q X) {i : Nat} {o : Oper}
    (ho : ops.toList[i]? = some o) (hun : listed.getD i false = false) (hr : ∀ e ∈ edgesTo o, listed.getD e false = true) (his : i ∉ sd) (hir : i ≠ r) {K : Act → World → Prop}
    (hK : ∀ a' w' ρ' k' Ak', MidA E B w0 ops T' ws sd As Xs A ρ0 ds r m (listed.setIfInBounds i true) a' w' ρ' k' Ak' ρX q X → K a' w') : wpOpIn (WF ro) 0 E.P ops Q i K a w := by
  have ho' : ops[i]? = some o := by rw [← Array.getElem?_toList]; exact ho
  have hiL : i < listed.size := by rw [M.size]; exact (Array.getElem?_eq_some_iff.1 ho').1
  have hs := M.noSide C ho his hir hr
  have hop := M.opers C ho hr hs
  have hwd := M.guard C ho hr hs
  obtain ⟨v, hout, hcase⟩ := C.main i o ho his hir
  have notSideT : ∀ d, o.dst = some d → ¬ SideT ops.toList sd d := fun d hd ⟨j, p, hj, hp, hjs⟩ => his (by rw [← dst_uniq C.dist hj ho hp hd]; exact hjs)
  -- the next state
  have mk : ∀ {ρ' : Ren} {u : Value} {w' : World} {k' : Nat} {Ak' : AH}, Ren.le ρ ρ' → VR ρ' v u → Rel E.P E.G B w0 ρ' Ak' w' → Rel E.P E.G B w0 ρX X w' → Apart ρ' Ak' ρX X → Keep Ak Ak' → As[k']? = some Ak' → k' ≤ ws.length →
      (∀ (j x : Nat), ws[j]? = some x → ((listed.setIfInBounds i true).getD x false = true ↔ j < k')) → K (a.put o.dst u) w' := by
    intro ρ' u w' k' Ak' hle hv R' RX' hap hk hmem hkl hpre
    refine hK _ _ ρ' k' Ak' ⟨by simp [M.size], closed_set hiL ho M.closed hr, hpre, hkl, hmem, R', M.keep.trans hk, Ren.le_trans M.ren hle, put_tsize M.tsize _ _, by rw [Act.put_defers']; exact M.defers, ?_, pre_keep hiL his M.preX, M.leX, M.memX, RX', M.nextX, hap, ?_⟩
    · rw [getD_set hiL, if_neg (fun e => hir e.symm)]; exact M.notR
    · refine put_tmps (R := fun k x y => (¬ SideT ops.toList sd k → VR ρ' x y) ∧ (SideT ops.toList sd k → VR ρX x y)) C.dist hiL ho M.tsize hout (fun d hd => ⟨fun _ => hv, fun hs => absurd hs (notSideT d hd)⟩) ?_
      intro k hk _ hall
      obtain ⟨u, hu, h1, h2⟩ := M.tmps k hk hall
      exact ⟨u, hu, fun h => (h1 h).mono hle, h2⟩
  unfold wpOpIn
  simp only [ho', hwd]
  rcases hcase with ⟨hw, hv, hnw⟩ | ⟨hw, hnw, hrun⟩ | ⟨hw, c, Tx, Ax, An, hc, hAx, hAn, hev, hrun⟩
  · simp only [hw, Bool.false_eq_true, if_false]
    refine ⟨fun _ _ => trivial, ?_⟩
    exact mk (Ren.le_refl ρ) (by rw [hv]; exact undef_VR) M.rel M.relX M.apart (Keep.refl _) M.mem M.le (pre_keep hiL hnw M.pre)
  · simp only [hw, if_true]
    obtain ⟨hlo, hhi⟩ := window_of ho M.closed hr hun M.pre M.le
    refine sound_opRun hS hE (M.rel.hide M.relX M.apart) hop (hrun k Ak M.mem hlo hhi) ro ?_
    intro ρ' u w' hle hv R' hk
    obtain ⟨g1, g2, g3⟩ := M.rel.unhide M.relX R'
    exact mk hle hv g1 g2 g3 hk M.mem M.le (pre_keep hiL hnw M.pre)
  · simp only [hw, if_true]
    have hck := next_of ho M.closed hr hun M.pre C.chW hc M.le
    subst hck
    have hAk := M.mem
    rw [hAx] at hAk; cases hAk
    refine sound_opRun (T := Tx) hS hE (M.rel.hide M.relX M.apart) (fun x hx h => by rw [hev x hx]; exact hop x hx h) hrun ro ?_
    intro ρ' u w' hle hv R' hk
    obtain ⟨g1, g2, g3⟩ := M.rel.unhide M.relX R'
    exact mk hle hv g1 g2 g3 hk hAn (by have := (List.getElem?_eq_some_iff.1 hc).1; omega) (pre_set hiL C.wsU M.pre hc)

/-- One that stands aside. -/
theorem stepSide (hS : Sound E self) (hE : EnvOk E) (ro : Option Nat) (C : ACtx self E ops T' ws sd As Xs A A' r kr m) (M : MidA E B w0 ops T' ws sd As Xs A ρ0 ds r m listed a w ρ k Ak ρX q X) {i : Nat} {o : Oper}
    (ho : ops.toList[i]? = some o) (hun : listed.getD i false = false) (hr : ∀ e ∈ edgesTo o, listed.getD e false = true) (his : i ∈ sd) {K : Act → World → Prop}
    (hK : ∀ a' w' ρX' q' X', MidA E B w0 ops T' ws sd As Xs A ρ0 ds r m (listed.setIfInBounds i true) a' w' ρ k Ak ρX' q' X' → K a' w') : wpOpIn (WF ro) 0 E.P ops Q i K a w := by
  have ho' : ops[i]? = some o := by rw [← Array.getElem?_toList]; exact ho
  have hiL : i < listed.size := by rw [M.size]; exact (Array.getElem?_eq_some_iff.1 ho').1
  obtain ⟨c, hc⟩ := List.getElem?_of_mem his
  obtain ⟨o1, v, ho1, S⟩ := C.side c i hc
  rw [ho] at ho1; cases ho1
  have hck := next_of ho M.closed hr hun M.preX C.chS hc M.leX
  subst hck
  obtain ⟨Tx, X0, Y, hX0, hXn, hev, hrun⟩ := S.run
  have hX := M.memX
  rw [hX0] at hX; cases hX
  have hop := M.opersX C ho hr S.ops
  have hir : i ≠ r := fun e => C.rNot (by rw [← e]; exact his)
  have hw : Region.wanted o (yielded ops a.tmps) = true := by simp [Region.wanted, S.guard]
  unfold wpOpIn
  simp only [ho', hw, if_true]
  refine sound_opRun (T := Tx) hS hE (M.relX.hide M.rel M.apart.symm) (fun x hx h => by rw [hev x hx]; exact hop x hx h) hrun ro ?_
  intro ρX' u w' hle hv R' hk
  obtain ⟨g1, g2, g3⟩ := M.relX.unhide M.rel R'
  refine hK _ _ ρX' (c + 1) (orA X Y) ⟨by simp [M.size], closed_set hiL ho M.closed hr, pre_keep hiL (fun h => C.wsNot i h his) M.pre, M.le, M.mem, g2, M.keep, M.ren, put_tsize M.tsize _ _, by rw [Act.put_defers']; exact M.defers, ?_,
    pre_set hiL C.sdU M.preX hc, by have := (List.getElem?_eq_some_iff.1 hc).1; omega, hXn, g1, Nat.le_trans M.nextX hk.next, g3.symm, ?_⟩
  · rw [getD_set hiL, if_neg (fun e => hir e.symm)]; exact M.notR
  · refine put_tmps (R := fun k x y => (¬ SideT ops.toList sd k → VR ρ x y) ∧ (SideT ops.toList sd k → VR ρX' x y)) C.dist hiL ho M.tsize S.out (fun d hd => ⟨fun hs => absurd ⟨i, o, ho, hd, his⟩ hs, fun _ => hv⟩) ?_
    intro k hk _ hall
    obtain ⟨u, hu, h1, h2⟩ := M.tmps k hk hall
    exact ⟨u, hu, h1, fun h => (h2 h).mono hle⟩

/-- The join. -/
theorem stepJoin (hS : Sound E self) (hE : EnvOk E) (ro : Option Nat) (C : ACtx self E ops T' ws sd As Xs A A' r kr m) (M : MidA E B w0 ops T' ws sd As Xs A ρ0 ds r m listed a w ρ k Ak ρX q X) {o : Oper}
    (ho : ops.toList[r]? = some o) (hr : ∀ e ∈ edgesTo o, listed.getD e false = true) {K : Act → World → Prop}
    (hK : ∀ a' w' ρ' k' Ak', Mid E B w0 ops T' ws As A ρ0 ds (listed.setIfInBounds r true) a' w' ρ' k' Ak' → K a' w') : wpOpIn (WF ro) 0 E.P ops Q r K a w := by
  have ho' : ops[r]? = some o := by rw [← Array.getElem?_toList]; exact ho
  have hiL : r < listed.size := by rw [M.size]; exact (Array.getElem?_eq_some_iff.1 ho').1
  have hck := next_of ho M.closed hr M.notR M.pre C.chW C.wsR M.le
  subst hck
  have hq : q = sd.length := by
    rcases Nat.lt_or_ge q sd.length with hlt | hge
    · have hx : sd[q]? = some sd[q] := List.getElem?_eq_getElem hlt
      have := (M.preX q _ hx).1 (preds_listed ho M.closed hr _ (C.rS _ (List.mem_of_getElem? hx)))
      omega
    · exact Nat.le_antisymm M.leX hge
  subst hq
  obtain ⟨o1, v, ho1, hout, A1, X1, J, A2, hA1, hX1, hm, hJ, hA2, hcase⟩ := C.join
  rw [ho] at ho1; cases ho1
  have hAk := M.mem
  rw [hA1] at hAk; cases hAk
  have hX := M.memX
  rw [hX1] at hX; cases hX
  obtain ⟨ρJ, hleJ, RJ, kJ, hvJ⟩ := join_rel M.rel M.relX M.apart (by have := M.nextX; omega) hJ
  have tmJ : ∀ k, k < T'.n → (∀ (j : Nat) (o : Oper), ops.toList[j]? = some o → o.dst = some k → listed.getD j false = true) → ∃ u, a.tmps[k]? = some u ∧ VR ρJ (T'.get k) u := by
    intro k hk hall
    obtain ⟨u, hu, h1, h2⟩ := M.tmps k hk hall
    refine ⟨u, hu, ?_⟩
    by_cases hs : SideT ops.toList sd k
    · have h2 := h2 hs
      obtain ⟨j, p, hj, hp, hjs⟩ := hs
      obtain ⟨c, hc⟩ := List.getElem?_of_mem hjs
      obtain ⟨o1, v1, ho1, S⟩ := C.side c j hc
      rw [hj] at ho1; cases ho1
      refine hvJ _ _ ?_ h2
      rw [S.out k hp hk, ← hm]; exact S.val
    · exact (h1 hs).mono hleJ
  have hop := opers_gen C rfl RJ.glob M.tsize ho hr tmJ
  have hwd := guard_gen (ρ := ρJ) C M.tsize ho hr tmJ
  have mk : ∀ {ρ' : Ren} {u : Value} {w' : World}, Ren.le ρJ ρ' → VR ρ' v u → Rel E.P E.G B w0 ρ' A2 w' → Keep J A2 → K (a.put o.dst u) w' := by
    intro ρ' u w' hle hv R' hk
    refine hK _ _ ρ' (kr + 1) A2 ⟨by simp [M.size], closed_set hiL ho M.closed hr, pre_set hiL C.wsU M.pre C.wsR, by have := (List.getElem?_eq_some_iff.1 C.wsR).1; omega, hA2, R', (M.keep.trans kJ).trans hk, Ren.le_trans M.ren (Ren.le_trans hleJ hle), put_tsize M.tsize _ _, ?_, by rw [Act.put_defers']; exact M.defers⟩
    refine put_tmps (R := fun k x y => VR ρ' x y) C.dist hiL ho M.tsize hout (fun d hd => hv) ?_
    intro k hk _ hall
    obtain ⟨u, hu, h1⟩ := tmJ k hk hall
    exact ⟨u, hu, h1.mono hle⟩
  unfold wpOpIn
  simp only [ho', hwd]
  rcases hcase with ⟨hw, hv, hA⟩ | ⟨hw, Tx, Ax, hev, hrun, hA⟩
  · simp only [hw, Bool.false_eq_true, if_false]
    subst hA
    exact ⟨fun _ _ => trivial, mk (Ren.le_refl _) (by rw [hv]; exact undef_VR) RJ (Keep.refl _)⟩
  · simp only [hw, if_true]
    subst hA
    refine sound_opRun (T := Tx) hS hE RJ (fun x hx h => by rw [hev x hx]; exact hop x hx h) hrun ro ?_
    intro ρ' u w' hle hv R' hk
    exact mk hle hv R' hk

/-- A main operation behind the join. -/
theorem stepMain2 (hS : Sound E self) (hE : EnvOk E) (ro : Option Nat) (C : ACtx self E ops T' ws sd As Xs A A' r kr m) (M : Mid E B w0 ops T' ws As A ρ0 ds listed a w ρ k Ak) {i : Nat} {o : Oper}
    (ho : ops.toList[i]? = some o) (hun : listed.getD i false = false) (hr : ∀ e ∈ edgesTo o, listed.getD e false = true) (his : i ∉ sd) (hir : i ≠ r) {K : Act → World → Prop}
    (hK : ∀ a' w' ρ' k' Ak', Mid E B w0 ops T' ws As A ρ0 ds (listed.setIfInBounds i true) a' w' ρ' k' Ak' → K a' w') : wpOpIn (WF ro) 0 E.P ops Q i K a w := by
  have ho' : ops[i]? = some o := by rw [← Array.getElem?_toList]; exact ho
  have hiL : i < listed.size := by rw [M.size]; exact (Array.getElem?_eq_some_iff.1 ho').1
  have hop := opers_gen C rfl M.rel.glob M.tsize ho hr M.tmps
  have hwd := guard_gen (ρ := ρ) C M.tsize ho hr M.tmps
  obtain ⟨v, hout, hcase⟩ := C.main i o ho his hir
  have mk : ∀ {ρ' : Ren} {u : Value} {w' : World} {k' : Nat} {Ak' : AH}, Ren.le ρ ρ' → VR ρ' v u → Rel E.P E.G B w0 ρ' Ak' w' → Keep Ak Ak' → As[k']? = some Ak' → k' ≤ ws.length →
      (∀ (j x : Nat), ws[j]? = some x → ((listed.setIfInBounds i true).getD x false = true ↔ j < k')) → K (a.put o.dst u) w' := by
    intro ρ' u w' k' Ak' hle hv R' hk hmem hkl hpre
    refine hK _ _ ρ' k' Ak' ⟨by simp [M.size], closed_set hiL ho M.closed hr, hpre, hkl, hmem, R', M.keep.trans hk, Ren.le_trans M.ren hle, put_tsize M.tsize _ _, ?_, by rw [Act.put_defers']; exact M.defers⟩
    refine put_tmps (R := fun k x y => VR ρ' x y) C.dist hiL ho M.tsize hout (fun d hd => hv) ?_
    intro k hk _ hall
    obtain ⟨u, hu, h1⟩ := M.tmps k hk hall
    exact ⟨u, hu, h1.mono hle⟩
  unfold wpOpIn
  simp only [ho', hwd]
  rcases hcase with ⟨hw, hv, hnw⟩ | ⟨hw, hnw, hrun⟩ | ⟨hw, c, Tx, Ax, An, hc, hAx, hAn, hev, hrun⟩
  · simp only [hw, Bool.false_eq_true, if_false]
    exact ⟨fun _ _ => trivial, mk (Ren.le_refl ρ) (by rw [hv]; exact undef_VR) M.rel (Keep.refl _) M.mem M.le (pre_keep hiL hnw M.pre)⟩
  · simp only [hw, if_true]
    obtain ⟨hlo, hhi⟩ := window_of ho M.closed hr hun M.pre M.le
    refine sound_opRun hS hE M.rel hop (hrun k Ak M.mem hlo hhi) ro ?_
    intro ρ' u w' hle hv R' hk
    exact mk hle hv R' hk M.mem M.le (pre_keep hiL hnw M.pre)
  · simp only [hw, if_true]
    have hck := next_of ho M.closed hr hun M.pre C.chW hc M.le
    subst hck
    have hAk := M.mem
    rw [hAx] at hAk; cases hAk
    refine sound_opRun (T := Tx) hS hE M.rel (fun x hx h => by rw [hev x hx]; exact hop x hx h) hrun ro ?_
    intro ρ' u w' hle hv R' hk
    exact mk hle hv R' hk hAn (by have := (List.getElem?_eq_some_iff.1 hc).1; omega) (pre_set hiL C.wsU M.pre hc)

/-- A walk in whatever order. -/
theorem anyAside (hS : Sound E self) (hE : EnvOk E) (ro : Option Nat) (C : ACtx self E ops T' ws sd As Xs A A' r kr m)
    (hQ : ∀ ρ' a' w', Ren.le ρ0 ρ' → Rel E.P E.G B w0 ρ' A' w' → Keep A A' → TTR ρ' T' a'.tmps → T'.ok → a'.defers = ds → Q .normal a' w') :
    ∀ (fuel : Nat) (listed : Array Bool) (a : Act) (w : World) (ρ : Ren) (k : Nat) (Ak : AH), listed.toList.count false ≤ fuel →
      ((∃ ρX q X, MidA E B w0 ops T' ws sd As Xs A ρ0 ds r m listed a w ρ k Ak ρX q X) ∨ (Mid E B w0 ops T' ws As A ρ0 ds listed a w ρ k Ak ∧ listed.getD r false = true)) →
      wpAnyIn (WF ro) 0 E.P .any ops Q fuel listed a w := by
  have hedge : ∀ {o : Oper} {listed : Array Bool}, (∀ e ∈ o.after, Region.binds .any e = true → listed.getD e.on false = true) → ∀ e ∈ edgesTo o, listed.getD e false = true := by
    intro o listed h e he
    unfold edgesTo at he
    obtain ⟨x, hx, rfl⟩ := List.mem_map.1 he
    obtain ⟨h1, h2⟩ := List.mem_filter.1 hx
    exact h x (by simpa using h1) h2
  have hedge' : ∀ {o : Oper} {listed : Array Bool}, (∀ e ∈ edgesTo o, listed.getD e false = true) → ∀ e ∈ o.after, Region.binds .any e = true → listed.getD e.on false = true := by
    intro o listed h e he hb
    exact h e.on (List.mem_map.2 ⟨e, List.mem_filter.2 ⟨by simpa using he, hb⟩, rfl⟩)
  have rlt : r < ops.size := C.wsLt r (List.mem_of_getElem? C.wsR)
  have allL : ∀ {listed : Array Bool}, listed.size = ops.size → Region.ready .any ops listed = [] → ∀ i, i < ops.size → listed.getD i false = true := by
    intro listed hsz hr i
    induction i using Nat.strongRecOn with
    | _ i ih =>
      intro hi
      cases hl : listed.getD i false with
      | true => rfl
      | false =>
        exfalso
        have hi2 : i < listed.size := by rw [hsz]; exact hi
        have ho : ops[i]? = some ops[i] := Array.getElem?_eq_getElem hi
        have : i ∈ Region.ready .any ops listed := by
          refine mem_ready.2 ⟨?_, ops[i], ho, hedge' fun e he => ?_⟩
          · simp [hi2] at hl ⊢; exact hl
          · have := edgesBack_spec ops.toList 0 i ops[i] C.back (by rw [Array.getElem?_toList]; exact ho) e he
            exact ih e (by omega) (by omega)
        rw [hr] at this; cases this
  have allDone : ∀ {listed : Array Bool} {a : Act} {w : World} {ρ : Ren} {k : Nat} {Ak : AH}, ((∃ ρX q X, MidA E B w0 ops T' ws sd As Xs A ρ0 ds r m listed a w ρ k Ak ρX q X) ∨ (Mid E B w0 ops T' ws As A ρ0 ds listed a w ρ k Ak ∧ listed.getD r false = true)) →
      Region.ready .any ops listed = [] → Q .normal a w := by
    intro listed a w ρ k Ak M hr
    rcases M with ⟨ρX, q, X, M⟩ | ⟨M, _⟩
    · have := allL M.size hr r rlt
      rw [M.notR] at this; cases this
    · have all := allL M.size hr
      have hk : k = ws.length := by
        have hle := M.le
        rcases Nat.lt_or_ge k ws.length with hlt | hge
        · have hx : ws[k]? = some ws[k] := List.getElem?_eq_getElem hlt
          have := (M.pre k _ hx).1 (all _ (C.wsLt _ (List.mem_of_getElem? hx)))
          omega
        · omega
      have hAk := M.mem
      rw [hk, C.last] at hAk
      cases hAk
      refine hQ ρ a w M.ren M.rel M.keep ⟨M.tsize, fun d hd => M.tmps d hd fun j o hj _ => all j ?_⟩ C.ok M.defers
      have := (List.getElem?_eq_some_iff.1 hj).1
      simpa using this
  have one : ∀ {listed : Array Bool} {a : Act} {w : World} {ρ : Ren} {k : Nat} {Ak : AH} (i : Nat) (K : Act → World → Prop), ((∃ ρX q X, MidA E B w0 ops T' ws sd As Xs A ρ0 ds r m listed a w ρ k Ak ρX q X) ∨ (Mid E B w0 ops T' ws As A ρ0 ds listed a w ρ k Ak ∧ listed.getD r false = true)) → i ∈ Region.ready .any ops listed →
      (∀ a' w' ρ' k' Ak', ((∃ ρX q X, MidA E B w0 ops T' ws sd As Xs A ρ0 ds r m (listed.setIfInBounds i true) a' w' ρ' k' Ak' ρX q X) ∨ (Mid E B w0 ops T' ws As A ρ0 ds (listed.setIfInBounds i true) a' w' ρ' k' Ak' ∧ (listed.setIfInBounds i true).getD r false = true)) → K a' w') → wpOpIn (WF ro) 0 E.P ops Q i K a w := by
    intro listed a w ρ k Ak i K M hi hK
    obtain ⟨hun, o, ho, haft⟩ := mem_ready.1 hi
    have hr := hedge haft
    have hoL : ops.toList[i]? = some o := by rw [Array.getElem?_toList]; exact ho
    have hiS : i < ops.size := (Array.getElem?_eq_some_iff.1 ho).1
    rcases M with ⟨ρX, q, X, M⟩ | ⟨M, hrl⟩
    · have hiL : i < listed.size := by rw [M.size]; exact hiS
      have hunF : listed.getD i false = false := by simp [hiL] at hun ⊢; exact hun
      by_cases hir : i = r
      · subst hir
        refine stepJoin hS hE ro C M hoL hr fun a' w' ρ' k' Ak' M' => hK _ _ _ _ _ (.inr ⟨M', ?_⟩)
        rw [getD_set hiL, if_pos rfl]
      · by_cases his : i ∈ sd
        · exact stepSide hS hE ro C M hoL hunF hr his fun a' w' ρX' q' X' M' => hK _ _ _ _ _ (.inl ⟨_, _, _, M'⟩)
        · exact stepMain hS hE ro C M hoL hunF hr his hir fun a' w' ρ' k' Ak' M' => hK _ _ _ _ _ (.inl ⟨_, _, _, M'⟩)
    · have hiL : i < listed.size := by rw [M.size]; exact hiS
      have hunF : listed.getD i false = false := by simp [hiL] at hun ⊢; exact hun
      have hir : i ≠ r := fun e => by subst e; rw [hunF] at hrl; cases hrl
      have his : i ∉ sd := fun h => by
        have := preds_listed' M.closed hrl i (C.rS i h)
        rw [hunF] at this; cases this
      refine stepMain2 hS hE ro C M hoL hunF hr his hir fun a' w' ρ' k' Ak' M' => hK _ _ _ _ _ (.inr ⟨M', ?_⟩)
      rw [getD_set hiL, if_neg (fun e => hir e.symm)]; exact hrl
  intro fuel
  induction fuel with
  | zero =>
    intro listed a w ρ k Ak hc M
    have hsz : listed.size = ops.size := by
      rcases M with ⟨_, _, _, M⟩ | ⟨M, _⟩
      · exact M.size
      · exact M.size
    have hr : Region.ready .any ops listed = [] := by
      cases hrd : Region.ready .any ops listed with
      | nil => rfl
      | cons i r =>
        exfalso
        have hi : i ∈ Region.ready .any ops listed := by rw [hrd]; simp
        obtain ⟨hun, o, ho, _⟩ := mem_ready.1 hi
        have := count_set (by rw [hsz]; exact (Array.getElem?_eq_some_iff.1 ho).1) hun
        omega
    exact ⟨hr, allDone M hr⟩
  | succ fuel ih =>
    intro listed a w ρ k Ak hc M
    have hsz : listed.size = ops.size := by
      rcases M with ⟨_, _, _, M⟩ | ⟨M, _⟩
      · exact M.size
      · exact M.size
    refine ⟨fun hr => allDone M hr, fun i hi => one i _ M hi fun a' w' ρ' k' Ak' M' => ih _ _ _ ρ' k' Ak' ?_ M'⟩
    obtain ⟨hun, o, ho, _⟩ := mem_ready.1 hi
    have := count_set (by rw [hsz]; exact (Array.getElem?_eq_some_iff.1 ho).1) hun
    omega
end walk
end
end Go.Ex
set_option linter.unusedVariables false
set_option linter.unusedSimpArgs false
namespace Go.Ex
open Go Go.RowKit
section
variable {E : Env} {B : Nat} {w0 : Base}

/-! ### Our order -/
theorem mem_ents : ∀ (l : List Oper) (b : Nat) (e : Ent), e ∈ entsOf l b → ∃ j, e.i = b + j ∧ l[j]? = some e.o ∧ e.k = .main
  | [], _, _, h => by cases h
  | o :: r, b, e, h => by
    rcases List.mem_cons.1 h with rfl | h
    · exact ⟨0, rfl, rfl, rfl⟩
    · obtain ⟨j, h1, h2, h3⟩ := mem_ents r (b + 1) e h
      exact ⟨j + 1, by omega, by simpa using h2, h3⟩
theorem ents_mem : ∀ (l : List Oper) (b j : Nat) (o : Oper), l[j]? = some o → ⟨b + j, o, .main⟩ ∈ entsOf l b
  | [], _, _, _, h => by simp at h
  | x :: r, b, 0, o, h => by simp at h; subst h; simp [entsOf]
  | x :: r, b, j + 1, o, h => by
    have := ents_mem r (b + 1) j o (by simpa using h)
    rw [show b + 1 + j = b + (j + 1) by omega] at this
    simp [entsOf, this]
theorem third_shape (sides : List Nat) (r : Nat) (hr : memF r sides = false) : ∀ (l : List Oper) (b : Nat), b ≤ r → r < b + l.length →
    ∃ o post, ((entsOf l b).filter (fun e => !(memF e.i sides) && Nat.ble r e.i)).map (fun e => (⟨e.i, e.o, match Nat.beq e.i r with | true => .join | false => .main⟩ : Ent)) = ⟨r, o, .join⟩ :: post ∧ l[r - b]? = some o ∧ ∀ e ∈ post, e.k = .main
  | [], b, h1, h2 => by simp at h2; omega
  | o :: l, b, h1, h2 => by
    simp only [List.length_cons] at h2
    by_cases hb : b = r
    · subst hb
      refine ⟨o, ((entsOf l (b + 1)).filter (fun e => !(memF e.i sides) && Nat.ble b e.i)).map (fun e => (⟨e.i, e.o, match Nat.beq e.i b with | true => .join | false => .main⟩ : Ent)), ?_, by simp, ?_⟩
      · have : (!(memF b sides) && Nat.ble b b) = true := by rw [hr]; simp
        simp only [entsOf, List.filter_cons, this, if_true, List.map_cons, Nat.beq_refl]
      · intro e he
        obtain ⟨x, hx, rfl⟩ := List.mem_map.1 he
        obtain ⟨j, hj, _⟩ := mem_ents l (b + 1) x (List.mem_filter.1 hx).1
        have : Nat.beq x.i b = false := by
          cases h : Nat.beq x.i b with
          | false => rfl
          | true => have := Nat.eq_of_beq_eq_true h; omega
        simp only [this]
    · obtain ⟨o', post, e1, e2, e3⟩ := third_shape sides r hr l (b + 1) (by omega) (by omega)
      refine ⟨o', post, ?_, by rw [show r - b = (r - (b + 1)) + 1 by omega]; simpa using e2, e3⟩
      have : (!(memF b sides) && Nat.ble r b) = false := by
        have : Nat.ble r b = false := by
          cases h : Nat.ble r b with
          | false => rfl
          | true => have := Nat.le_of_ble_eq_true h; omega
        rw [this]; simp
      simp only [entsOf, List.filter_cons, this, Bool.false_eq_true, if_false]
      exact e1

theorem seqOk_at : ∀ (l : List Ent) (seen : List Nat) (p : Nat) (e : Ent), seqOk l seen = true → l[p]? = some e → ∀ j ∈ edgesTo e.o, j ∈ seen ∨ ∃ p' e', p' < p ∧ l[p']? = some e' ∧ e'.i = j
  | [], _, _, _, _, h => by simp at h
  | x :: r, seen, 0, e, hs, h => by
    simp at h; subst h
    simp only [seqOk, Bool.and_eq_true, List.all_eq_true] at hs
    exact fun j hj => .inl (memF_iff.1 (hs.1 j hj))
  | x :: r, seen, p + 1, e, hs, h => by
    simp only [seqOk, Bool.and_eq_true] at hs
    intro j hj
    rcases seqOk_at r _ p e hs.2 (by simpa using h) j hj with h1 | ⟨p', e', h1, h2, h3⟩
    · rcases List.mem_cons.1 h1 with rfl | h1
      · exact .inr ⟨0, x, by omega, rfl, rfl⟩
      · exact .inl h1
    · exact .inr ⟨p' + 1, e', by omega, by simpa using h2, h3⟩
theorem distinct_pos : ∀ (l : List Ent) (p q : Nat) (e f : Ent), distinct (l.map (·.i)) = true → l[p]? = some e → l[q]? = some f → e.i = f.i → p = q
  | [], _, _, _, _, _, h, _, _ => by simp at h
  | x :: r, p, q, e, f, hd, he, hf, hi => by
    simp only [List.map_cons, distinct, Bool.and_eq_true, Bool.not_eq_true'] at hd
    have no : ∀ (j : Nat) (y : Ent), r[j]? = some y → y.i ≠ x.i := fun j y hj hy => by
      have : x.i ∈ r.map (·.i) := List.mem_map.2 ⟨y, List.mem_of_getElem? hj, hy⟩
      rw [← memF_iff, hd.1] at this; cases this
    cases p with
    | zero =>
      simp at he; subst he
      cases q with
      | zero => rfl
      | succ q => exact absurd hi.symm (no q f (by simpa using hf))
    | succ p =>
      cases q with
      | zero => simp at hf; subst hf; exact absurd hi (no p e (by simpa using he))
      | succ q => rw [distinct_pos r p q e f hd.2 (by simpa using he) (by simpa using hf) hi]

theorem canonRun_idx {self : Self} {all : List Oper} : ∀ (l : List Ent) {T : TT} {A : AH} {AX : Option (Nat × AH)} {T' : TT} {A' : AH} {is : List Res} {As Xs : List AH}, canonRun self E all l T A AX = some (T', A', is, As, Xs) → is.map (·.i) = l.map (·.i)
  | [], T, A, AX, T', A', is, As, Xs, h => by cases h; rfl
  | ⟨i, o, .main⟩ :: rest, T, A, AX, T', A', is, As, Xs, h => by
    simp only [canonRun] at h
    split at h
    · split at h
      · rename_i hr; cases h; simp [canonRun_idx rest hr]
      · cases h
    · split at h
      · split at h
        · rename_i hr; cases h; simp [canonRun_idx rest hr]
        · cases h
      · split at h
        · rename_i hr; cases h; simp [canonRun_idx rest hr]
        · cases h
      · cases h
  | ⟨i, o, .side⟩ :: rest, T, A, AX, T', A', is, As, Xs, h => by
    simp only [canonRun] at h
    split at h
    · split at h
      · split at h
        · rename_i hr; cases h; simp [canonRun_idx rest hr]
        · cases h
      · cases h
    · cases h
  | ⟨i, o, .join⟩ :: rest, T, A, AX, T', A', is, As, Xs, h => by
    simp only [canonRun] at h
    split at h
    · cases h
    · split at h
      · cases h
      · split at h
        · split at h
          · rename_i hr; cases h; simp [canonRun_idx rest hr]
          · cases h
        · split at h
          · split at h
            · rename_i hr; cases h; simp [canonRun_idx rest hr]
            · cases h
          · cases h

theorem fcnt_append (a b : List Res) (p : Nat) : fcnt (a ++ b) (a.length + p) = fcnt a a.length + fcnt b p := by
  unfold fcnt
  rw [List.take_length_add_append, List.filter_append, List.length_append, List.take_length]
theorem fcnt_append_le (a b : List Res) (p : Nat) (h : p ≤ a.length) : fcnt (a ++ b) p = fcnt a p := by
  unfold fcnt
  rw [List.take_append_of_le_length h]
theorem fcnt_none : ∀ (a : List Res), (∀ x ∈ a, x.w = false) → ∀ p, fcnt a p = 0
  | a, h, p => by
    unfold fcnt
    rw [List.filter_eq_nil_iff.2 (fun x hx => by rw [h x (List.mem_of_mem_take hx)]; simp)]; rfl
theorem flagged_at : ∀ (is : List Res) (p : Nat) (i : Nat) (v : Value), is[p]? = some ⟨i, v, true⟩ → (flaggedOf is)[fcnt is p]? = some i
  | [], _, _, _, h => by simp at h
  | ⟨j, u, t⟩ :: r, 0, i, v, h => by simp at h; obtain ⟨rfl, rfl, rfl⟩ := h; simp [flaggedOf, fcnt]
  | ⟨j, u, t⟩ :: r, p + 1, i, v, h => by
    have := flagged_at r p i v (by simpa using h)
    rw [fcnt_succ]
    cases t with
    | true => simp only [flaggedOf, if_true]; rw [Nat.add_comm 1]; simpa using this
    | false => simp only [flaggedOf, Bool.false_eq_true, if_false, Nat.zero_add]; exact this
theorem flagged_of : ∀ (is : List Res) (j x : Nat), (flaggedOf is)[j]? = some x → ∃ p v, is[p]? = some ⟨x, v, true⟩ ∧ fcnt is p = j
  | [], _, _, h => by simp [flaggedOf] at h
  | ⟨i, u, true⟩ :: r, 0, x, h => by simp [flaggedOf] at h; subst h; exact ⟨0, u, rfl, fcnt_zero _⟩
  | ⟨i, u, true⟩ :: r, j + 1, x, h => by
    simp only [flaggedOf, List.getElem?_cons_succ] at h
    obtain ⟨p, v, h1, h2⟩ := flagged_of r j x h
    exact ⟨p + 1, v, by simpa using h1, by rw [fcnt_succ]; simp only [if_true, h2]; omega⟩
  | ⟨i, u, false⟩ :: r, j, x, h => by
    simp only [flaggedOf] at h
    obtain ⟨p, v, h1, h2⟩ := flagged_of r j x h
    exact ⟨p + 1, v, by simpa using h1, by rw [fcnt_succ]; simp only [Bool.false_eq_true, if_false, h2]; omega⟩
theorem flagged_length : ∀ (is : List Res), (flaggedOf is).length = fcnt is is.length
  | [] => rfl
  | ⟨i, u, true⟩ :: r => by simp only [flaggedOf, List.length_cons, fcnt_succ, if_true]; rw [flagged_length r]; omega
  | ⟨i, u, false⟩ :: r => by simp only [flaggedOf, List.length_cons, fcnt_succ, Bool.false_eq_true, if_false]; rw [flagged_length r]; omega

theorem winOkC_spec {self : Self} {all : List Oper} {preds ws : List Nat} {As : List AH} {T : TT} : ∀ (l : List Ent) (is : List Res) (p : Nat) (i : Nat) (o : Oper) (j : Nat) (v : Value), winOkC self E all preds ws As T l is = true → l[p]? = some ⟨i, o, .main⟩ → is[p]? = some ⟨j, v, false⟩ → wantedT all o T = true →
    sameAt self E o T v ((As.drop (winLo (preds.getD i 0) ws)).take (winHi preds i ws + 1 - winLo (preds.getD i 0) ws)) = true
  | [], _, _, _, _, _, _, _, h, _, _ => by simp at h
  | x :: r, [], _, _, _, _, _, _, _, h, _ => by simp at h
  | x :: r, ⟨j', u, t⟩ :: is, 0, i, o, j, v, hw, h, hi, hwant => by
    simp at h hi; subst h; obtain ⟨rfl, rfl, rfl⟩ := hi
    simp only [winOkC, Bool.and_eq_true, hwant] at hw
    exact hw.1
  | ⟨i', o', .main⟩ :: r, ⟨j', u, t⟩ :: is, p + 1, i, o, j, v, hw, h, hi, hwant => by
    simp only [winOkC, Bool.and_eq_true] at hw
    exact winOkC_spec r is p i o j v hw.2 (by simpa using h) (by simpa using hi) hwant
  | ⟨i', o', .side⟩ :: r, ⟨j', u, t⟩ :: is, p + 1, i, o, j, v, hw, h, hi, hwant => by
    simp only [winOkC] at hw
    exact winOkC_spec r is p i o j v hw (by simpa using h) (by simpa using hi) hwant
  | ⟨i', o', .join⟩ :: r, ⟨j', u, t⟩ :: is, p + 1, i, o, j, v, hw, h, hi, hwant => by
    simp only [winOkC] at hw
    exact winOkC_spec r is p i o j v hw (by simpa using h) (by simpa using hi) hwant
theorem placeOf_of : ∀ (l : List Oper) (k b j : Nat), placeOf k l b = some j → ∃ p, b ≤ j ∧ l[j - b]? = some p ∧ p.dst = some k
  | [], _, _, _, h => by cases h
  | x :: r, k, b, j, h => by
    simp only [placeOf] at h
    have rest : placeOf k r (b + 1) = some j → ∃ p, b ≤ j ∧ (x :: r)[j - b]? = some p ∧ p.dst = some k := fun h => by
      obtain ⟨p, h1, h2, h3⟩ := placeOf_of r k (b + 1) j h
      exact ⟨p, by omega, by rw [show j - b = (j - (b + 1)) + 1 by omega]; simpa using h2, h3⟩
    split at h
    · rename_i d hd
      split at h
      · rename_i hb
        cases h
        exact ⟨x, Nat.le_refl _, by simp, by rw [hd, Nat.eq_of_beq_eq_true hb]⟩
      · exact rest h
    · exact rest h

/-- What an operation looks at in our order is what it finds at the end. -/
theorem canon_evT {L : List Oper} {canon : List Ent} {T' Tp : TT} (hd : distinct (dstsOf L) = true) (hor : orderOk L L = true) (hsq : seqOk canon [] = true) (hdi : distinct (canon.map (·.i)) = true) (hmem : ∀ e ∈ canon, L[e.i]? = some e.o)
    {p : Nat} {e : Ent} (hp : canon[p]? = some e) (hn : Tp.n = T'.n) (same : ∀ k, k ∉ edsts (canon.drop p) → T'.get k = Tp.get k) :
    (∀ x ∈ e.o.op.operands.toList, evT Tp x = evT T' x) ∧ wantedT L e.o Tp = wantedT L e.o T' := by
  have he := hmem e (List.mem_of_getElem? hp)
  have get : ∀ d, (∀ (j : Nat) (q : Oper), L[j]? = some q → q.dst = some d → j ∈ edgesTo e.o) → T'.get d = Tp.get d := by
    intro d h
    refine same d fun hm => ?_
    obtain ⟨m, f, hm, hf⟩ := mem_edsts.1 hm
    rw [List.getElem?_drop] at hm
    have hfm := hmem f (List.mem_of_getElem? hm)
    rcases seqOk_at canon [] p e hsq hp f.i (h f.i f.o hfm hf) with h1 | ⟨p', e', h1, h2, h3⟩
    · cases h1
    · have := distinct_pos canon p' (p + m) e' f hdi h2 hm h3
      omega
  refine ⟨fun x hx => ?_, ?_⟩
  · cases x with
    | tmp d => exact (get d fun j q hj hq => (orderOk_spec _ e.i e.o hor he).1 d hx j (by have := placeOf_spec _ 0 j q d hd hj hq; simpa using this)).symm
    | _ => rfl
  · unfold wantedT
    cases hg : e.o.guard with
    | none => rfl
    | some q =>
      obtain ⟨j, want⟩ := q
      simp only
      have hj := (orderOk_spec _ e.i e.o hor he).2 j want hg
      have : yieldedT L Tp j = yieldedT L T' j := by
        unfold yieldedT
        cases ho' : L[j]? with
        | none => rfl
        | some o' =>
          cases hdst : o'.dst with
          | none => simp [hdst]
          | some d =>
            have := get d fun m q hm hq => by rw [dst_uniq hd hm ho' hq hdst]; exact hj
            simp only [hdst, hn, this]
      rw [this]
end
end Go.Ex
