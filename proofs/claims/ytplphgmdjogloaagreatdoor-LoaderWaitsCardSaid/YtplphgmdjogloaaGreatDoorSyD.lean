/- Lemmas: runs of code with open values, under the conditions that each theorem names. -/
import Derived.Test.YtplphgmdjogloaaGreatDoorSyC
set_option linter.unusedVariables false
set_option linter.unusedSimpArgs false
set_option linter.unusedVariables false
set_option linter.unusedSimpArgs false
namespace Go.Ex
open Go Go.RowKit
section
variable {E : Env} {B : Nat} {w0 : Base} {w w' : World} {ρ ρ' ρ1 ρ2 : Ren} {A A' H A1 A2 : AH} {T T' T0 T1 T2 : TT} {ds ds' ds1 ds2 : List Nat} {ro : Option Nat} {x : AX} {c d : Code} {P : Program} {G N M : Nat}

/-! ### Other names for blocks -/
def renA (σ : Nat → Nat) (a : Addr) : Addr := ⟨σ a.block, a.off, a.spot⟩
def renC (σ : Nat → Nat) (c : Nat) : Nat := match isEx c with
  | true => c
  | false => mkCap (σ (capB c)) (capO c)
def renF (σ : Nat → Nat) : Fn → Fn
  | .yield l => .yield (σ l)
  | f => f
mutual
def renV (σ : Nat → Nat) : Value → Value
  | .pointer (some a) => .pointer (some (renA σ a))
  | .slice (some a) n c => .slice (some (renA σ a)) n (renC σ c)
  | .map (some r) => .map (some (σ r))
  | .func f a b => .func (renF σ f) (renVA σ a) (renVA σ b)
  | .iface t v => .iface t (renV σ v)
  | .agg cs => .agg (renVA σ cs)
  | .tuple cs => .tuple (renVA σ cs)
  | v => v
def renVA (σ : Nat → Nat) : Array Value → Array Value
  | ⟨l⟩ => ⟨renVL σ l⟩
def renVL (σ : Nat → Nat) : List Value → List Value
  | [] => []
  | v :: r => renV σ v :: renVL σ r
end
/-- Names that a value bears are all in some set. -/
def okF (p : Nat → Bool) : Fn → Bool
  | .yield l => p l
  | _ => true
mutual
def okV (p : Nat → Bool) : Value → Bool
  | .pointer (some a) => p a.block
  | .slice (some a) _ c => p a.block && (isEx c || (p (capB c) && Nat.blt (capO c) Ks))
  | .map (some r) => p r
  | .func f a b => okF p f && okVA p a && okVA p b
  | .iface _ v => okV p v
  | .agg cs => okVA p cs
  | .tuple cs => okVA p cs
  | _ => true
def okVA (p : Nat → Bool) : Array Value → Bool
  | ⟨l⟩ => okVL p l
def okVL (p : Nat → Bool) : List Value → Bool
  | [] => true
  | v :: r => okV p v && okVL p r
end
def RenOn (p : Nat → Bool) (σ : Nat → Nat) (ρ ρ' : Ren) : Prop := ∀ id, p id = true → ρ' (σ id) = ρ id
theorem AdR.ren {p : Nat → Bool} {σ : Nat → Nat} (h : RenOn p σ ρ ρ') {a a' : Addr} (hp : p a.block = true) (k : AdR ρ a a') : AdR ρ' (renA σ a) a' := by
  obtain ⟨x, hx, rfl⟩ := k
  exact ⟨x, by show ρ' (σ a.block) = _; rw [h _ hp]; exact hx, rfl⟩
theorem CR.ren {p : Nat → Bool} {σ : Nat → Nat} (h : RenOn p σ ρ ρ') {c c' : Nat} (hp : (isEx c || (p (capB c) && Nat.blt (capO c) Ks)) = true) (k : CR ρ c c') : CR ρ' (renC σ c) c' := by
  unfold renC
  rcases k with ⟨h1, rfl⟩ | ⟨h1, y, hy, h2, rfl⟩
  · rw [h1]; exact .inl ⟨h1, rfl⟩
  · rw [h1]
    simp only [h1, Bool.false_or, Bool.and_eq_true] at hp
    have hd := blt_true hp.2
    refine .inr ⟨isEx_mk _ _, y, by rw [capB_mk hd, h _ hp.1]; exact hy, by rw [capO_mk hd]; exact h2, by rw [capO_mk hd]⟩
theorem FR.ren {p : Nat → Bool} {σ : Nat → Nat} (h : RenOn p σ ρ ρ') {f g : Fn} (hp : okF p f = true) (k : FR ρ f g) : FR ρ' (renF σ f) g := by
  cases f with
  | yield l => obtain ⟨x, hx, e⟩ := k; exact ⟨x, by rw [h _ hp]; exact hx, e⟩
  | _ => exact k
mutual
theorem VR.ren {p : Nat → Bool} {σ : Nat → Nat} (h : RenOn p σ ρ ρ') : ∀ (v u : Value), okV p v = true → VR ρ v u → VR ρ' (renV σ v) u
  | .bool b, u, _, k => by simp only [renV]; exact k
  | .int _ n, u, _, k => by simp only [renV]; exact k
  | .float _ n, u, _, k => by simp only [renV]; exact k
  | .complex _ a b, u, _, k => by simp only [renV]; exact k
  | .string s, u, _, k => by simp only [renV]; exact k
  | .pointer none, u, _, k => by simp only [renV]; exact k
  | .pointer (some a), u, hp, k => by
    obtain ⟨a', ha, e⟩ := k
    simp only [okV] at hp
    simp only [renV]
    exact ⟨a', ha.ren h hp, e⟩
  | .slice none n c, u, _, k => by simp only [renV]; exact k
  | .slice (some a) n c, u, hp, k => by
    obtain ⟨a', c', ha, hc, e⟩ := k
    simp only [okV, Bool.and_eq_true] at hp
    simp only [renV]
    exact ⟨a', c', ha.ren h hp.1, hc.ren h hp.2, e⟩
  | .map none, u, _, k => by simp only [renV]; exact k
  | .map (some r), u, hp, k => by
    obtain ⟨y, hy, e⟩ := k
    simp only [okV] at hp
    simp only [renV]
    exact ⟨y, by rw [h _ hp]; exact hy, e⟩
  | .chan none, u, _, k => by simp only [renV]; exact k
  | .chan (some _), _, _, k => k.elim
  | .func fn f c, u, hp, k => by
    obtain ⟨fn', f', c', h1, h2, h3, e⟩ := k
    simp only [okV, Bool.and_eq_true] at hp
    simp only [renV]
    exact ⟨fn', f', c', h1.ren h hp.1.1, VRA.ren h f f' hp.1.2 h2, VRA.ren h c c' hp.2 h3, e⟩
  | .nilFunc, u, _, k => by simp only [renV]; exact k
  | .iface t v, u, hp, k => by
    obtain ⟨v', hv, e⟩ := k
    simp only [okV] at hp
    simp only [renV]
    exact ⟨v', VR.ren h v v' hp hv, e⟩
  | .nilIface, u, _, k => by simp only [renV]; exact k
  | .agg cs, u, hp, k => by
    obtain ⟨cs', hc, e⟩ := k
    simp only [okV] at hp
    simp only [renV]
    exact ⟨cs', VRA.ren h cs cs' hp hc, e⟩
  | .tuple cs, u, hp, k => by
    obtain ⟨cs', hc, e⟩ := k
    simp only [okV] at hp
    simp only [renV]
    exact ⟨cs', VRA.ren h cs cs' hp hc, e⟩
theorem VRA.ren {p : Nat → Bool} {σ : Nat → Nat} (h : RenOn p σ ρ ρ') : ∀ (a b : Array Value), okVA p a = true → VRA ρ a b → VRA ρ' (renVA σ a) b
  | ⟨l⟩, u, hp, k => VRL.ren h l u.toList (by simpa [okVA] using hp) k
theorem VRL.ren {p : Nat → Bool} {σ : Nat → Nat} (h : RenOn p σ ρ ρ') : ∀ (a b : List Value), okVL p a = true → VRL ρ a b → VRL ρ' (renVL σ a) b
  | [], u, _, k => k
  | v :: r, u, hp, k => by
    obtain ⟨v', r', h1, h2, e⟩ := k
    simp only [okVL, Bool.and_eq_true] at hp
    exact ⟨v', r', VR.ren h v v' hp.1 h1, VRL.ren h r r' hp.2 h2, e⟩
end

/-! ### Back to the memory that a round began with -/
/-- Names below N stay; those from M on come down to N. -/
def downσ (N M : Nat) (id : Nat) : Nat := match Nat.blt id N with
  | true => id
  | false => id - M + N
def downP (N M : Nat) (id : Nat) : Bool := match Nat.blt id N with
  | true => true
  | false => Nat.ble M id && Nat.blt (id - M + N) M
def downρ (N M : Nat) (ρ : Ren) : Ren := fun id => if id < N then ρ id else if id < M then ρ (id - N + M) else none
theorem down_on (N M : Nat) (ρ : Ren) : RenOn (downP N M) (downσ N M) ρ (downρ N M ρ) := by
  intro id h
  unfold downP at h
  unfold downσ downρ
  cases hb : Nat.blt id N with
  | true =>
    have := blt_true hb
    simp only
    rw [if_pos this]
  | false =>
    have h1 := blt_false hb
    rw [hb] at h
    simp only [Bool.and_eq_true] at h
    have h2 := Nat.le_of_ble_eq_true h.1
    have h3 := blt_true h.2
    simp only
    rw [if_neg (by omega), if_pos h3, show id - M + N - N + M = id by omega]
/-- Objects that name elder blocks alone. -/
def lowO (N : Nat) : AObj → Bool
  | .cells c _ _ _ => okVL (fun i => Nat.blt i N) c
  | .map es _ => es.all fun e => okV (fun i => Nat.blt i N) e.key && okV (fun i => Nat.blt i N) e.val
  | _ => false
theorem VR.agree {p : Nat → Bool} (h : ∀ id, p id = true → ρ' id = ρ id) {v u : Value} (hp : okV p v = true) (k : VR ρ v u) : VR ρ' (renV id v) u := VR.ren (σ := id) (fun i hi => h i hi) v u hp k
theorem HasObj.low {id : Nat} {o : AObj} (hlo : lowO N o = true) (hren : ∀ i, i < N → ρ' i = ρ i) (hid : id < N) (hrenV : ∀ v u, okV (fun i => Nat.blt i N) v = true → VR ρ v u → VR ρ' v u) (h : HasObj P B ρ w id o) : HasObj P B ρ' w id o := by
  cases o with
  | cells c e sl wr =>
    obtain ⟨b, k, cs, lo, hi, h1, h2⟩ := h
    refine ⟨b, k, cs, lo, hi, by rw [hren id hid]; exact h1, ⟨h2.at_, h2.len, ?_, h2.full, h2.cap, h2.own⟩⟩
    have key : ∀ (l : List Value), okVL (fun i => Nat.blt i N) l = true → ∀ (i : Nat) (v : Value), l[i]? = some v → okV (fun i => Nat.blt i N) v = true := by
      intro l
      induction l with
      | nil => intro _ i v h; simp at h
      | cons x r ih =>
        intro hl i v hv
        simp only [okVL, Bool.and_eq_true] at hl
        cases i with
        | zero => simp at hv; subst hv; exact hl.1
        | succ i => exact ih hl.2 i v (by simpa using hv)
    intro i v hv
    obtain ⟨u, hu, hr⟩ := h2.cells i v hv
    exact ⟨u, hu, hrenV v u (key c hlo i v hv) hr⟩
  | map es clock =>
    obtain ⟨b, k, es', h1, h2, h3, h4⟩ := h
    refine ⟨b, k, es', by rw [hren id hid]; exact h1, h2, h3, ?_⟩
    have key : ∀ (l : List AEnt) (l' : List MapEntry), (l.all fun e => okV (fun i => Nat.blt i N) e.key && okV (fun i => Nat.blt i N) e.val) = true → EntsR ρ l l' → EntsR ρ' l l' := by
      intro l
      induction l with
      | nil => intro l' _ h; exact h
      | cons e r ih =>
        intro l' hl ⟨e', r', ⟨g1, g2, g3⟩, g4, g5⟩
        simp only [List.all_cons, Bool.and_eq_true] at hl
        exact ⟨e', r', ⟨hrenV _ _ hl.1.1 g1, hrenV _ _ hl.1.2 g2, g3⟩, ih r' hl.2 g4, g5⟩
    exact key es es'.toList hlo h4
  | obj o => cases hlo
  | loop r T => cases hlo
mutual
theorem renV_id : ∀ v : Value, okV (fun _ => true) v = true → renV id v = v
  | .bool b, _ => rfl
  | .int _ n, _ => rfl
  | .float _ n, _ => rfl
  | .complex _ a b, _ => rfl
  | .string s, _ => rfl
  | .pointer none, _ => rfl
  | .pointer (some a), _ => rfl
  | .slice none n c, _ => rfl
  | .slice (some a) n c, h => by
    simp only [okV, Bool.true_and] at h
    simp only [renV]
    congr 1
    unfold renC
    cases he : isEx c with
    | true => rfl
    | false =>
      rw [he] at h
      simp only [Bool.false_or] at h
      have hd := blt_true h
      simp only [id]
      unfold isEx at he
      have hk : Kc ≤ c := by
        rcases Nat.lt_or_ge c Kc with hlt | hge
        · rw [show Nat.blt c Kc = true from Nat.ble_eq_true_of_le hlt] at he; cases he
        · exact hge
      have hb := Nat.ble_eq_true_of_le hk
      unfold mkCap
      rw [capB_eq hb, capO_eq hb]
      have := Nat.div_add_mod (c - Kc) Ks
      rw [Nat.mul_comm] at this
      omega
  | .map none, _ => rfl
  | .map (some r), _ => rfl
  | .chan none, _ => rfl
  | .chan (some _), _ => rfl
  | .func fn f c, h => by
    simp only [okV, Bool.and_eq_true] at h
    simp only [renV]
    rw [renVA_id f h.1.2, renVA_id c h.2]
    congr 1
    cases fn <;> rfl
  | .nilFunc, _ => rfl
  | .iface t v, h => by simp only [okV] at h; simp only [renV]; rw [renV_id v h]
  | .nilIface, _ => rfl
  | .agg cs, h => by simp only [okV] at h; simp only [renV]; rw [renVA_id cs h]
  | .tuple cs, h => by simp only [okV] at h; simp only [renV]; rw [renVA_id cs h]
theorem renVA_id : ∀ a : Array Value, okVA (fun _ => true) a = true → renVA id a = a
  | ⟨l⟩, h => by simp only [renVA]; rw [renVL_id l (by simpa [okVA] using h)]
theorem renVL_id : ∀ a : List Value, okVL (fun _ => true) a = true → renVL id a = a
  | [], _ => rfl
  | v :: r, h => by
    simp only [okVL, Bool.and_eq_true] at h
    simp only [renVL]; rw [renV_id v h.1, renVL_id r h.2]
end
mutual
theorem okV_mono {p q : Nat → Bool} (h : ∀ i, p i = true → q i = true) : ∀ v : Value, okV p v = true → okV q v = true
  | .bool b, _ => rfl
  | .int _ n, _ => rfl
  | .float _ n, _ => rfl
  | .complex _ a b, _ => rfl
  | .string s, _ => rfl
  | .pointer none, _ => rfl
  | .pointer (some a), k => by simp only [okV] at k ⊢; exact h _ k
  | .slice none n c, _ => rfl
  | .slice (some a) n c, k => by
    simp only [okV, Bool.and_eq_true, Bool.or_eq_true] at k ⊢
    refine ⟨h _ k.1, ?_⟩
    rcases k.2 with k2 | k2
    · exact .inl k2
    · exact .inr ⟨h _ k2.1, k2.2⟩
  | .map none, _ => rfl
  | .map (some r), k => by simp only [okV] at k ⊢; exact h _ k
  | .chan none, _ => rfl
  | .chan (some _), _ => rfl
  | .func fn f c, k => by
    simp only [okV, Bool.and_eq_true] at k ⊢
    refine ⟨⟨?_, okVA_mono h f k.1.2⟩, okVA_mono h c k.2⟩
    cases fn with
    | yield l => exact h _ k.1.1
    | _ => rfl
  | .nilFunc, _ => rfl
  | .iface t v, k => by simp only [okV] at k ⊢; exact okV_mono h v k
  | .nilIface, _ => rfl
  | .agg cs, k => by simp only [okV] at k ⊢; exact okVA_mono h cs k
  | .tuple cs, k => by simp only [okV] at k ⊢; exact okVA_mono h cs k
theorem okVA_mono {p q : Nat → Bool} (h : ∀ i, p i = true → q i = true) : ∀ a : Array Value, okVA p a = true → okVA q a = true
  | ⟨l⟩, k => by simp only [okVA] at k ⊢; exact okVL_mono h l k
theorem okVL_mono {p q : Nat → Bool} (h : ∀ i, p i = true → q i = true) : ∀ a : List Value, okVL p a = true → okVL q a = true
  | [], _ => rfl
  | v :: r, k => by
    simp only [okVL, Bool.and_eq_true] at k ⊢
    exact ⟨okV_mono h v k.1, okVL_mono h r k.2⟩
end

/-- The elder memory, its names below N, room for names up to M. -/
structure HeadA (H : AH) (N M : Nat) : Prop where
  next : H.next = M
  le : N ≤ M
  small : M < 1099511627775
  objs : ∀ id o, H.get id = some o → id < N ∧ lowO N o = true
def renT (σ : Nat → Nat) (T : TT) (T2 : TT) (p : Nat → Bool) : Prop := T2.n = T.n ∧ T2.ok ∧ ∀ k, k < T.n → okV p (T.get k) = true ∧ T2.get k = renV σ (T.get k)

theorem reset_rel (hH : HeadA H N M) (hG : G ≤ N) (R : Rel P G B w0 ρ1 A1 w) (hs : ∀ id o, H.get id = some o → A1.get id = some o) {a : Array Value} (hT : TTR ρ1 T1 a) (hr : renT (downσ N M) T1 T2 (downP N M)) :
    ∃ ρ2, (∀ id, id < N → ρ2 id = ρ1 id) ∧ Rel P G B w0 ρ2 H w ∧ TTR ρ2 T2 a := by
  have hlow : ∀ id, id < N → downρ N M ρ1 id = ρ1 id := fun id h => by unfold downρ; rw [if_pos h]
  refine ⟨downρ N M ρ1, hlow, ⟨R.below, R.sz, by rw [hH.next]; have := hH.le; omega, ?_, ?_, ?_, ?_, by rw [hH.next]; exact hH.small, R.hid, ?_⟩, ⟨by rw [hr.1]; exact hT.1, ?_⟩⟩
  · intro id o ho
    obtain ⟨h1, h2⟩ := hH.objs id o ho
    refine HasObj.low h2 hlow h1 ?_ (R.objs id o (hs id o ho))
    intro v u hv hvr
    have := VR.ren (p := fun i => Nat.blt i N) (σ := _root_.id) (ρ := ρ1) (ρ' := downρ N M ρ1) (fun i hi => hlow i (blt_true hi)) v u hv hvr
    rwa [renV_id v (okV_mono (fun _ _ => rfl) v hv)] at this
  · intro i j x y hi hj hx hy hB hxy
    obtain ⟨oi, hoi⟩ := Option.isSome_iff_exists.1 hi
    obtain ⟨oj, hoj⟩ := Option.isSome_iff_exists.1 hj
    rw [hlow i (hH.objs i oi hoi).1] at hx
    rw [hlow j (hH.objs j oj hoj).1] at hy
    exact R.inj i j x y (by rw [hs i oi hoi]; rfl) (by rw [hs j oj hoj]; rfl) hx hy hB hxy
  · intro id hid
    rw [hH.next] at hid
    unfold downρ
    rw [if_neg (by have := hH.le; omega), if_neg (by omega)]
  · intro g hg
    obtain ⟨k, hk⟩ := R.glob g hg
    exact ⟨k, by rw [hlow g (by omega)]; exact hk⟩
  · intro id o x ho hx
    rw [hlow id (hH.objs id o ho).1] at hx
    exact R.noimg id o x (hs id o ho) hx
  · intro k hk
    rw [hr.1] at hk
    obtain ⟨u, hu, hv⟩ := hT.2 k hk
    obtain ⟨h1, h2⟩ := hr.2.2 k hk
    exact ⟨u, hu, by rw [h2]; exact VR.ren (down_on N M ρ1) _ _ h1 hv⟩

/-- A loop each of whose rounds is followed by a reset. -/
inductive LoopRs (E : Env) (c : Code) (ro : Option Nat) (N M : Nat) (H : AH) (x : AX) (T' : TT) (A' : AH) : Nat → TT → Prop
  | stop {n : Nat} {T : TT} (h : Ev E (.code c ro T [] H) (.code x T' [] A')) (hx : x ≠ .normal) : LoopRs E c ro N M H x T' A' (n + 1) T
  | more {n : Nat} {T T1 T2 : TT} {A1 : AH} (h : Ev E (.code c ro T [] H) (.code .normal T1 [] A1)) (hl : ∀ id o, H.get id = some o → A1.get id = some o) (hn : M ≤ A1.next) (hr : renT (downσ N M) T1 T2 (downP N M)) (r : LoopRs E c ro N M H x T' A' n T2) : LoopRs E c ro N M H x T' A' (n + 1) T
theorem LoopRs.ev {n : Nat} (hH : HeadA H N M) (hG : E.G ≤ N) (hA : A.next = N) (hHA : ∀ id, H.get id = A.get id) (h : LoopRs E c ro N M H x T' A' n T) : Ev E (.code (.loop c) ro T [] A) (.code x T' [] { A' with low := 0 }) := by
  intro B w0 ρ a w ro' Q R hT hok hd hro hQ
  have RH : Rel E.P E.G B w0 ρ H w := ⟨R.below, R.sz, by rw [hH.next]; have := hH.le; omega, fun id o ho => R.objs id o (by rw [← hHA]; exact ho), fun i j x y hi hj hx hy hB hxy => R.inj i j x y (by rw [← hHA]; exact hi) (by rw [← hHA]; exact hj) hx hy hB hxy,
    fun id hid => R.fresh id (by rw [hA]; rw [hH.next] at hid; have := hH.le; omega), R.glob, by rw [hH.next]; exact hH.small, R.hid, fun id o y ho hy => R.noimg id o y (by rw [← hHA]; exact ho) hy⟩
  refine wpIn_loop_count (fun j a' w' => ∃ ρ1 T1, LoopRs E c ro N M H x T' A' j T1 ∧ Ren.le ρ ρ1 ∧ Rel E.P E.G B w0 ρ1 H w' ∧ TTR ρ1 T1 a'.tmps ∧ T1.ok ∧ DsR ρ1 [] a'.defers) n
    ⟨ρ, T, h, Ren.le_refl ρ, RH, hT, hok, hd⟩ (fun a w h => by obtain ⟨_, _, h, _⟩ := h; cases h) ?_
  intro j a1 w1 hI
  obtain ⟨ρ1, T1, hl, hle, R1, hT1, hok1, hd1⟩ := hI
  cases hl with
  | stop hb hx =>
    refine hb B w0 ρ1 a1 w1 ro' _ R1 hT1 hok1 hd1 (hro.mono hle) ?_
    intro ρ2 a2 w2 e1 e2 e3 e4 e5 e6
    have := hQ ρ2 a2 w2 (Ren.le_trans hle e1) (e2.lowTo 0) ⟨by have := e3.next; rw [hH.next] at this; rw [hA]; exact Nat.le_trans hH.le this, Nat.zero_le _, fun id _ h => absurd h (Nat.not_lt_zero _)⟩ e4 e5 e6
    cases x with
    | normal => exact absurd rfl hx
    | ret => exact this
    | exit id => exact this
  | more hb hlo hnx hr hrr =>
    refine hb B w0 ρ1 a1 w1 ro' _ R1 hT1 hok1 hd1 (hro.mono hle) ?_
    intro ρ2 a2 w2 e1 e2 e3 e4 e5 e6
    obtain ⟨ρ3, g1, g2, g3⟩ := reset_rel hH hG e2 hlo e4 hr
    refine ⟨ρ3, _, hrr, ?_, g2, g3, hr.2.1, by generalize a2.defers = dd at e6 ⊢; cases e6; exact .nil⟩
    intro id y hy
    have hid : id < N := by
      rcases Nat.lt_or_ge id N with h | h
      · exact h
      · rw [R.fresh id (by rw [hA]; exact h)] at hy; cases hy
    rw [g1 id hid]
    exact e1 _ _ (hle _ _ hy)
end
end Go.Ex
set_option linter.unusedVariables false
set_option linter.unusedSimpArgs false
namespace Go.Ex
open Go Go.RowKit
/-! ### Checkpoints of a closed run -/
section
variable {E : Env} {A A' A1 A2 H : AH} {T T' T1 T2 : TT} {ds ds' : List Nat} {ro : Option Nat} {x : AX} {c d : Code}
def mkT (l : List Value) (n : Nat) : TT := { t := TT.ofList l 0 .leaf, n := n }
def mkAt : List (Nat × AObj) → Trie AObj
  | [] => .leaf
  | (i, o) :: r => (mkAt r).set 40 i (some o)
def mkA (next : Nat) (l : List (Nat × AObj)) : AH := { t := mkAt l, next := next, low := bigLow }
theorem mkAt_get : ∀ (l : List (Nat × AObj)), (∀ x ∈ l, x.1 < 1099511627775) → ∀ id o, (mkAt l).get id = some o → (id, o) ∈ l
  | [], _, id, o, h => by simp [mkAt, Trie.get_leaf] at h
  | (i, p) :: r, hl, id, o, h => by
    have hi := hl (i, p) (by simp)
    simp only [mkAt] at h
    simp only at hi
    rw [Trie.get_set' _ _ _ _ _ (by omega)] at h
    split at h
    · rename_i e; cases h; subst e; simp
    · exact List.mem_cons_of_mem _ (mkAt_get r (fun x hx => hl x (by simp [hx])) id o h)
/-- Objects may be forgotten, a memory's low may fall. -/
theorem Ev.forget (h : Ev E (.code c ro T ds A) (.code x T' ds' A')) (hn : A2.next = A'.next) (hl : A2.low ≤ A'.low) (ho : ∀ id o, A2.get id = some o → A'.get id = some o) (hk : ∀ id, id < A.next → id < A2.low → A2.get id = A.get id) : Ev E (.code c ro T ds A) (.code x T' ds' A2) := by
  intro B w0 ρ a w ro' Q R hT hok hd hro hQ
  refine h B w0 ρ a w ro' Q R hT hok hd hro ?_
  intro ρ' a' w' g1 g2 g3 g4 g5 g6
  refine hQ ρ' a' w' g1 ⟨g2.below, g2.sz, by rw [hn]; exact g2.G_next, fun id o h => g2.objs id o (ho id o h), fun i j x y hi hj => ?_, fun id hid => g2.fresh id (by rw [← hn]; exact hid), g2.glob, by rw [hn]; exact g2.small, g2.hid, fun id o y h => g2.noimg id o y (ho id o h)⟩ ⟨by rw [hn]; exact g3.next, Nat.le_trans hl g3.low, hk⟩ g4 g5 g6
  obtain ⟨oi, hoi⟩ := Option.isSome_iff_exists.1 hi
  obtain ⟨oj, hoj⟩ := Option.isSome_iff_exists.1 hj
  exact g2.inj i j x y (by rw [ho i oi hoi]; rfl) (by rw [ho j oj hoj]; rfl)

/-- Whatever a memory's low. -/
theorem Ev.low0 (m : Nat) (h : Ev E (.code c ro T ds A) (.code x T' ds' A')) : Ev E (.code c ro T ds { A with low := m }) (.code x T' ds' { A' with low := 0 }) := by
  intro B w0 ρ a w ro' Q R hT hok hd hro hQ
  refine h B w0 ρ a w ro' Q (R.lowTo A.low) hT hok hd hro ?_
  intro ρ' a' w' g1 g2 g3 g4 g5 g6
  exact hQ ρ' a' w' g1 (g2.lowTo 0) ⟨g3.next, Nat.zero_le _, fun id _ h => absurd h (Nat.not_lt_zero _)⟩ g4 g5 g6

def slotsOf (t : Trie Value) (n : Nat) : List Value := (List.range n).map (slot t)
/-- What a checkpoint's text tells of a run. -/
def ckOf (n : Nat) (ids : List Nat) : Option (TT × AH) → Option (List Value × Nat × Nat × List (Option AObj))
  | some (T, A) => some (slotsOf T.t n, T.n, A.next, ids.map A.get)
  | none => none
theorem slotsOf_get (t : Trie Value) (n k : Nat) (h : k < n) : (slotsOf t n)[k]? = some (slot t k) := by
  simp [slotsOf, List.getElem?_map, List.getElem?_range h]
theorem ck_same {T : TT} {l : List Value} {n : Nat} (hn : n ≤ 4000) (h1 : slotsOf T.t n = l) (h2 : T.n = n) : T.ok → TT.Same T (mkT l n) := by
  intro hok
  have hlen : l.length = n := by rw [← h1]; simp [slotsOf]
  have hget : ∀ k, (mkT l n).get k = (match l[k]? with | some v => v | none => undef) := by
    intro k
    simp only [mkT, TT.get]
    rw [ofList_get l 0 .leaf k (by omega), if_neg (by omega), Nat.sub_zero]
    cases l[k]? with
    | some v => rfl
    | none => rw [Trie.get_leaf]
  refine ⟨h2.symm, fun k => ?_, fun _ => ⟨hn, fun k hk => ?_⟩⟩
  · rw [hget]
    by_cases hk : k < n
    · rw [← h1, slotsOf_get T.t n k hk]; rfl
    · rw [List.getElem?_eq_none (by omega)]
      simp only [TT.get, hok.2 k (by omega)]
  · have hk : n ≤ k := hk
    simp only [mkT]
    rw [ofList_get l 0 .leaf k (by omega), if_neg (by omega), Nat.sub_zero, List.getElem?_eq_none (by omega), Trie.get_leaf]
theorem ck_ev {c : Code} {l : List Value} {n next : Nat} {os : List (Nat × AObj)} (hn : n ≤ 4000) {r : Option (TT × AH)} (hr : ∀ T' A', r = some (T', A') → Ev E (.code c ro T [] A) (.code .normal T' [] A'))
    (h : ckOf n (os.map (·.1)) r = some (l, n, next, os.map (fun x => some x.2))) (hs : ∀ x ∈ os, x.1 < 1099511627775) (m : Nat) : Ev E (.code c ro T [] { A with low := m }) (.code .normal (mkT l n) [] { mkA next os with low := 0 }) := by
  cases r with
  | none => cases h
  | some p =>
    obtain ⟨T', A'⟩ := p
    simp only [ckOf, Option.some.injEq, Prod.mk.injEq] at h
    obtain ⟨h1, h2, h3, h4⟩ := h
    have h0 := (hr T' A' rfl).low0 m
    refine Ev.forget (A2 := { mkA next os with low := 0 }) (h0.post (ck_same hn h1 h2)) h3.symm (Nat.le_refl _) ?_ (fun id _ h => absurd h (Nat.not_lt_zero _))
    intro id o ho
    have hm := mkAt_get os hs id o ho
    obtain ⟨i, hi⟩ := List.getElem?_of_mem hm
    have e1 : ((os.map (·.1)).map A'.get)[i]? = some (A'.get id) := by simp [hi]
    rw [h4] at e1
    simp [hi] at e1
    exact e1.symm
theorem Ev.pre {ds2 : List Nat} (h : Ev E (.code c ro T2 ds A2) (.code x T' ds2 A')) (hT : T.ok → TT.Same T T2) (hn : A2.next = A.next) (ho : ∀ id o, A2.get id = some o → A.get id = some o) : Ev E (.code c ro T ds A) (.code x T' ds2 { A' with low := 0 }) := by
  intro B w0 ρ a w ro' Q R hTT hok hd hro hQ
  refine h B w0 ρ a w ro' Q ⟨R.below, R.sz, by rw [hn]; exact R.G_next, fun id o h => R.objs id o (ho id o h), fun i j x y hi hj => ?_, fun id hid => R.fresh id (by rw [← hn]; exact hid), R.glob, by rw [hn]; exact R.small, R.hid, fun id o y h => R.noimg id o y (ho id o h)⟩ ((hT hok).ttr hTT) ((hT hok).2.2 hok) hd hro ?_
  · obtain ⟨oi, hoi⟩ := Option.isSome_iff_exists.1 hi
    obtain ⟨oj, hoj⟩ := Option.isSome_iff_exists.1 hj
    exact R.inj i j x y (by rw [ho i oi hoi]; rfl) (by rw [ho j oj hoj]; rfl)
  · intro ρ' a' w' g1 g2 g3 g4 g5 g6
    exact hQ ρ' a' w' g1 (g2.lowTo 0) ⟨by rw [← hn]; exact g3.next, Nat.zero_le _, fun id _ h => absurd h (Nat.not_lt_zero _)⟩ g4 g5 g6
def stNorm : Option Out → Option (TT × AH)
  | some (.code .normal T [] A) => some (T, A)
  | _ => none
theorem stNorm_spec {o : Option Out} {T : TT} {A : AH} (h : stNorm o = some (T, A)) : o = some (.code .normal T [] A) := by
  unfold stNorm at h
  split at h
  · cases h; rfl
  · cases h
def exL (E : Env) (orc : Orc) (f : Nat) : List Code → TT → AH → Option (TT × AH)
  | [], T, A => some (T, A)
  | c :: r, T, A => match stNorm (exo E orc f (.code c none T [] A)) with
    | some (T', A') => exL E orc f r T' A'
    | none => none
def nest : List Code → Code → Code
  | [], s => s
  | c :: r, s => .seq c (nest r s)
theorem exL_ev (hE : EnvOk E) {orc : Orc} (hO : OrcOk E orc) {f : Nat} : ∀ {l : List Code} {T : TT} {A : AH} {T' : TT} {A' : AH} {s : Code} {x : AX} {T2 : TT} {ds2 : List Nat} {A2 : AH}, exL E orc f l T A = some (T', A') → Ev E (.code s none T' [] A') (.code x T2 ds2 A2) → Ev E (.code (nest l s) none T [] A) (.code x T2 ds2 A2)
  | [], T, A, T', A', s, x, T2, ds2, A2, h, k => by cases h; exact k
  | c :: r, T, A, T', A', s, x, T2, ds2, A2, h, k => by
    simp only [exL] at h
    split at h
    · rename_i T1 A1 h1
      exact Ev.seq (Ev.of_exo hE hO (stNorm_spec h1)) (exL_ev hE hO h k)
    · cases h
/-- Some pieces up to a checkpoint; what comes behind it. -/
theorem ck_chain (hE : EnvOk E) {orc : Orc} (hO : OrcOk E orc) {f n next : Nat} {l : List Code} {lst : List Value} {os : List (Nat × AObj)} (hn : n ≤ 4000) (hck : ckOf n (os.map (·.1)) (exL E orc f l T A) = some (lst, n, next, os.map (fun x => some x.2))) (hs : ∀ x ∈ os, x.1 < 1099511627775)
    {s : Code} {T2 : TT} {ds2 : List Nat} (k : Ev E (.code s none (mkT lst n) [] (mkA next os)) (.code x T2 ds2 A2)) : Ev E (.code (nest l s) none T [] A) (.code x T2 ds2 { A2 with low := 0 }) := by
  cases hr : exL E orc f l T A with
  | none => rw [hr] at hck; cases hck
  | some p =>
    obtain ⟨T', A'⟩ := p
    rw [hr] at hck
    simp only [ckOf, Option.some.injEq, Prod.mk.injEq] at hck
    obtain ⟨h1, h2, h3, h4⟩ := hck
    refine exL_ev hE hO hr (Ev.pre k (ck_same hn h1 h2) h3.symm ?_)
    intro id o ho
    have hm := mkAt_get os hs id o ho
    obtain ⟨i, hi⟩ := List.getElem?_of_mem hm
    have e1 : ((os.map (·.1)).map A'.get)[i]? = some (A'.get id) := by simp [hi]
    rw [h4] at e1
    simp [hi] at e1
    exact e1.symm
def sl : Code → Code
  | .seq a _ => a
  | c => c
def sr : Code → Code
  | .seq _ a => a
  | c => c
def bk : Code → Code
  | .block _ a => a
  | c => c
def lp : Code → Code
  | .loop a => a
  | c => c
end
end Go.Ex
set_option linter.unusedVariables false
set_option linter.unusedSimpArgs false
namespace Go.Ex
open Go Go.RowKit
section
variable {p : Nat → Bool} {σ τ : Nat → Nat}
theorem renF_congr (h : ∀ i, p i = true → σ i = τ i) (f : Fn) (k : okF p f = true) : renF σ f = renF τ f := by
  cases f with
  | yield l => simp only [renF, h l k]
  | _ => rfl
mutual
theorem renV_congr (h : ∀ i, p i = true → σ i = τ i) : ∀ v : Value, okV p v = true → renV σ v = renV τ v
  | .bool b, _ => rfl
  | .int _ n, _ => rfl
  | .float _ n, _ => rfl
  | .complex _ a b, _ => rfl
  | .string s, _ => rfl
  | .pointer none, _ => rfl
  | .pointer (some a), k => by simp only [okV] at k; simp only [renV, renA, h _ k]
  | .slice none n c, _ => rfl
  | .slice (some a) n c, k => by
    simp only [okV, Bool.and_eq_true, Bool.or_eq_true] at k
    simp only [renV, renA, renC, h _ k.1]
    rcases k.2 with k2 | k2
    · simp only [k2]
    · cases isEx c with
      | true => rfl
      | false => simp only [h _ k2.1]
  | .map none, _ => rfl
  | .map (some r), k => by simp only [okV] at k; simp only [renV, h _ k]
  | .chan none, _ => rfl
  | .chan (some _), _ => rfl
  | .func fn f c, k => by
    simp only [okV, Bool.and_eq_true] at k
    simp only [renV]
    rw [renVA_congr h f k.1.2, renVA_congr h c k.2, renF_congr h fn k.1.1]
  | .nilFunc, _ => rfl
  | .iface t v, k => by simp only [okV] at k; simp only [renV]; rw [renV_congr h v k]
  | .nilIface, _ => rfl
  | .agg cs, k => by simp only [okV] at k; simp only [renV]; rw [renVA_congr h cs k]
  | .tuple cs, k => by simp only [okV] at k; simp only [renV]; rw [renVA_congr h cs k]
theorem renVA_congr (h : ∀ i, p i = true → σ i = τ i) : ∀ a : Array Value, okVA p a = true → renVA σ a = renVA τ a
  | ⟨l⟩, k => by simp only [okVA] at k; simp only [renVA]; rw [renVL_congr h l k]
theorem renVL_congr (h : ∀ i, p i = true → σ i = τ i) : ∀ a : List Value, okVL p a = true → renVL σ a = renVL τ a
  | [], _ => rfl
  | v :: r, k => by
    simp only [okVL, Bool.and_eq_true] at k
    simp only [renVL]; rw [renV_congr h v k.1, renVL_congr h r k.2]
end
theorem renV_low {N M : Nat} {v : Value} (h : okV (fun i => Nat.blt i N) v = true) : renV (downσ N M) v = v := by
  rw [renV_congr (τ := id) (fun i hi => by unfold downσ; rw [hi]; rfl) v h, renV_id v (okV_mono (fun _ _ => rfl) v h)]
theorem restL_mem (live dead : List Nat) (t : Trie Value) : ∀ (c k : Nat), k < c → placeIn k live 0 = none → memF k dead = false → slot t k ∈ restL live dead t c
  | 0, k, h, _, _ => by omega
  | c + 1, k, h, h1, h2 => by
    simp only [restL]
    by_cases e : k = c
    · subst e; rw [h1, h2]; simp
    · have := restL_mem live dead t c k (by omega) h1 h2
      split
      · exact List.mem_cons_of_mem _ this
      · exact this
theorem head_ren {live dead : List Nat} {n N M : Nat} {tb : Trie Value} {T' : TT} (hn : n ≤ 4000) (hT : T'.n = n) (hok : ∀ k, k < n → okV (downP N M) (slot T'.t k) = true) (hrest : restL live dead T'.t n = restL live dead tb n)
    (hlow : (restL live dead tb n).all (okV fun i => Nat.blt i N) = true) :
    renT (downσ N M) T' ⟨headT live dead (live.map fun k => renV (downσ N M) (slot T'.t k)) (fun k => renV (downσ N M) (slot T'.t k)) tb n .leaf, n⟩ (downP N M) := by
  refine ⟨hT.symm, ⟨hn, fun k hk => ?_⟩, fun k hk => ?_⟩
  · simp only at hk ⊢
    rw [headT_get _ _ _ _ _ n .leaf k (by omega), if_neg (by omega), Trie.get_leaf]
  · rw [hT] at hk
    refine ⟨hok k hk, ?_⟩
    have e : TT.get T' k = slot T'.t k := rfl
    rw [e]
    simp only [TT.get]
    rw [headT_get _ _ _ _ _ n .leaf k (by omega), if_pos hk]
    simp only
    unfold mixAt
    cases hp : placeIn k live 0 with
    | some q =>
      obtain ⟨_, h2⟩ := placeIn_spec hp
      rw [Nat.sub_zero] at h2
      simp only [List.getElem?_map, h2, Option.map_some]
    | none =>
      simp only
      cases hm : memF k dead with
      | true => rfl
      | false =>
        simp only
        rw [restL_get live dead T'.t tb n hrest k hk hp hm]
        exact (renV_low (List.all_eq_true.1 hlow _ (restL_mem live dead tb n k hk hp hm))).symm
end
end Go.Ex
set_option linter.unusedVariables false
set_option linter.unusedSimpArgs false
namespace Go.Ex
open Go Go.RowKit
/-! ### Checkpoints, compared by reckoning -/
def eqEs : List AEnt → List AEnt → Bool
  | [], [] => true
  | a :: r, b :: s => eqV a.key b.key && eqV a.val b.val && Nat.beq a.born b.born && eqEs r s
  | _, _ => false
def eqO : AObj → AObj → Bool
  | .cells c e sl wr, .cells c' e' sl' wr' => eqL c c' && Nat.beq e e' && (sl == sl') && (wr == wr')
  | .map es k, .map es' k' => eqEs es es' && Nat.beq k k'
  | _, _ => false
theorem eqEs_eq : ∀ {a b : List AEnt}, eqEs a b = true → a = b
  | [], [], _ => rfl
  | [], _ :: _, h => by cases h
  | _ :: _, [], h => by cases h
  | ⟨k, v, n⟩ :: r, ⟨k', v', n'⟩ :: s, h => by
    simp only [eqEs, Bool.and_eq_true] at h
    rw [eqV_eq _ _ h.1.1.1, eqV_eq _ _ h.1.1.2, Nat.eq_of_beq_eq_true h.1.2, eqEs_eq h.2]
theorem eqO_eq : ∀ {a b : AObj}, eqO a b = true → a = b := by
  intro a b h
  cases a with
  | cells c e sl wr =>
    cases b with
    | cells c' e' sl' wr' =>
      simp only [eqO, Bool.and_eq_true, beq_iff_eq] at h
      rw [eqL_eq _ _ h.1.1.1, Nat.eq_of_beq_eq_true h.1.1.2, h.1.2, h.2]
    | _ => cases h
  | map es k =>
    cases b with
    | map es' k' =>
      simp only [eqO, Bool.and_eq_true] at h
      rw [eqEs_eq h.1, Nat.eq_of_beq_eq_true h.2]
    | _ => cases h
  | obj o => cases b <;> cases h
  | loop r T => cases b <;> cases h
def eqSlots (t : Trie Value) : List Value → Nat → Bool
  | [], _ => true
  | v :: r, i => eqV (slot t i) v && eqSlots t r (i + 1)
def eqObjs (A : AH) : List (Nat × AObj) → Bool
  | [] => true
  | (i, o) :: r => (match A.get i with
    | some o' => eqO o' o
    | none => false) && eqObjs A r
/-- Slot 0 is looked at apart. -/
def ckB (n next : Nat) (l : List Value) (os : List (Nat × AObj)) : Option (TT × AH) → Bool
  | some (T, A) => Nat.beq T.n n && Nat.beq A.next next && eqSlots T.t l 1 && eqObjs A os
  | none => false
def slot0 : Option (TT × AH) → Value
  | some (T, _) => slot T.t 0
  | none => undef
theorem eqSlots_get {t : Trie Value} : ∀ {l : List Value} {i : Nat}, eqSlots t l i = true → ∀ k v, l[k]? = some v → slot t (i + k) = v
  | [], i, _, k, v, h => by simp at h
  | x :: r, i, h, k, v, hk => by
    simp only [eqSlots, Bool.and_eq_true] at h
    cases k with
    | zero => simp at hk; subst hk; exact eqV_eq _ _ h.1
    | succ k => have := eqSlots_get h.2 k v (by simpa using hk); rw [show i + (k + 1) = i + 1 + k by omega]; exact this
theorem eqObjs_get {A : AH} : ∀ {os : List (Nat × AObj)}, eqObjs A os = true → ∀ id o, (id, o) ∈ os → A.get id = some o
  | [], _, id, o, h => by cases h
  | (i, x) :: r, h, id, o, hm => by
    simp only [eqObjs, Bool.and_eq_true] at h
    rcases List.mem_cons.1 hm with e | hm
    · cases e
      split at h
      · rename_i o' ho
        rw [ho, eqO_eq h.1]
      · cases h.1
    · exact eqObjs_get h.2 id o hm
theorem ckB_spec {n next : Nat} {v0 : Value} {l : List Value} {os : List (Nat × AObj)} {r : Option (TT × AH)} (hl : l.length + 1 = n) (h : ckB n next l os r = true) (h0 : slot0 r = v0) : ∃ T A, r = some (T, A) ∧ slotsOf T.t n = v0 :: l ∧ T.n = n ∧ A.next = next ∧ ∀ id o, (id, o) ∈ os → A.get id = some o := by
  cases r with
  | none => cases h
  | some p =>
    obtain ⟨T, A⟩ := p
    simp only [ckB, Bool.and_eq_true] at h
    obtain ⟨⟨⟨h1, h2⟩, h3⟩, h4⟩ := h
    refine ⟨T, A, rfl, ?_, Nat.eq_of_beq_eq_true h1, Nat.eq_of_beq_eq_true h2, fun id o hm => eqObjs_get h4 id o hm⟩
    apply List.ext_getElem?
    intro k
    by_cases hk : k < n
    · rw [slotsOf_get T.t n k hk]
      cases k with
      | zero => simp only [slot0] at h0; rw [h0]; rfl
      | succ k =>
        have hx : l[k]? = some l[k] := List.getElem?_eq_getElem (by omega)
        rw [List.getElem?_cons_succ, hx, ← eqSlots_get h3 k _ hx, Nat.add_comm]
    · rw [List.getElem?_eq_none (by simp [slotsOf]; omega), List.getElem?_eq_none (by simp; omega)]
section
variable {E : Env} {A A' A1 A2 H : AH} {T T' T1 T2 : TT} {x : AX}
/-- Some pieces up to a checkpoint; what comes behind it. -/
theorem ckB_chain (hE : EnvOk E) {orc : Orc} (hO : OrcOk E orc) {f n next : Nat} {l : List Code} {v0 : Value} {lst : List Value} {os : List (Nat × AObj)} (hn : n ≤ 4000) (hl : lst.length + 1 = n) (hck : ckB n next lst os (exL E orc f l T A) = true) (h0 : slot0 (exL E orc f l T A) = v0) (hs : ∀ x ∈ os, x.1 < 1099511627775)
    {s : Code} {T2 : TT} {ds2 : List Nat} (k : Ev E (.code s none (mkT (v0 :: lst) n) [] (mkA next os)) (.code x T2 ds2 A2)) : Ev E (.code (nest l s) none T [] A) (.code x T2 ds2 { A2 with low := 0 }) := by
  obtain ⟨T', A', hr, h1, h2, h3, h4⟩ := ckB_spec hl hck h0
  refine exL_ev hE hO hr (Ev.pre k (ck_same hn h1 h2) h3.symm ?_)
  intro id o ho
  exact h4 id o (mkAt_get os hs id o ho)
end
end Go.Ex
