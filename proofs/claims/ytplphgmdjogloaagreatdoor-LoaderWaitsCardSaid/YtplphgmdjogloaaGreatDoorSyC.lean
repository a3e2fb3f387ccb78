/- Lemmas: runs of code with open values, under the conditions that each theorem names. -/
import Derived.Test.YtplphgmdjogloaaGreatDoorSyB
set_option linter.unusedVariables false
set_option linter.unusedSimpArgs false
set_option linter.unusedVariables false
set_option linter.unusedSimpArgs false
namespace Go.Ex
open Go Go.RowKit
section
variable {E : Env}

/-- A memory of package-level variables alone. -/
def GlobA (A0 : AH) (G : Nat) : Prop := A0.next = G ∧ ∀ id o, A0.get id = some o → id < G ∧ ∃ c e, o = .cells c e false false ∧ plainL c = true
theorem startA_glob {G : Nat} {l : List (Nat × List Value × TypeId)} (hG : G < 1099511627775) (hl : ∀ x ∈ l, x.1 < G ∧ plainL x.2.1 = true) : GlobA (startA G l) G := by
  refine ⟨startA_next G l, fun id o h => ?_⟩
  obtain ⟨c, e, h1, rfl⟩ := startA_get G hG l (fun x hx => (hl x hx).1) id o h
  exact ⟨(hl _ h1).1, c, e, rfl, (hl _ h1).2⟩
theorem plainL_get : ∀ (l : List Value), plainL l = true → ∀ (i : Nat) (v : Value), l[i]? = some v → plainV v = true
  | [], _, i, v, h => by simp at h
  | x :: r, hl, i, v, hv => by
    simp only [plainL, Bool.and_eq_true] at hl
    cases i with
    | zero => simp at hv; subst hv; exact hl.1
    | succ i => exact plainL_get r hl.2 i v (by simpa using hv)

/-- **A CALL THAT KNOWS PACKAGE-LEVEL VARIABLES ALONE, IN WHATEVER MEMORY.** -/
theorem Ev.frame {A0 A0' A : AH} {g : FuncId} {args : List Value} {v : Value} (h : Ev E (.fn g args A0) (.val v A0')) (ha : plainL args = true) (hv : plainV v = true) (hk : A0.next ≤ A0'.low)
    (hg : GlobA A0 E.G) (hs : ∀ id o, A0.get id = some o → A.get id = some o) : Ev E (.fn g args A) (.val v A) := by
  intro B w0 ρ us w RR R hvr hK
  obtain ⟨hn, hc⟩ := hg
  have hus : us = args := VRL.func _ _ _ hvr (VRL.plain _ ha)
  subst hus
  have hG0 : ∀ id o, A0.get id = some o → id < E.G := fun id o h => (hc id o h).1
  have R0 : Rel E.P E.G B ⟨w, fun b => (B ≤ b ∧ ∃ id o x, A.get id = some o ∧ A0.get id = none ∧ ρ id = some x ∧ b = x.1) ∨ w0.hid b⟩ (fun i => if i < E.G then ρ i else none) A0 w := by
    refine ⟨⟨rfl, rfl, rfl, Nat.le_refl _, fun _ _ => rfl⟩, R.sz, by rw [hn]; exact Nat.le_refl _, ?_, ?_, ?_, ?_, by rw [hn]; have := R.G_next; have := R.small; omega, ?_, ?_⟩
    · intro id o ho
      obtain ⟨hlt, c, e, rfl, hp⟩ := hc id o ho
      obtain ⟨b, k, cs, lo, hi, h1, h2⟩ := R.objs id _ (hs id _ ho)
      refine ⟨b, k, cs, lo, hi, by simp only [if_pos hlt]; exact h1, ⟨h2.at_, h2.len, ?_, h2.full, h2.cap, h2.own⟩⟩
      intro i x hx
      obtain ⟨u, hu, hr⟩ := h2.cells i x hx
      have hpx := plainL_get c hp i x hx
      exact ⟨u, hu, by rw [VR.of_plain hpx hr]; exact VR.plain x hpx⟩
    · intro i j x y hi hj hx hy hB hxy
      obtain ⟨oi, hoi⟩ := Option.isSome_iff_exists.1 hi
      obtain ⟨oj, hoj⟩ := Option.isSome_iff_exists.1 hj
      simp only [if_pos (hG0 i oi hoi)] at hx
      simp only [if_pos (hG0 j oj hoj)] at hy
      exact R.inj i j x y (by rw [hs i oi hoi]; rfl) (by rw [hs j oj hoj]; rfl) hx hy hB hxy
    · intro id hid
      rw [hn] at hid
      show (if id < E.G then ρ id else none) = none
      rw [if_neg (by omega)]
    · intro g hg
      obtain ⟨k, hk⟩ := R.glob g hg
      exact ⟨k, by simp only [if_pos hg]; exact hk⟩
    · intro b hb
      rcases hb with ⟨_, id, o, x, h1, h2, h3, rfl⟩ | hb
      · obtain ⟨b', k, h4, h5⟩ := (R.objs id o h1).ren
        rw [h3] at h4; cases h4
        exact ⟨h5, rfl⟩
      · have := (R.hid b hb).1
        have := R.below.size
        exact ⟨by simp only at *; omega, rfl⟩
    · intro id o x ho hx hb
      have hlt := hG0 id o ho
      simp only [if_pos hlt] at hx
      rcases hb with ⟨hB, id2, o2, x2, h1, h2, h3, h4⟩ | hb
      · have := R.inj id id2 x x2 (by rw [hs id o ho]; rfl) (by rw [h1]; rfl) hx h3 hB h4
        subst this
        rw [ho] at h2; cases h2
      · exact R.noimg id o x (hs id o ho) hx hb
  refine h B _ _ us w RR R0 (VRL.plain _ ha) ?_
  intro ρ' u w' hle hvu R' k'
  have hu : u = v := VR.of_plain hv hvu
  subst hu
  have same : ∀ b, (b < B ∨ (∃ id o x, A.get id = some o ∧ A0.get id = none ∧ ρ id = some x ∧ b = x.1) ∨ w0.hid b) → w'.heap[b]? = w.heap[b]? := by
    intro b hb
    rcases Nat.lt_or_ge b B with hlt | hge
    · exact R'.below.block b hlt
    · rcases hb with hb | hb | hb
      · omega
      · exact (R'.hid b (.inl ⟨hge, hb⟩)).2
      · exact (R'.hid b (.inr hb)).2
  refine hK ρ u w' (Ren.le_refl ρ) (VR.plain u hv) ⟨R.below.trans R'.below, R'.sz, R.G_next, ?_, R.inj, R.fresh, R.glob, R.small, ?_, R.noimg⟩ (Keep.refl A)
  · intro id o ho
    cases h0 : A0.get id with
    | none => exact (R.objs id o ho).mono (Ren.le_refl ρ) fun b k hb => same b (.inr (.inl ⟨id, o, _, ho, h0, hb, rfl⟩))
    | some o0 =>
      have := hs id o0 h0
      rw [ho] at this; cases this
      obtain ⟨hlt, c, e, rfl, hp⟩ := hc id o h0
      obtain ⟨b, k, cs, lo, hi, h1, h2⟩ := R.objs id _ ho
      obtain ⟨b', k', cs', lo', hi', g1, g2⟩ := R'.objs id _ (by rw [k'.same id (by rw [hn]; exact hlt) (by rw [hn] at hk; omega), h0])
      have e1 := hle id _ (show (fun i => if i < E.G then ρ i else none) id = some (b, 0, k) by simp only [if_pos hlt]; exact h1)
      rw [g1] at e1; cases e1
      refine ⟨b, k, cs', lo', hi', h1, ⟨g2.at_, g2.len, ?_, g2.full, g2.cap, g2.own⟩⟩
      intro i x hx
      obtain ⟨u, hu, hr⟩ := g2.cells i x hx
      have hpx := plainL_get c hp i x hx
      exact ⟨u, hu, by rw [VR.of_plain hpx hr]; exact VR.plain x hpx⟩
  · intro b hb
    obtain ⟨h1, h2⟩ := R.hid b hb
    exact ⟨h1, (same b (.inr (.inr hb))).trans h2⟩

/-- A closed run that comes to a plain value and turns nothing elder. -/
def plainRun (A0 : AH) : Option Out → Option Value
  | some (.val v A') => if plainV v && Nat.ble A0.next A'.low then some v else none
  | _ => none
theorem Ev.closed (hE : EnvOk E) {f : Nat} {g : FuncId} {args : List Value} {l : List (Nat × List Value × TypeId)} {v : Value} (h : plainRun (startA E.G l) (ex E f (.fn g args (startA E.G l))) = some v) (ha : plainL args = true) (hG : E.G < 1099511627775)
    (hl : ∀ x ∈ l, x.1 < E.G ∧ plainL x.2.1 = true) {A : AH} (hs : ∀ id o, (startA E.G l).get id = some o → A.get id = some o) : Ev E (.fn g args A) (.val v A) := by
  unfold plainRun at h
  split at h
  · rename_i v' A' hx
    split at h
    · rename_i hc
      cases h
      simp only [Bool.and_eq_true] at hc
      have hlow := Nat.le_of_ble_eq_true hc.2
      have hev := Ev.of_ex hE hx
      exact Ev.frame hev ha hc.1 hlow (startA_glob hG hl) hs
    · cases h
  · cases h
end
end Go.Ex
set_option linter.unusedVariables false
set_option linter.unusedSimpArgs false
namespace Go.Ex
open Go Go.RowKit
/-- Contracts, asked ahead of a function's text. -/
abbrev Orc := FuncId → List Value → AH → Option (Value × AH)
def exoFn (orc : Orc) (self : Self) (E : Env) (g : FuncId) (args : List Value) (A : AH) : Option Out := match orc g args A with
  | some (v, A') => some (.val v A')
  | none => fnStep self E g args A
def exoStep (orc : Orc) (self : Self) (E : Env) : Task → Option Out
  | .code c ro T ds A => codeStep self E c ro T ds A
  | .fn g args A => exoFn orc self E g args A
  | .round l args A => roundStep self l args A
def exo (E : Env) (orc : Orc) : Nat → Task → Option Out
  | 0, _ => none
  | f + 1, k => exoStep orc (exo E orc f) E k
def OrcOk (E : Env) (orc : Orc) : Prop := ∀ g args A v A', orc g args A = some (v, A') → Ev E (.fn g args A) (.val v A')
section
variable {E : Env} {B : Nat} {w0 : Base} {w w' : World} {ρ ρ' : Ren} {A A' : AH} {T T' : TT} {a : Act} {P : Program} {G : Nat} {F : Fence} {n : Nat} {Q : Exit → Act → World → Prop}
/-- **THE EXECUTOR, CONTRACTS TAKEN IN.** -/
theorem sound_exo (hE : EnvOk E) {orc : Orc} (hO : OrcOk E orc) : ∀ f, Sound E (exo E orc f) := by
  intro f
  induction f using Nat.strongRecOn with
  | _ f ih =>
    cases f with
    | zero => intro B w0 k o h; cases h
    | succ f =>
      intro B w0 k o h
      have hS : Sound E (exo E orc f) := ih f (Nat.lt_succ_self f)
      have hcode : ∀ {c : Code} {ro : Option Nat} {T : TT} {ds : List Nat} {A : AH} (o' : Out), exo E orc f (.code c ro T ds A) = some o' → TaskOk E B w0 (.code c ro T ds A) o' := fun o' h => hS B w0 _ _ h
      cases k with
      | fn g args A =>
        have h : exoFn orc (exo E orc f) E g args A = some o := h
        unfold exoFn at h
        split at h
        · rename_i v A' ho
          cases h
          exact hO g args A v A' ho B w0
        · exact sound_fnStep hS h
      | round l args A => exact sound_roundStep hS h
      | code c ro T ds A =>
        have h : codeStep (exo E orc f) E c ro T ds A = some o := h
        unfold codeStep at h
        split at h
        · cases h
          intro ρ a w ro' Q R hT hok hd hro hQ
          exact wpIn_skip (hQ ρ a w (Ren.le_refl ρ) R (Keep.refl A) hT hok hd)
        · exact sound_region hS hE h
        · obtain ⟨T', A', rfl⟩ := drawStep_code h
          intro ρ a w ro' Q R hT hok hd hro hQ
          exact sound_draw hS hE _ _ ro' (Q := Q) R hT hok h (fun ρ' a' w' h1 h2 h3 h4 h5 h6 => hQ ρ' a' w' h1 h2 h3 h4 h5 (by rw [h6]; exact hd.mono h1))
        · exact sound_seqLike hS _ hcode h
        · rename_i x y z _
          unfold condStep at h
          have go : ∀ {t : Bool}, evO E T x = some (.bool t) → exo E orc f (.code (if t then y else z) ro T ds A) = some o → TaskOk E B w0 (.code (.cond x y z) ro T ds A) o := by
            intro t ht hh
            have h1 := hcode _ hh
            cases o with
            | val v A => exact h1
            | code x T' ds' A' =>
              intro ρ a w ro' Q R hT hok hd hro hQ
              exact wpIn_cond (t := t) (evO_VR R hT hok ht) (h1 ρ a w ro' Q R hT hok hd hro hQ)
          split at h
          · rename_i ht; exact go (t := true) ht h
          · rename_i ht; exact go (t := false) ht h
          · cases h
        · exact sound_blockStep _ hcode h
        · -- a loop
          rename_i c _
          have key : ∀ {x : AX} {T' : TT} {ds' : List Nat} {A' : AH}, seqStep (exo E orc f) ro (.loop c) (exo E orc f (.code c ro T ds A)) = some (.code x T' ds' A') → TaskOk E B w0 (.code (.loop c) ro T ds A) (.code x T' ds' A') := by
            intro x T' ds' A' h ρ a w ro' Q R hT hok hd hro hQ
            refine wpIn_loop_count (fun j a' w' => j ≤ f + 1 ∧ ∃ ρ1 T1 ds1 A1, exo E orc j (.code (.loop c) ro T1 ds1 A1) = some (.code x T' ds' A') ∧ Ren.le ρ ρ1 ∧ Rel E.P E.G B w0 ρ1 A1 w' ∧ Keep A A1 ∧ TTR ρ1 T1 a'.tmps ∧ T1.ok ∧ DsR ρ1 ds1 a'.defers) (f + 1)
              ⟨Nat.le_refl _, ρ, T, ds, A, h, Ren.le_refl ρ, R, Keep.refl A, hT, hok, hd⟩ (fun a w h => by obtain ⟨_, _, _, _, _, h, _⟩ := h; cases h) ?_
            intro j a1 w1 hI
            obtain ⟨hj, ρ1, T1, ds1, A1, hex, hle, R1, k1, hT1, hok1, hd1⟩ := hI
            have hSj : Sound E (exo E orc j) := ih j (by omega)
            have hex : seqStep (exo E orc j) ro (.loop c) (exo E orc j (.code c ro T1 ds1 A1)) = some (.code x T' ds' A') := hex
            unfold seqStep at hex
            split at hex
            · rename_i T2 ds2 A2 hb
              refine hSj B w0 _ _ hb ρ1 a1 w1 ro' _ R1 hT1 hok1 hd1 (hro.mono hle) ?_
              intro ρ2 a2 w2 e1 e2 e3 e4 e5 e6
              exact ⟨by omega, ρ2, T2, ds2, A2, hex, Ren.le_trans hle e1, e2, k1.trans e3, e4, e5, e6⟩
            · rename_i hne
              refine hSj B w0 _ _ hex ρ1 a1 w1 ro' _ R1 hT1 hok1 hd1 (hro.mono hle) ?_
              intro ρ2 a2 w2 e1 e2 e3 e4 e5 e6
              have := hQ ρ2 a2 w2 (Ren.le_trans hle e1) e2 (k1.trans e3) e4 e5 e6
              cases x with
              | normal => exact absurd hex (hne _ _ _)
              | ret => exact this
              | exit id => exact this
          cases o with
          | code x T' ds' A' => exact key h
          | val v A' =>
            have := sound_seqLike hS (B := B) (w0 := w0) _ (hcode (c := c)) h
            exact this
        · exact sound_rangeRun hS hE h
        · cases h
          intro ρ a w ro' Q R hT hok hd hro hQ
          exact wpIn_exit (hQ ρ a w (Ren.le_refl ρ) R (Keep.refl A) hT hok hd)
        · -- a scope
          have h1 := hcode _ h
          cases o with
          | val v A => exact h1
          | code x T' ds' A' =>
            intro ρ a w ro' Q R hT hok hd hro hQ
            refine wpIn_scope_straight (h1 ρ a w ro' _ R hT hok hd hro ?_)
            intro ρ1 a1 w1 k1 k2 k3 k4 k5 k6
            exact ⟨(fun l e => by cases x <;> cases e), hQ ρ1 a1 w1 k1 k2 k3 k4 k5 k6⟩
        · cases h
          intro ρ a w ro' Q R hT hok hd hro hQ
          exact wpIn_label (hQ ρ a w (Ren.le_refl ρ) R (Keep.refl A) hT hok hd)
        · cases h
          intro ρ a w ro' Q R hT hok hd hro hQ
          exact wpIn_ret (hQ ρ a w (Ren.le_refl ρ) R (Keep.refl A) hT hok hd)
        · cases h
        · cases h


theorem Ev.of_exo (hE : EnvOk E) {orc : Orc} (hO : OrcOk E orc) {f : Nat} {k : Task} {o : Out} (h : exo E orc f k = some o) : Ev E k o := fun B w0 => sound_exo hE hO f B w0 k o h
end
end Go.Ex
set_option linter.unusedVariables false
set_option linter.unusedSimpArgs false
namespace Go.Ex
open Go Go.RowKit
section
variable {E : Env} {B : Nat} {w0 : Base} {ρ ρ' : Ren} {A A' A1 A2 : AH} {T T' T0 T1 T2 : TT} {ds ds' ds1 ds2 : List Nat} {ro : Option Nat} {x : AX} {c d : Code}

theorem Ev.post (h : Ev E (.code c ro T ds A) (.code x T' ds' A')) (hs : T'.ok → TT.Same T' T1) : Ev E (.code c ro T ds A) (.code x T1 ds' A') := by
  intro B w0 ρ a w ro' Q R hT hok hd hro hQ
  refine h B w0 ρ a w ro' Q R hT hok hd hro ?_
  intro ρ' a' w' g1 g2 g3 g4 g5 g6
  exact hQ ρ' a' w' g1 g2 g3 ((hs g5).ttr g4) ((hs g5).2.2 g5) g6

/-! ### Frames as lists -/
def placeIn (i : Nat) : List Nat → Nat → Option Nat
  | [], _ => none
  | x :: r, p => match Nat.beq x i with
    | true => some p
    | false => placeIn i r (p + 1)
def slot (t : Trie Value) (i : Nat) : Value := match t.get i with
  | some v => v
  | none => undef
def mixAt (live dead : List Nat) (xs : List Value) (y : Nat → Value) (t : Trie Value) (i : Nat) : Value := match placeIn i live 0 with
  | some p => (match xs[p]? with | some v => v | none => undef)
  | none => match memF i dead with
    | true => y i
    | false => slot t i
def headT (live dead : List Nat) (xs : List Value) (y : Nat → Value) (t : Trie Value) : Nat → Trie Value → Trie Value
  | 0, s => s
  | c + 1, s => headT live dead xs y t c (s.set 24 c (some (mixAt live dead xs y t c)))
def mixAtK (live dead : List Nat) (xs : List Value) (y : Nat → Value) (t : Trie Value) (i : Nat) (K : Value → Prop) : Prop := match placeIn i live 0 with
  | some p => (match xs[p]? with | some v => K v | none => K undef)
  | none => match memF i dead with
    | true => K (y i)
    | false => match t.get i with
      | some v => K v
      | none => K undef
theorem mixAtK_eq (live dead : List Nat) (xs : List Value) (y : Nat → Value) (t : Trie Value) (i : Nat) (K : Value → Prop) : mixAtK live dead xs y t i K = K (mixAt live dead xs y t i) := by
  unfold mixAtK mixAt slot
  cases placeIn i live 0 with
  | some p => simp only; cases xs[p]? <;> rfl
  | none =>
    simp only
    cases memF i dead with
    | true => rfl
    | false => simp only; cases t.get i <;> rfl
/-- The frame with which a round begins. -/
def headK (live dead : List Nat) (xs : List Value) (y : Nat → Value) (t : Trie Value) : Nat → Trie Value → (Trie Value → Prop) → Prop
  | 0, s, K => K s
  | c + 1, s, K => mixAtK live dead xs y t c fun v => setK 24 s c v fun s => headK live dead xs y t c s K
theorem headK_eq (live dead : List Nat) (xs : List Value) (y : Nat → Value) (t : Trie Value) : ∀ (c : Nat) (s : Trie Value) (K : Trie Value → Prop), headK live dead xs y t c s K = K (headT live dead xs y t c s)
  | 0, s, K => rfl
  | c + 1, s, K => by
    simp only [headK, mixAtK_eq, setK_eq, headT]
    exact headK_eq live dead xs y t c _ K
def restL (live dead : List Nat) (t : Trie Value) : Nat → List Value
  | 0 => []
  | c + 1 => match placeIn c live 0, memF c dead with
    | none, false => slot t c :: restL live dead t c
    | _, _ => restL live dead t c
def pickK (t : Trie Value) : List Nat → (List Value → Prop) → Prop
  | [], K => K []
  | i :: r, K => match t.get i with
    | some v => pickK t r fun l => K (v :: l)
    | none => pickK t r fun l => K (undef :: l)
theorem pickK_eq (t : Trie Value) : ∀ (l : List Nat) (K : List Value → Prop), pickK t l K = K (l.map (slot t))
  | [], K => rfl
  | i :: r, K => by
    simp only [pickK, List.map_cons, slot]
    cases t.get i with
    | some v => simp only; rw [pickK_eq t r]
    | none => simp only; rw [pickK_eq t r]

theorem headT_get (live dead : List Nat) (xs : List Value) (y : Nat → Value) (t : Trie Value) : ∀ (c : Nat) (s : Trie Value) (k : Nat), c ≤ 5000 → (headT live dead xs y t c s).get k = if k < c then some (mixAt live dead xs y t k) else s.get k
  | 0, s, k, _ => by simp [headT]
  | c + 1, s, k, h => by
    simp only [headT]
    rw [headT_get live dead xs y t c _ k (by omega), Trie.get_set' _ _ _ _ _ (by omega)]
    by_cases h1 : k < c
    · rw [if_pos h1, if_pos (by omega)]
    · rw [if_neg h1]
      by_cases h2 : k = c
      · subst h2; rw [if_pos rfl, if_pos (by omega)]
      · rw [if_neg h2, if_neg (by omega)]
theorem placeIn_spec {i : Nat} : ∀ {l : List Nat} {p q : Nat}, placeIn i l p = some q → p ≤ q ∧ l[q - p]? = some i
  | [], p, q, h => by cases h
  | x :: r, p, q, h => by
    simp only [placeIn] at h
    split at h
    · rename_i hb
      cases h
      exact ⟨Nat.le_refl _, by simp [Nat.eq_of_beq_eq_true hb]⟩
    · obtain ⟨h1, h2⟩ := placeIn_spec h
      refine ⟨by omega, ?_⟩
      rw [show q - p = (q - (p + 1)) + 1 by omega]
      simpa using h2
theorem restL_get (live dead : List Nat) (t t' : Trie Value) : ∀ (c : Nat), restL live dead t c = restL live dead t' c → ∀ k, k < c → placeIn k live 0 = none → memF k dead = false → slot t k = slot t' k
  | 0, h, k, h2, _, _ => by omega
  | c + 1, h, k, h2, h3, h4 => by
    simp only [restL] at h
    by_cases hk : k = c
    · subst hk
      rw [h3, h4] at h
      simp only [List.cons.injEq] at h
      exact h.1
    · refine restL_get live dead t t' c ?_ k (by omega) h3 h4
      split at h
      · exact (List.cons.injEq _ _ _ _ ▸ h).2
      · exact h

/-- The frame at a round's end is that of a round's beginning. -/
theorem mix_same {live dead : List Nat} {n : Nat} {t t0 : Trie Value} (hn : n ≤ 4000) (hr : restL live dead t n = restL live dead t0 n) : TT.ok ⟨t, n⟩ → TT.Same ⟨t, n⟩ ⟨headT live dead (live.map (slot t)) (slot t) t0 n .leaf, n⟩ := by
  intro hok
  refine ⟨rfl, fun k => ?_, fun _ => ⟨hn, fun k hk => ?_⟩⟩
  · simp only [TT.get]
    rw [headT_get _ _ _ _ _ n .leaf k (by omega)]
    by_cases hk : k < n
    · rw [if_pos hk]
      simp only
      show mixAt live dead _ _ t0 k = slot t k
      unfold mixAt
      cases hp : placeIn k live 0 with
      | some p =>
        obtain ⟨_, h2⟩ := placeIn_spec hp
        rw [Nat.sub_zero] at h2
        simp only [List.getElem?_map, h2, Option.map_some]
      | none =>
        simp only
        cases hm : memF k dead with
        | true => rfl
        | false => exact (restL_get live dead t t0 n hr k hk hp hm).symm
    · rw [if_neg hk, Trie.get_leaf]
      have := hok.2 k (by simpa using hk)
      simp only at this
      simp only [this]
  · simp only at hk ⊢
    rw [headT_get _ _ _ _ _ n .leaf k (by omega), if_neg (by omega), Trie.get_leaf]

def asgO : List Oper → List Nat → List Nat
  | [], acc => acc
  | o :: r, acc => match o.dst with
    | some d => asgO r (d :: acc)
    | none => asgO r acc
/-- What some code may write. -/
def asg : Code → List Nat → List Nat
  | .region _ ops _, acc => asgO ops.toList acc
  | .seq a b, acc => asg b (asg a acc)
  | .cond _ a b, acc => asg b (asg a acc)
  | .block _ a, acc => asg a acc
  | .loop a, acc => asg a acc
  | .rangeFunc _ ps a b, acc => asg b (asg a (ps.toList ++ acc))
  | .scope a, acc => asg a acc
  | _, acc => acc

def endK (live dead : List Nat) (n : Nat) (t0 : Trie Value) (I : List Value → List Nat → AH → Prop) : TT → List Nat → AH → Prop
  | ⟨t, n'⟩, ds, A => n' = n ∧ restL live dead t n = restL live dead t0 n ∧ pickK t live fun l => I l ds A

/-- **A LOOP**: of its live slots the invariant speaks, with a count that falls; what else it writes is nobody's. -/
theorem loop_live (hE : EnvOk E) {body : Code} {t0 : Trie Value} {n : Nat} {K : AX → TT → List Nat → AH → Prop} (live : List Nat) (I : Nat → List Value → List Nat → AH → Prop) (m : Nat) (hn : n ≤ 4000)
    (h0 : pickK t0 live fun l => I m l ds A) (hz : ∀ l ds A, ¬ I 0 l ds A)
    (step : ∀ (j : Nat) (xs : List Value) (y : Nat → Value) (ds : List Nat) (A : AH), I (j + 1) xs ds A → headK live (asg body []) xs y t0 n .leaf fun t => wx E ro body ⟨t, n⟩ ds A (seqK (fun _ T' ds' A' => endK live (asg body []) n t0 (I j) T' ds' A') K)) :
    CodeP E (.loop body) ro ⟨t0, n⟩ ds A K := by
  have key : ∀ (m : Nat) (xs : List Value) (y : Nat → Value) (ds : List Nat) (A : AH), I m xs ds A → ∃ x T' ds' A' k, LoopEv E body ro x T' ds' A' k ⟨headT live (asg body []) xs y t0 n .leaf, n⟩ ds A ∧ K x T' ds' A' := by
    intro m
    induction m with
    | zero => intro xs y ds A h; exact absurd h (hz _ _ _)
    | succ m ih =>
      intro xs y ds A h
      have hs := step m xs y ds A h
      rw [headK_eq] at hs
      obtain ⟨x, T', ds', A', h1, h2⟩ := wx_out hE hs
      cases x with
      | normal =>
        obtain ⟨t', n'⟩ := T'
        simp only [seqK, endK, pickK_eq] at h2
        obtain ⟨rfl, h3, h4⟩ := h2
        obtain ⟨x, T2, ds2, A2, k, h5, h6⟩ := ih _ (slot t') _ _ h4
        exact ⟨x, T2, ds2, A2, k + 1, .more (h1.post (mix_same hn h3)) h5, h6⟩
      | ret => exact ⟨_, _, _, _, 1, .stop h1 (fun e => by cases e), h2⟩
      | exit i => exact ⟨_, _, _, _, 1, .stop h1 (fun e => by cases e), h2⟩
  rw [pickK_eq] at h0
  obtain ⟨x, T', ds', A', k, h1, h2⟩ := key m _ (slot t0) ds A h0
  refine ⟨x, T', ds', A', ?_, h2⟩
  exact Ev.same (mix_same hn rfl) h1.ev
end
end Go.Ex
