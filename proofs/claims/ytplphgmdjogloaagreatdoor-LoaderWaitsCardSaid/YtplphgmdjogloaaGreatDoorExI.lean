/- Lemmas: an executor over the program's code and its soundness, under the conditions that each theorem names. -/
import Derived.Test.YtplphgmdjogloaaGreatDoorExH
set_option linter.unusedVariables false
set_option linter.unusedSimpArgs false
set_option linter.unusedVariables false
set_option linter.unusedSimpArgs false
namespace Go.Ex
open Go Go.RowKit
section
variable {E : Env} {B : Nat} {w0 : Base} {w w' : World} {ρ ρ' : Ren} {A A' : AH} {T T' : TT} {a : Act} {P : Program} {G : Nat} {F : Fence} {n : Nat} {Q : Exit → Act → World → Prop}

/-! ### Rules that the kit has not -/
theorem least_of (p : Nat → Prop) : ∀ n, p n → ∃ j, p j ∧ ∀ i, p i → j ≤ i := by
  intro n
  induction n using Nat.strongRecOn with
  | _ n ih =>
    intro hn
    by_cases h : ∃ i, i < n ∧ p i
    · obtain ⟨i, hi, hp⟩ := h
      exact ih i hi hp
    · exact ⟨n, hn, fun i hi => by
        rcases Nat.lt_or_ge i n with h' | h'
        · exact absurd ⟨i, h', hi⟩ h
        · exact h'⟩
open Classical in
noncomputable def leastN (p : Nat → Prop) : Nat := if h : ∃ j, p j ∧ ∀ i, p i → j ≤ i then h.choose else 0
theorem leastN_spec {p : Nat → Prop} (h : ∃ n, p n) : p (leastN p) ∧ ∀ i, p i → leastN p ≤ i := by
  obtain ⟨n, hn⟩ := h
  have h := least_of p n hn
  unfold leastN
  rw [dif_pos h]
  exact h.choose_spec
theorem wpIn_loop_count {c : Code} (I : Nat → Act → World → Prop) (k : Nat) (h0 : I k a w) (zero : ∀ a w, ¬ I 0 a w) (round : ∀ j a w, I (j + 1) a w → c.wpIn F n P (Exit.then (fun a' w' => I j a' w') Q) a w) :
    (Code.loop c).wpIn F n P Q a w := by
  refine wpIn_loop (I := fun a w => ∃ j, I j a w) (μ := fun a w => leastN fun j => I j a w) ⟨k, h0⟩ ?_
  intro a w h
  have hf := (leastN_spec h).1
  cases hj : leastN fun j => I j a w with
  | zero => rw [hj] at hf; exact absurd hf (zero a w)
  | succ j =>
    rw [hj] at hf
    refine wpIn_mono (round j a w hf) ?_
    intro e a' w' he
    cases e with
    | normal =>
      have he : I j a' w' := he
      have := (leastN_spec (p := fun j => I j a' w') ⟨j, he⟩).2 j he
      exact ⟨⟨j, he⟩, by omega⟩
    | _ => exact he

theorem stepR_scope {b : Frame} {k : List Item} {cs : List Frame} {c : Code} : step P (lone (b.atR a (.code (.scope c) :: k)) cs w) = .next (lone (b.atR a (.code c :: .inScope c :: k)) cs w) :=
  step_lone_go (by simp [stepG, stepG.exec, Frame.atR])
theorem stepR_inScope {b : Frame} {k : List Item} {cs : List Frame} {c : Code} : step P (lone (b.atR a (.inScope c :: k)) cs w) = .next (lone (b.atR a k) cs w) :=
  step_lone_go (by simp [stepG, stepG.exec, Frame.atR])
theorem wpIn_scope_straight {c : Code} (h : c.wpIn F n P (fun e a w => (∀ l, e ≠ .goto l) ∧ Q e a w) a w) : (Code.scope c).wpIn F n P Q a w := by
  intro b k cs hro hb hr
  have h0 : (lone (b.atR a (.code (.scope c) :: k)) cs w).fenced P F := fenced_calm hb hr rfl
  obtain ⟨e, a₁, w₁, ⟨hng, hq⟩, harr⟩ := h b (.inScope c :: k) cs hro hb hr
  cases e with
  | normal => exact ⟨.normal, a₁, w₁, hq, .head h0 stepR_scope (StepsIn.trans harr (.one (fenced_calm hb hr rfl) stepR_inScope))⟩
  | exit id => exact ⟨_, a₁, w₁, hq, .of_steps (.one h0 stepR_scope) ⟨fun k' hk => harr.1 k' hk, fun hr' hk => harr.2 hr' hk⟩⟩
  | goto l => exact absurd rfl (hng l)
  | ret => exact ⟨_, a₁, w₁, hq, .of_steps (.one h0 stepR_scope) harr⟩
  | panic ch => exact ⟨_, a₁, w₁, hq, .of_steps (.one h0 stepR_scope) harr⟩
  | outgrown => exact ⟨_, a₁, w₁, hq, .of_steps (.one h0 stepR_scope) harr⟩

/-! ### The records of a range over a function -/
theorem run_getLoop {l : Nat} {r : Loop} (h : w.heap[l]? = some (.loop r)) : (Instr.getLoop l).run P w = .ok r w := by
  simp [Instr.getLoop, run_getObj (P := P) h (fun _ _ _ => by simp)]
theorem take_run (R : Rel P G B w0 ρ A w) : ∀ {ds : List Nat} {r : List Deferred} {A' : AH}, DsR ρ ds r → takeAll ds A = some A' → ∀ {fn : Func} {tmps : Array Value} {RR : Ending → World → Prop},
    (∀ w', Rel P G B w0 ρ A' w' → Keep A A' → LeavesIn F n P fn tmps RR [] .returning w') → LeavesInM F n P fn tmps RR r .returning w := by
  intro ds
  induction ds generalizing A w with
  | nil =>
    intro r A' hd h fn tmps RR hK
    cases hd; cases h
    exact hK w R (Keep.refl A)
  | cons D ds ih =>
    intro r A' hd h fn tmps RR hK
    cases hd with
    | cons hx ht =>
      rename_i x r
      simp only [takeAll] at h
      split at h
      · rename_i hg
        obtain ⟨b, k, h1, h2, h3⟩ := R.objs D _ hg
        rw [h1] at hx; cases hx
        have hO := R.setObj (x' := .deferred none) (o1 := .obj (.deferred none)) hg h1 h2 h3 ⟨b, k, h1, h2, heap_set h3⟩
        refine ⟨by simp, .inl ⟨b, _, rfl, ?_, ih hO.1 ht h fun w' R' k' => hK w' R' (hO.2.trans k')⟩⟩
        simp [Instr.takeDeferred, run_getObj (P := P) h3 (fun _ _ _ => by simp), run_setObj' h3 (fun _ _ _ => by simp)]
      · cases h

/-! ### Results -/
theorem results_list (R : Rel P G B w0 ρ A w) {tmps : Array Value} (hT : TTR ρ T tmps) (hok : T.ok) {f : ResultVar → Sem Value} (f1 : ∀ t, f (.tmp t) = pure (tmps.getD t undef)) (f2 : ∀ a t, f (.cell a t) = (do loadVar t (← asAddr (tmps.getD a undef)))) :
    ∀ {rs : List ResultVar} {vs : List Value}, aresults P rs T A = some vs → ∃ us, VRL ρ vs us ∧ (rs.mapM f).run P w = .ok us w := by
  intro rs
  induction rs with
  | nil => intro vs h; cases h; exact ⟨[], rfl, rfl⟩
  | cons x r ih =>
    intro vs h
    cases x with
    | tmp k =>
      simp only [aresults] at h
      split at h
      · rename_i l hl
        cases h
        obtain ⟨us, h1, h2⟩ := ih hl
        exact ⟨_, ⟨_, us, hT.getD hok k, h1, rfl⟩, by simp only [List.mapM_cons, Sem.run_bind, f1, Sem.run_pure, Result.andThen_ok, h2]⟩
      · cases h
    | cell k ty =>
      simp only [aresults] at h
      split at h
      · rename_i v l hv hl
        cases h
        obtain ⟨us, h1, h2⟩ := ih hl
        obtain ⟨u, hu, hr⟩ := aload_run R hv (hT.getD hok k)
        refine ⟨_, ⟨u, us, hr, h1, rfl⟩, ?_⟩
        have hp : ∃ b o, T.get k = .pointer (some ⟨b, o, none⟩) := by
          unfold aload at hv
          split at hv
          · rename_i b o he; exact ⟨b, o, he⟩
          · cases hv
        obtain ⟨b, o, hp⟩ := hp
        have hg := hT.getD hok k
        rw [hp] at hg
        obtain ⟨a', _, hg⟩ := hg
        rw [hg] at hu
        have hu' : (loadVar ty a').run P w = .ok u w := by
          have hs : (Instr.sureAddr (.pointer (some a'))).run P w = .ok a' w := rfl
          simpa [Instr.loadAt, hs] using hu
        simp only [List.mapM_cons, f2, Sem.run_bind, hg, asAddr, Sem.run_pure, Result.andThen_ok, hu', h2]
      · cases h

theorem results_run (R : Rel P G B w0 ρ A w) {fn : Func} {tmps : Array Value} (hT : TTR ρ T tmps) (hok : T.ok) {vs : List Value} (h : aresults P fn.results.toList T A = some vs) :
    ∃ u, VR ρ (match vs with | [v] => v | vs => .tuple ⟨vs⟩) u ∧ (results fn tmps).run P w = .ok u w := by
  unfold results
  generalize hf : (fun x : ResultVar => (match x with
    | .tmp t => pure (tmps.getD t undef)
    | .cell a t => do loadVar t (← asAddr (tmps.getD a undef)) : Sem Value)) = f
  have f1 : ∀ t, f (.tmp t) = pure (tmps.getD t undef) := fun t => by subst hf; rfl
  have f2 : ∀ a t, f (.cell a t) = (do loadVar t (← asAddr (tmps.getD a undef))) := fun a t => by subst hf; rfl
  obtain ⟨us, h1, h2⟩ := results_list R hT hok f1 f2 h
  have h3 : (fn.results.mapM f).run P w = .ok us.toArray w := by
    rw [← Array.toArray_toList (xs := fn.results), List.mapM_toArray, Sem.run_map, h2]; rfl
  match vs, h1 with
  | [v], h1 =>
    obtain ⟨x, rfl, hx⟩ := one_of (l := []) h1
    exact ⟨x, hx, by subst hf; simp only [Sem.run_bind]; erw [h3]; rfl⟩
  | [], h1 =>
    obtain rfl : us = [] := h1
    exact ⟨.tuple #[], ⟨#[], rfl, rfl⟩, by subst hf; simp only [Sem.run_bind]; erw [h3]; rfl⟩
  | v :: v2 :: r, h1 =>
    obtain ⟨x, r1, hx, ⟨y, r2, hy, hr, rfl⟩, rfl⟩ := h1
    exact ⟨.tuple (x :: y :: r2).toArray, ⟨_, ⟨x, _, hx, ⟨y, r2, hy, hr, rfl⟩, rfl⟩, rfl⟩, by subst hf; simp only [Sem.run_bind]; erw [h3]; simp⟩
end
end Go.Ex
set_option linter.unusedVariables false
set_option linter.unusedSimpArgs false
namespace Go.Ex
open Go Go.RowKit
section
variable {E : Env} {B : Nat} {w0 : Base} {w w' : World} {ρ ρ' : Ren} {A A' : AH} {T T' : TT} {a : Act} {P : Program} {G : Nat} {F : Fence} {n : Nat} {Q : Exit → Act → World → Prop}

/-! ### A function -/
theorem ofList_get : ∀ (l : List Value) (i : Nat) (t : Trie Value) (k : Nat), i + l.length ≤ 5000 → (TT.ofList l i t).get k = if k < i then t.get k else (match l[k - i]? with | some v => some v | none => t.get k)
  | [], i, t, k, _ => by simp [TT.ofList]
  | v :: r, i, t, k, h => by
    simp only [List.length_cons] at h
    simp only [TT.ofList]
    rw [ofList_get r (i + 1) _ k (by omega), Trie.get_set' _ _ _ _ _ (by omega)]
    by_cases h1 : k < i
    · rw [if_pos (by omega), if_pos h1, if_neg (by omega)]
    · rw [if_neg h1]
      by_cases h2 : k = i
      · subst h2
        rw [if_pos (by omega), if_pos rfl]; simp
      · rw [if_neg (by omega), show k - i = (k - (i + 1)) + 1 by omega]
        simp only [List.getElem?_cons_succ, if_neg h2]

theorem TTR_enter {args us : List Value} (hv : VRL ρ args us) {nt : Nat} (h : max args.length nt ≤ 4000) :
    TTR ρ { t := TT.ofList args 0 .leaf, n := max args.length nt } (us.toArray ++ Array.replicate (nt - us.toArray.size) undef) ∧ TT.ok { t := TT.ofList args 0 .leaf, n := max args.length nt } := by
  have hl := hv.length
  have h1 : args.length ≤ 4000 := Nat.le_trans (Nat.le_max_left _ _) h
  refine ⟨⟨?_, fun k hk => ?_⟩, ⟨h, fun k hk => ?_⟩⟩
  · simp only [Array.size_append, List.size_toArray, Array.size_replicate, hl]; omega
  · have hg : TT.get { t := TT.ofList args 0 .leaf, n := max args.length nt } k = (match args[k]? with | some v => v | none => undef) := by
      simp only [TT.get]
      rw [ofList_get args 0 .leaf k (by omega), if_neg (by omega), Nat.sub_zero]
      cases args[k]? with
      | some v => rfl
      | none => rw [Trie.get_leaf]
    rw [hg]
    simp only at hk
    by_cases hk2 : k < args.length
    · have hs : args[k]? = some args[k] := List.getElem?_eq_getElem hk2
      obtain ⟨x, hx, hr⟩ := hv.get k _ hs
      rw [hs]
      refine ⟨x, ?_, hr⟩
      rw [Array.getElem?_append_left (by simp [hl]; exact hk2)]
      simpa using hx
    · rw [List.getElem?_eq_none (by omega)]
      refine ⟨undef, ?_, undef_VR⟩
      rw [Array.getElem?_append_right (by simp [hl]; omega)]
      rw [Array.getElem?_replicate]
      simp only [List.size_toArray, hl]
      rw [if_pos (by omega)]
  · simp only at hk ⊢
    rw [ofList_get args 0 .leaf k (by omega), if_neg (by omega), Nat.sub_zero, List.getElem?_eq_none (by omega), Trie.get_leaf]

theorem sound_fnStep {self : Self} (hS : Sound E self) {g : FuncId} {args : List Value} {o : Out} (h : fnStep self E g args A = some o) : TaskOk E B w0 (.fn g args A) o := by
  unfold fnStep at h
  split at h
  · rename_i fn hg
    split at h
    · rename_i c hb
      split at h
      · rename_i hmax
        have hmax := Nat.le_of_ble_eq_true hmax
        split at h
        · rename_i x T' ds A' hself
          have hbody := hS B w0 _ _ hself
          -- the end
          have fin : (∀ id, x ≠ .exit id) → ∀ {A2 : AH} {vs : List Value} {o : Out}, takeAll ds A' = some A2 → aresults E.P fn.results.toList T' A2 = some vs → o = .val (match vs with | [v] => v | vs => .tuple ⟨vs⟩) A2 → TaskOk E B w0 (.fn g args A) o := by
            intro hx A2 vs o ht hr ho
            subst ho
            intro ρ us w R hR hv hK
            obtain ⟨t1, t2⟩ := TTR_enter hv hmax
            refine callsIn_of_wp_marks (F := Fence.wide) hg hb trivial ?_ rfl
            refine hbody ρ { tmps := us.toArray ++ Array.replicate (fn.ntmps - us.toArray.size) undef, defers := [] } w none (bodyPostM Fence.wide 0 E.P fn R) hR t1 t2 .nil rfl ?_
            intro ρ' a' w' hle R' hk hT' hok' hd
            have leave : LeavesInM Fence.wide 0 E.P fn a'.tmps R a'.defers .returning w' := by
              refine take_run R' hd ht fun w2 R2 k2 => ?_
              obtain ⟨u, hu, hrun⟩ := results_run R2 hT' hok' (fn := fn) hr
              exact ⟨u, hrun, hK ρ' u w2 hle hu R2 (hk.trans k2)⟩
            cases x with
            | normal => exact leave
            | ret => exact leave
            | exit id => exact absurd rfl (hx id)
          split at h
          · cases h
          · rename_i hx
            split at h
            · rename_i A2 ht
              split at h
              · rename_i v hr
                cases h
                exact fin (fun id e => hx id e) ht hr rfl
              · rename_i vs hne hr
                cases h
                refine fin (fun id e => hx id e) ht hr ?_
                match vs, hne with
                | [v], hne => exact absurd rfl (hne v)
                | [], _ => rfl
                | _ :: _ :: _, _ => rfl
              · cases h
            · cases h
        · cases h
      · cases h
    · cases h
  · cases h

/-! ### A round -/
theorem setAll_run {l l' : List (Nat × Value)} (h : PartsR ρ l l') : ∀ (T : TT) (tmps : Array Value), TTR ρ T tmps → T.ok → TTR ρ (setAll T l) (l'.foldl (fun t p => t.setIfInBounds p.1 p.2) tmps) ∧ (setAll T l).ok := by
  induction h with
  | nil => exact fun T tmps hT hok => ⟨hT, hok⟩
  | @cons i v u l l' hv _ ih =>
    intro T tmps hT hok
    have h1 := TTR.put (a := { tmps := tmps, defers := [] }) hT hok.1 (some i) hv
    exact ih _ _ h1 (TT.put_ok hok _ _)
theorem zip_PartsR : ∀ (ps : List Nat) (l u : List Value), VRL ρ l u → PartsR ρ (ps.zip l) (ps.zip u)
  | [], _, _, _ => by simp; exact .nil
  | p :: ps, [], u, h => by
    obtain rfl : u = [] := h
    exact .nil
  | p :: ps, v :: l, _, ⟨v', r', h1, h2, rfl⟩ => .cons h1 (zip_PartsR ps l r' h2)

theorem sound_roundStep {self : Self} (hS : Sound E self) {l : Nat} {args : List Value} {o : Out} (h : roundStep self l args A = some o) : TaskOk E B w0 (.round l args A) o := by
  unfold roundStep at h
  split at h
  · rename_i r T0 hg
    split at h
    · cases h
    · rename_i hlen
      have hlen := Nat.eq_of_beq_eq_true hlen
      split at h
      · rename_i T1 A1 hassign
        split at h
        · rename_i r1 T1' hg1
          split at h
          · rename_i hst
            split at h
            · rename_i x T2 A2 hbody
              split at h
              · rename_i r2 T2' hg2
                -- the end, whatever jump
                have fin : ∀ {jump : Option Code} {o : Out} , (o = .val (.bool jump.isNone) (A2.put l (.loop { r2 with state := if jump.isNone then .ready else .done, pending := jump } T2'))) →
                    (∀ (RR : Ending → World → Prop) (a : Act) (w : World) (y : Nat × Nat × Nat), (∃ v w', (Instr.endRound y.1 jump).run E.P w = .ok v w' ∧ RR (.returned v) w') → roundPost E.P y.1 RR (exO x) a w) → TaskOk E B w0 (.round l args A) o := by
                  intro jump o ho hpost
                  subst ho
                  intro ρ y us w RR R hy hv hK
                  obtain ⟨b, k, r', q, e1, e2, e3, e4, e5, e6, e7, e8, e9, e10, e11, e12⟩ := R.objs l _ hg
                  rw [e1] at hy; cases hy
                  have hul := hv.length
                  have hyield : (Instr.yield b us.toArray).run E.P w = .ok (.round b r'.fn ((r'.params.zip us.toArray).foldl (fun tmps (t, a) => tmps.setIfInBounds t a) r'.tmps) r'.assign r'.body) w := by
                    have hsz : ¬ us.toArray.size ≠ r'.params.size := by rw [List.size_toArray, hul, hlen, e6]; simp
                    simp only [Instr.yield, Sem.run_bind, run_getLoop e3, Result.andThen_ok]
                    rw [if_neg hsz]
                    rfl
                  refine ⟨r'.fn, _, r'.assign, r'.body, hyield, ?_⟩
                  have hfold : (r'.params.zip us.toArray).foldl (fun tmps (t, a) => tmps.setIfInBounds t a) r'.tmps = (r.params.toList.zip us).foldl (fun t p => t.setIfInBounds p.1 p.2) r'.tmps := by
                    rw [← Array.foldl_toList, Array.toList_zip, e6]
                  rw [hfold, e7, e8]
                  obtain ⟨s1, s2⟩ := setAll_run (zip_PartsR r.params.toList args us hv) T0 r'.tmps e9 e10
                  refine roundIn_of_wpIn (F := Fence.wide) trivial ?_
                  refine hS B w0 _ _ hassign ρ { tmps := (r.params.toList.zip us).foldl (fun t p => t.setIfInBounds p.1 p.2) r'.tmps, defers := [] } w (some b) _ R s1 s2 .nil ⟨_, e1, rfl⟩ ?_
                  intro ρ1 a1 w1 hle1 R1 k1 hT1 hok1 hd1
                  -- the round begins
                  obtain ⟨b1, k1', r1', q1, f1, f2, f3, f4, f5, f6, f7, f8, f9, f10, f11, f12⟩ := R1.objs l _ hg1
                  have hb1 := hle1 _ _ e1
                  rw [f1] at hb1; cases hb1
                  have hbusy := R1.setObj (x' := .loop { r1' with state := .busy }) (o1 := .loop { r1 with state := .busy } T1') hg1 f1 f2 f3
                    ⟨_, _, { r1' with state := .busy }, q1, f1, f2, heap_set f3, rfl, f5, f6, f7, f8, f9, f10, f11, f12⟩
                  refine ⟨{ w1 with heap := w1.heap.setIfInBounds b (.loop { r1' with state := .busy }) }, ?_, ?_⟩
                  · have hst' : r1'.state = .ready := by rw [f4]; exact hst
                    simp only [Instr.beginRound, Sem.run_bind, run_getLoop f3, Result.andThen_ok, run_setObj' f3 (fun _ _ _ => by simp), hst']
                    rfl
                  · refine hS B w0 _ _ hbody ρ1 a1 _ (some b) _ hbusy.1 hT1 hok1 hd1 ⟨_, f1, rfl⟩ ?_
                    intro ρ2 a2 w2 hle2 R2 k2 hT2 hok2 hd2
                    obtain ⟨b2, k2', r2', q2, g1, g2, g3, g4, g5, g6, g7, g8, g9, g10, g11, g12⟩ := R2.objs l _ hg2
                    have hb2 := hle2 _ _ f1
                    rw [g1] at hb2; cases hb2
                    have hend := R2.setObj (x' := .loop { r2' with state := if jump.isNone then .ready else .done, pending := jump }) (o1 := .loop { r2 with state := if jump.isNone then .ready else .done, pending := jump } T2') hg2 g1 g2 g3
                      ⟨_, _, _, q2, g1, g2, heap_set g3, rfl, rfl, g6, g7, g8, g9, g10, g11, g12⟩
                    refine hpost RR a2 w2 (b, 0, k) ⟨.bool jump.isNone, _, ?_, hK ρ2 _ _ (Ren.le_trans hle1 hle2) (VR.plain _ rfl) hend.1 (((k1.trans hbusy.2).trans k2).trans hend.2)⟩
                    simp only [Instr.endRound, Sem.run_bind, run_getLoop g3, Result.andThen_ok, run_setObj' g3 (fun _ _ _ => by simp)]
                    rfl
                split at h
                · cases h
                  exact fin (jump := none) rfl (fun RR a w y hh => hh)
                · cases h
                  exact fin (jump := some .ret) rfl (fun RR a w y hh => hh)
                · cases h
                  exact fin (jump := some (.exit _)) rfl (fun RR a w y hh => hh)
              · cases h
            · cases h
          · cases h
        · cases h
      · cases h
  · cases h
end
end Go.Ex
set_option linter.unusedVariables false
set_option linter.unusedSimpArgs false
namespace Go.Ex
open Go Go.RowKit
section
variable {E : Env} {B : Nat} {w0 : Base} {w w' : World} {ρ ρ' : Ren} {A A' : AH} {T T' : TT} {a : Act} {P : Program} {G : Nat} {F : Fence} {n : Nat} {Q : Exit → Act → World → Prop}

theorem exO_normal {x : AX} (h : exO x = .normal) : x = .normal := by cases x <;> simp [exO] at h <;> rfl

/-! ### A range over a function -/
theorem sound_rangeRun {self : Self} (hS : Sound E self) (hE : EnvOk E) {g : Operand} {ps : Array Tmp} {assign body : Code} {ro : Option Nat} {ds : List Nat} {o : Out}
    (h : rangeRun self E g ps assign body ro T ds A = some o) : TaskOk E B w0 (.code (.rangeFunc g ps assign body) ro T ds A) o := by
  unfold rangeRun at h
  split at h
  · rename_i hh first captured hgx hgv
    split at h
    · rename_i hbd
      split at h
      · rename_i D ds' A1 henter
        split at h
        · rename_i hlt
          have hlt := blt_true hlt
          unfold rangeEnd at h
          split at h
          · rename_i v A3 hself
            split at h
            · rename_i r T0 hg3
              -- whatever comes behind
              have main : ∀ (Qn : Act → World → Ren → Prop) (hst : r.state ≠ .busy), ∀ (ρ : Ren) (a : Act) (w : World) (ro' : Option Nat) (Q : Exit → Act → World → Prop), Rel E.P E.G B w0 ρ A w → TTR ρ T a.tmps → T.ok → DsR ρ ds a.defers → RoR ρ ro ro' →
                  (∀ ρ4 a4 w4, Ren.le ρ ρ4 → Rel E.P E.G B w0 ρ4 (A3.put A1.next (.loop { r with state := .exhausted } T0)) w4 → Keep A (A3.put A1.next (.loop { r with state := .exhausted } T0)) → TTR ρ4 T a4.tmps → DsR ρ4 ds' a4.defers → RoR ρ4 ro ro' →
                    (match r.pending with | none => Q .normal a4 w4 | some c => c.wpIn (WF ro') 0 E.P Q a4 w4)) →
                  (Code.rangeFunc g ps assign body).wpIn (WF ro') 0 E.P Q a w := by
                intro _ hst ρ a w ro' Q R hT hok hd hro hK
                have hgr := eval_VR (a := a) R hT hok hgx
                rw [hgv] at hgr
                obtain ⟨fn', f', c', hf1, hf2, hf3, hge⟩ := hgr
                obtain rfl : fn' = .func hh := hf1
                refine wpIn_rangeFunc fun fn _ => ?_
                -- the record is laid
                have lay : ∃ (ρ2 : Ren) (Lr : Nat) (mark : List Deferred) (w2 : World) (kk : Nat), (Instr.enterLoop fn a.tmps ps assign body ro').run E.P w = .ok (Lr, mark) w2 ∧ Ren.le ρ ρ2 ∧ ρ2 A1.next = some (Lr, 0, kk) ∧
                    Rel E.P E.G B w0 ρ2 (A1.add (.loop { state := .ready, pending := none, fn := 0, tmps := #[], params := ps, assign := assign, body := body, defers := D } T)) w2 ∧
                    Keep A (A1.add (.loop { state := .ready, pending := none, fn := 0, tmps := #[], params := ps, assign := assign, body := body, defers := D } T)) ∧ DsR ρ2 ds' (mark ++ a.defers) := by
                  have layL : ∀ {ρ1 : Ren} {A1 : AH} {w1 : World} {q : Nat × Nat × Nat}, Rel E.P E.G B w0 ρ1 A1 w1 → A1.next + 1 < 1099511627775 → ρ1 D = some q → Ren.le ρ ρ1 →
                      Rel E.P E.G B w0 (ρ1.set A1.next (w1.heap.size, 0, 0)) (A1.add (.loop { state := .ready, pending := none, fn := 0, tmps := #[], params := ps, assign := assign, body := body, defers := D } T))
                        (w1.alloc (.loop { state := .ready, pending := none, fn, tmps := a.tmps, params := ps, assign, body, defers := q.1 })) := by
                    intro ρ1 A1 w1 q R1 hn hq hle
                    have hle2 := Ren.le_set (R1.fresh A1.next (Nat.le_refl _)) (w1.heap.size, 0, 0)
                    exact R1.add _ _ 0 hn ⟨w1.heap.size, 0, _, q, Ren.set_same _, R1.sz, heap_push_new _ _, rfl, rfl, rfl, rfl, rfl, (hT.mono hle).mono hle2, hok, hle2 _ _ hq, rfl⟩
                  unfold enterL at henter
                  split at henter
                  · cases henter
                    have hro : ro' = none := hro
                    subst hro
                    have hn1 : A.next + 1 + 1 < 1099511627775 := hlt
                    have hle1 := Ren.le_set (R.fresh A.next (Nat.le_refl _)) (w.heap.size, 0, 0)
                    have R1 := R.add (.obj (.deferred (some []))) (.deferred (some [])) 0 (by omega) ⟨w.heap.size, 0, Ren.set_same _, R.sz, heap_push_new _ _⟩
                    have R2 := layL R1 hn1 (Ren.set_same _) hle1
                    have hle2 := Ren.le_set (R1.fresh (A.add (.obj (.deferred (some [])))).next (Nat.le_refl _)) ((w.alloc (.deferred (some []))).heap.size, 0, 0)
                    refine ⟨_, (w.alloc (.deferred (some []))).heap.size, [{ target := .collected w.heap.size, args := #[] }], _, 0, ?_, Ren.le_trans hle1 hle2, Ren.set_same _, R2, (Keep.add A R.small _).trans (Keep.add _ R1.small _),
                      .cons (x := (w.heap.size, 0, 0)) (hle2 _ _ (Ren.set_same _)) ((hd.mono hle1).mono hle2)⟩
                    simp [Instr.enterLoop]
                  · rename_i l
                    split at henter
                    · rename_i r0 T1 hl
                      cases henter
                      obtain ⟨x, hx, rfl⟩ := hro
                      obtain ⟨b, k, r', q, e1, e2, e3, e4, e5, e6, e7, e8, e9, e10, e11, e12⟩ := R.objs l _ hl
                      rw [e1] at hx; cases hx
                      have hn1 : A.next + 1 < 1099511627775 := hlt
                      have R2 := layL R hn1 e11 (Ren.le_refl ρ)
                      have hle2 := Ren.le_set (R.fresh A.next (Nat.le_refl _)) (w.heap.size, 0, 0)
                      refine ⟨_, w.heap.size, [], _, 0, ?_, hle2, Ren.set_same _, R2, Keep.add A R.small _, hd.mono hle2⟩
                      simp [Instr.enterLoop, run_getLoop e3, e12]
                    · cases henter
                obtain ⟨ρ2, Lr, mark, w2, kk, l1, l2, l3, l4, l5, l6⟩ := lay
                have hbody : ∃ fnn c, E.P.funcs[hh]? = some fnn ∧ fnn.body = some c := by
                  unfold hasBody at hbd
                  split at hbd
                  · rename_i fnn hfn
                    obtain ⟨c, hc⟩ := Option.isSome_iff_exists.1 hbd
                    exact ⟨fnn, c, hfn, hc⟩
                  · cases hbd
                obtain ⟨fnn, c, hfn, hc⟩ := hbody
                have hres : (resolve a.eval (rangeCall g Lr) 0).run E.P w2 = .ok { target := .fn (.func hh) c', args := f' ++ #[Value.func (.yield Lr) #[] #[]] } w2 := by
                  simp only [resolve, rangeCall, hge, Deferred.ofValue, List.map_toArray, List.map_cons, List.map_nil]
                  rfl
                refine ⟨Lr, mark, w2, _, w2, hh, _, w2, l1, hres, fun _ _ => trivial, callFunc_body hE hfn hc _, (fun h => by cases h), ?_⟩
                have hargs : (f' ++ #[Value.func (.yield Lr) #[] #[]] ++ c') = (f'.toList ++ [Value.func (.yield Lr) #[] #[]] ++ c'.toList).toArray := by
                  apply Array.ext'; simp
                rw [hargs]
                refine callsIn_WF ro' (hS B w0 _ _ hself ρ2 _ w2 _ l4 (VRL.append (VRL.append (VRL.mono l2 _ _ hf2) ⟨.func (.yield Lr) #[] #[], [], ⟨.yield Lr, #[], #[], ⟨_, l3, rfl⟩, rfl, rfl, rfl⟩, rfl, rfl⟩) (VRL.mono l2 _ _ hf3)) ?_)
                intro ρ3 u w3 hle3 hv3 R3 k3
                obtain ⟨b, k, r', q, e1, e2, e3, e4, e5, e6, e7, e8, e9, e10, e11, e12⟩ := R3.objs A1.next _ hg3
                have hb := hle3 _ _ l3
                rw [e1] at hb; cases hb
                have hO := R3.setObj (x' := .loop { r' with state := .exhausted }) (o1 := .loop { r with state := .exhausted } T0) hg3 e1 e2 e3
                  ⟨_, _, { r' with state := .exhausted }, q, e1, e2, heap_set e3, rfl, e5, e6, e7, e8, e9, e10, e11, e12⟩
                refine ⟨r'.pending, { w3 with heap := w3.heap.setIfInBounds Lr (.loop { r' with state := .exhausted }) }, ?_, ?_⟩
                · have hst' : (r'.state == .busy) = false := by
                    rw [e4]
                    cases hs : r.state <;> first | rfl | exact absurd hs hst
                  simp only [Instr.endLoop, Sem.run_bind, run_getLoop e3, Result.andThen_ok, hst', Bool.false_eq_true, if_false, Sem.run_bind, run_setObj' e3 (fun _ _ _ => by simp)]
                  rfl
                · have := hK ρ3 { a with defers := mark ++ a.defers } _ (Ren.le_trans l2 hle3) hO.1 ((l5.trans k3).trans hO.2) (hT.mono (Ren.le_trans l2 hle3)) (l6.mono hle3) (hro.mono (Ren.le_trans l2 hle3))
                  rw [← e5] at this
                  revert this
                  cases r'.pending <;> exact id
              split at h
              · cases h
              · rename_i hst
                split at h
                · rename_i hp
                  cases h
                  intro ρ a w ro' Q R hT hok hd hro hQ
                  refine main (fun _ _ _ => True) hst ρ a w ro' Q R hT hok hd hro ?_
                  intro ρ4 a4 w4 h1 h2 h3 h4 h5 h6
                  rw [hp]
                  exact hQ ρ4 a4 w4 h1 h2 h3 h4 hok h5
                · rename_i c hp
                  have hc := hS B w0 _ _ h
                  cases o with
                  | val v A => exact hc
                  | code x T' ds2 A' =>
                    intro ρ a w ro' Q R hT hok hd hro hQ
                    refine main (fun _ _ _ => True) hst ρ a w ro' Q R hT hok hd hro ?_
                    intro ρ4 a4 w4 h1 h2 h3 h4 h5 h6
                    rw [hp]
                    exact hc ρ4 a4 w4 ro' Q h2 h4 hok h5 h6 (fun ρ' a' w' k1 k2 k3 k4 k5 k6 => hQ ρ' a' w' (Ren.le_trans h1 k1) k2 (h3.trans k3) k4 k5 k6)
            · cases h
          · cases h
        · cases h
      · cases h
    · cases h
  · cases h
end
end Go.Ex
set_option linter.unusedVariables false
set_option linter.unusedSimpArgs false
namespace Go.Ex
open Go Go.RowKit
section
variable {E : Env} {B : Nat} {w0 : Base} {w w' : World} {ρ ρ' : Ren} {A A' : AH} {T T' : TT} {a : Act} {P : Program} {G : Nat} {F : Fence} {n : Nat} {Q : Exit → Act → World → Prop}

theorem sound_region {self : Self} (hS : Sound E self) (hE : EnvOk E) {id : Nat} {ops : Array Oper} {ro : Option Nat} {ds : List Nat} {o : Out}
    (h : regionStep self E ops.toList T ds A = some o) : TaskOk E B w0 (.code (.region id ops false) ro T ds A) o := by
  unfold regionStep at h
  split at h
  · rename_i T' A' hr
    cases h
    intro ρ a w ro' Q R hT hok hd hro hQ
    refine wpIn_region ?_
    have := sound_opsRun hS hE ops ro' (Q := Q) ops.toList 0 (by simp) T A a w ρ T' A' R hT hok hr (fun ρ' a' w' h1 h2 h3 h4 h5 h6 => hQ ρ' a' w' h1 h2 h3 h4 h5 (by rw [h6]; exact hd.mono h1))
    rw [List.range_eq_range']
    rw [← Array.length_toList]; exact this
  · cases h

theorem sound_seqLike {self : Self} (hS : Sound E self) {b c : Code} {ro : Option Nat} {ds : List Nat} {o : Out} (r : Option Out) (hr : ∀ o', r = some o' → TaskOk E B w0 (.code c ro T ds A) o') (h : seqStep self ro b r = some o) :
    TaskOk E B w0 (.code (.seq c b) ro T ds A) o := by
  unfold seqStep at h
  split at h
  · rename_i T1 ds1 A1
    have h1 := hr _ rfl
    have h2 := hS B w0 _ _ h
    cases o with
    | val v A => exact h2
    | code x T' ds' A' =>
      intro ρ a w ro' Q R hT hok hd hro hQ
      refine wpIn_seq (h1 ρ a w ro' _ R hT hok hd hro ?_)
      intro ρ1 a1 w1 k1 k2 k3 k4 k5 k6
      exact h2 ρ1 a1 w1 ro' Q k2 k4 k5 k6 (hro.mono k1) (fun ρ' a' w' j1 j2 j3 j4 j5 j6 => hQ ρ' a' w' (Ren.le_trans k1 j1) j2 (k3.trans j3) j4 j5 j6)
  · rename_i hne
    have h1 := hr _ h
    cases o with
    | val v A => exact h1
    | code x T' ds' A' =>
      intro ρ a w ro' Q R hT hok hd hro hQ
      refine wpIn_seq (h1 ρ a w ro' _ R hT hok hd hro ?_)
      intro ρ1 a1 w1 k1 k2 k3 k4 k5 k6
      have := hQ ρ1 a1 w1 k1 k2 k3 k4 k5 k6
      cases x with
      | normal => exact absurd h (hne _ _ _)
      | ret => exact this
      | exit id => exact this

theorem sound_blockStep {id : Nat} {c : Code} {ro : Option Nat} {ds : List Nat} {o : Out} (r : Option Out) (hr : ∀ o', r = some o' → TaskOk E B w0 (.code c ro T ds A) o') (h : blockStep id r = some o) :
    TaskOk E B w0 (.code (.block id c) ro T ds A) o := by
  unfold blockStep at h
  split at h
  · rename_i id' T1 ds1 A1
    have h1 := hr _ rfl
    split at h
    · rename_i he
      obtain rfl := Nat.eq_of_beq_eq_true he
      cases h
      intro ρ a w ro' Q R hT hok hd hro hQ
      refine wpIn_block (h1 ρ a w ro' _ R hT hok hd hro ?_)
      intro ρ1 a1 w1 k1 k2 k3 k4 k5 k6
      have := hQ ρ1 a1 w1 k1 k2 k3 k4 k5 k6
      simpa [exO, Exit.inBlock] using this
    · rename_i he
      cases h
      intro ρ a w ro' Q R hT hok hd hro hQ
      refine wpIn_block (h1 ρ a w ro' _ R hT hok hd hro ?_)
      intro ρ1 a1 w1 k1 k2 k3 k4 k5 k6
      have := hQ ρ1 a1 w1 k1 k2 k3 k4 k5 k6
      have hne : ¬ id' = id := fun e => by subst e; rw [Nat.beq_refl] at he; cases he
      simpa [exO, Exit.inBlock, hne] using this
  · rename_i hne
    have h1 := hr _ h
    cases o with
    | val v A => exact h1
    | code x T' ds' A' =>
      intro ρ a w ro' Q R hT hok hd hro hQ
      refine wpIn_block (h1 ρ a w ro' _ R hT hok hd hro ?_)
      intro ρ1 a1 w1 k1 k2 k3 k4 k5 k6
      have := hQ ρ1 a1 w1 k1 k2 k3 k4 k5 k6
      cases x with
      | normal => exact this
      | ret => exact this
      | exit id' => exact absurd h (hne _ _ _ _)

/-- **THE EXECUTOR TELLS THE TRUTH.** -/
theorem sound_ex (hE : EnvOk E) : ∀ f, Sound E (ex E f) := by
  intro f
  induction f using Nat.strongRecOn with
  | _ f ih =>
    cases f with
    | zero => intro B w0 k o h; cases h
    | succ f =>
      intro B w0 k o h
      have hS : Sound E (ex E f) := ih f (Nat.lt_succ_self f)
      have hcode : ∀ {c : Code} {ro : Option Nat} {T : TT} {ds : List Nat} {A : AH} (o' : Out), ex E f (.code c ro T ds A) = some o' → TaskOk E B w0 (.code c ro T ds A) o' := fun o' h => hS B w0 _ _ h
      cases k with
      | fn g args A => exact sound_fnStep hS h
      | round l args A => exact sound_roundStep hS h
      | code c ro T ds A =>
        have h : codeStep (ex E f) E c ro T ds A = some o := h
        unfold codeStep at h
        split at h
        · cases h
          intro ρ a w ro' Q R hT hok hd hro hQ
          exact wpIn_skip (hQ ρ a w (Ren.le_refl ρ) R (Keep.refl A) hT hok hd)
        · exact sound_region hS hE h
        · obtain ⟨T', A', rfl⟩ := drawStep_code h
          intro ρ a w ro' Q R hT hok hd hro hQ
          exact sound_draw hS hE _ _ ro' (Q := Q) R hT hok h (fun ρ' a' w' h1 h2 h3 h4 h5 h6 => hQ ρ' a' w' h1 h2 h3 h4 h5 (by rw [h6]; exact hd.mono h1))
        · exact sound_seqLike hS _ hcode h
        · rename_i x y z _
          unfold condStep at h
          have go : ∀ {t : Bool}, evO E T x = some (.bool t) → ex E f (.code (if t then y else z) ro T ds A) = some o → TaskOk E B w0 (.code (.cond x y z) ro T ds A) o := by
            intro t ht hh
            have h1 := hcode _ hh
            cases o with
            | val v A => exact h1
            | code x T' ds' A' =>
              intro ρ a w ro' Q R hT hok hd hro hQ
              exact wpIn_cond (t := t) (evO_VR R hT hok ht) (h1 ρ a w ro' Q R hT hok hd hro hQ)
          split at h
          · rename_i ht; exact go (t := true) ht h
          · rename_i ht; exact go (t := false) ht h
          · cases h
        · exact sound_blockStep _ hcode h
        · -- a loop
          rename_i c _
          have key : ∀ {x : AX} {T' : TT} {ds' : List Nat} {A' : AH}, seqStep (ex E f) ro (.loop c) (ex E f (.code c ro T ds A)) = some (.code x T' ds' A') → TaskOk E B w0 (.code (.loop c) ro T ds A) (.code x T' ds' A') := by
            intro x T' ds' A' h ρ a w ro' Q R hT hok hd hro hQ
            refine wpIn_loop_count (fun j a' w' => j ≤ f + 1 ∧ ∃ ρ1 T1 ds1 A1, ex E j (.code (.loop c) ro T1 ds1 A1) = some (.code x T' ds' A') ∧ Ren.le ρ ρ1 ∧ Rel E.P E.G B w0 ρ1 A1 w' ∧ Keep A A1 ∧ TTR ρ1 T1 a'.tmps ∧ T1.ok ∧ DsR ρ1 ds1 a'.defers) (f + 1)
              ⟨Nat.le_refl _, ρ, T, ds, A, h, Ren.le_refl ρ, R, Keep.refl A, hT, hok, hd⟩ (fun a w h => by obtain ⟨_, _, _, _, _, h, _⟩ := h; cases h) ?_
            intro j a1 w1 hI
            obtain ⟨hj, ρ1, T1, ds1, A1, hex, hle, R1, k1, hT1, hok1, hd1⟩ := hI
            have hSj : Sound E (ex E j) := ih j (by omega)
            have hex : seqStep (ex E j) ro (.loop c) (ex E j (.code c ro T1 ds1 A1)) = some (.code x T' ds' A') := hex
            unfold seqStep at hex
            split at hex
            · rename_i T2 ds2 A2 hb
              refine hSj B w0 _ _ hb ρ1 a1 w1 ro' _ R1 hT1 hok1 hd1 (hro.mono hle) ?_
              intro ρ2 a2 w2 e1 e2 e3 e4 e5 e6
              exact ⟨by omega, ρ2, T2, ds2, A2, hex, Ren.le_trans hle e1, e2, k1.trans e3, e4, e5, e6⟩
            · rename_i hne
              refine hSj B w0 _ _ hex ρ1 a1 w1 ro' _ R1 hT1 hok1 hd1 (hro.mono hle) ?_
              intro ρ2 a2 w2 e1 e2 e3 e4 e5 e6
              have := hQ ρ2 a2 w2 (Ren.le_trans hle e1) e2 (k1.trans e3) e4 e5 e6
              cases x with
              | normal => exact absurd hex (hne _ _ _)
              | ret => exact this
              | exit id => exact this
          cases o with
          | code x T' ds' A' => exact key h
          | val v A' =>
            have := sound_seqLike hS (B := B) (w0 := w0) _ (hcode (c := c)) h
            exact this
        · exact sound_rangeRun hS hE h
        · cases h
          intro ρ a w ro' Q R hT hok hd hro hQ
          exact wpIn_exit (hQ ρ a w (Ren.le_refl ρ) R (Keep.refl A) hT hok hd)
        · -- a scope
          have h1 := hcode _ h
          cases o with
          | val v A => exact h1
          | code x T' ds' A' =>
            intro ρ a w ro' Q R hT hok hd hro hQ
            refine wpIn_scope_straight (h1 ρ a w ro' _ R hT hok hd hro ?_)
            intro ρ1 a1 w1 k1 k2 k3 k4 k5 k6
            exact ⟨(fun l e => by cases x <;> cases e), hQ ρ1 a1 w1 k1 k2 k3 k4 k5 k6⟩
        · cases h
          intro ρ a w ro' Q R hT hok hd hro hQ
          exact wpIn_label (hQ ρ a w (Ren.le_refl ρ) R (Keep.refl A) hT hok hd)
        · cases h
          intro ρ a w ro' Q R hT hok hd hro hQ
          exact wpIn_ret (hQ ρ a w (Ren.le_refl ρ) R (Keep.refl A) hT hok hd)
        · cases h
        · cases h

/-- **A FUNCTION's CONTRACT OUT OF A RUN.** -/
theorem calls_of_ex (hE : EnvOk E) {f : Nat} {g : FuncId} {args us : List Value} {A A' : AH} {v : Value} (h : ex E f (.fn g args A) = some (.val v A')) {ρ : Ren} (R : Rel E.P E.G B w0 ρ A w) (hv : VRL ρ args us) {RR : Ending → World → Prop}
    (hR : ∀ ρ' u w', Ren.le ρ ρ' → VR ρ' v u → Rel E.P E.G B w0 ρ' A' w' → Keep A A' → RR (.returned u) w') : Calls E.P g us.toArray w RR :=
  callsIn_wide.1 (sound_ex hE f B w0 _ _ h ρ us w RR R hv hR)
end
end Go.Ex
set_option linter.unusedVariables false
set_option linter.unusedSimpArgs false
namespace Go.Ex
open Go Go.RowKit

/-! ### Where a run begins: what is known of the package-level variables -/
def startA (G : Nat) : List (Nat × List Value × TypeId) → AH
  | [] => { t := .leaf, next := G, low := bigLow }
  | (g, c, e) :: r => { startA G r with t := (startA G r).t.set 40 g (some (.cells c e false false)) }
def startR (G : Nat) : Ren := fun g => if g < G then some (g, 0, 0) else none
theorem startA_next (G : Nat) : ∀ l, (startA G l).next = G
  | [] => rfl
  | (_, _, _) :: r => startA_next G r
theorem startA_low (G : Nat) : ∀ l, (startA G l).low = bigLow
  | [] => rfl
  | (_, _, _) :: r => startA_low G r
theorem startA_get (G : Nat) (hG : G < 1099511627775) : ∀ l : List (Nat × List Value × TypeId), (∀ x ∈ l, x.1 < G) → ∀ id o, (startA G l).get id = some o → ∃ c e, (id, c, e) ∈ l ∧ o = .cells c e false false
  | [], _, id, o, h => by simp [startA, AH.get, Trie.get_leaf] at h
  | (g, c, e) :: r, hl, id, o, h => by
    have hg : g < G := hl (g, c, e) (by simp)
    simp only [startA, AH.get] at h
    rw [Trie.get_set' _ _ _ _ _ (by omega)] at h
    split at h
    · rename_i he
      cases h; subst he
      exact ⟨c, e, by simp, rfl⟩
    · obtain ⟨c', e', h1, h2⟩ := startA_get G hG r (fun x hx => hl x (by simp [hx])) id o h
      exact ⟨c', e', by simp [h1], h2⟩
theorem start_rel {P : Program} {G : Nat} {W : World} {l : List (Nat × List Value × TypeId)} (hG : G < 1099511627775) (hsz : G ≤ W.heap.size) (hl : ∀ x ∈ l, x.1 < G ∧ plainL x.2.1 = true ∧ ∃ cs fr, W.heap[x.1]? = some (.cells cs x.2.2 fr) ∧ cs.toList = x.2.1) :
    Rel P G W.heap.size ⟨W, fun _ => False⟩ (startR G) (startA G l) W := by
  refine ⟨⟨rfl, rfl, rfl, Nat.le_refl _, fun _ _ => rfl⟩, Nat.le_refl _, by rw [startA_next]; exact Nat.le_refl _, ?_, ?_, ?_, ?_, by rw [startA_next]; exact hG, fun b h => h.elim, fun _ _ _ _ _ h => h⟩
  · intro id o h
    obtain ⟨c, e, hm, rfl⟩ := startA_get G hG l (fun x hx => (hl x hx).1) id o h
    obtain ⟨h1, h2, cs, fr, h3, h4⟩ := hl _ hm
    simp only at h1 h2 h3 h4
    refine ⟨id, 0, cs, fr.1, fr.2, by simp [startR, h1], ⟨h3, by rw [← h4]; simp, ?_, fun _ => by rw [← h4]; simp, (fun h => by cases h), (fun h => by cases h)⟩⟩
    have hv : VRL (startR G) c cs.toList := by rw [h4]; exact VRL.plain _ h2
    intro i v hi
    obtain ⟨x, hx, hr⟩ := hv.get i v hi
    exact ⟨x, by rw [← Array.getElem?_toList]; exact hx, hr⟩
  · intro i j x y hi hj hx hy hB hxy
    simp only [startR] at hx hy
    split at hx <;> cases hx
    split at hy <;> cases hy
    exact hxy
  · intro id h
    rw [startA_next] at h
    simp only [startR]
    rw [if_neg (by omega)]
  · intro g hg
    exact ⟨0, by simp [startR, hg]⟩

/-- A run that ends in 'true' and turns nothing elder. -/
def trueRun : Option Out → Bool
  | some (.val (.bool true) _) => true
  | _ => false
theorem trueRun_spec {o : Option Out} (h : trueRun o = true) : ∃ A', o = some (.val (.bool true) A') := by
  unfold trueRun at h
  split at h
  · exact ⟨_, rfl⟩
  · cases h

/-- **A CLOSED RUN**: a function without parameters that comes to 'true'. -/
theorem calls_true {E : Env} (hE : EnvOk E) {f g : Nat} {l : List (Nat × List Value × TypeId)} (h : trueRun (ex E f (.fn g [] (startA E.G l))) = true) {W : World} (hG : E.G < 1099511627775) (hsz : E.G ≤ W.heap.size)
    (hl : ∀ x ∈ l, x.1 < E.G ∧ plainL x.2.1 = true ∧ ∃ cs fr, W.heap[x.1]? = some (.cells cs x.2.2 fr) ∧ cs.toList = x.2.1) :
    Calls E.P g #[] W fun e w' => e = .returned (.bool true) ∧ Below W.heap.size W w' := by
  obtain ⟨A', hA⟩ := trueRun_spec h
  refine calls_of_ex hE hA (start_rel (W := W) hG hsz hl) (us := []) rfl ?_
  intro ρ' u w' _ hv R' _
  exact ⟨by rw [show u = .bool true from hv], R'.below⟩
end Go.Ex
