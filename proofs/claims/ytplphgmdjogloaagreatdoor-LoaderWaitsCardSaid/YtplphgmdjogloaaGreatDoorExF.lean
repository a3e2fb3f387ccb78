/- Lemmas: an executor over the program's code and its soundness, under the conditions that each theorem names. -/
import Derived.Test.YtplphgmdjogloaaGreatDoorExE
set_option linter.unusedVariables false
set_option linter.unusedSimpArgs false
set_option linter.unusedVariables false
set_option linter.unusedSimpArgs false
namespace Go.Ex
open Go Go.RowKit
section
variable {E : Env} {B : Nat} {w0 : Base}

/-- How many of the first that change the memory. -/
def fcnt (is : List Res) (p : Nat) : Nat := ((is.take p).filter (·.w)).length
theorem fcnt_zero (is : List Res) : fcnt is 0 = 0 := by simp [fcnt]
theorem fcnt_succ (x : Res) (is : List Res) (p : Nat) : fcnt (x :: is) (p + 1) = (if x.w then 1 else 0) + fcnt is p := by
  unfold fcnt
  cases h : x.w with
  | true => simp [h]; omega
  | false => simp [h]
def edsts (l : List Ent) : List Nat := dstsOf (l.map (·.o))
theorem mem_edsts {l : List Ent} {d : Nat} : d ∈ edsts l ↔ ∃ (p : Nat) (e : Ent), l[p]? = some e ∧ e.o.dst = some d := by
  unfold edsts
  rw [mem_dstsOf]
  constructor
  · rintro ⟨i, o, hi, hd⟩
    rw [List.getElem?_map] at hi
    cases he : l[i]? with
    | none => rw [he] at hi; cases hi
    | some e => rw [he] at hi; cases hi; exact ⟨i, e, he, hd⟩
  · rintro ⟨p, e, he, hd⟩
    exact ⟨p, e.o, by rw [List.getElem?_map, he]; rfl, hd⟩
theorem edsts_cons_not {e : Ent} {l : List Ent} {k : Nat} (h : k ∉ edsts (e :: l)) : e.o.dst ≠ some k ∧ k ∉ edsts l :=
  ⟨fun hd => h (mem_edsts.2 ⟨0, e, rfl, hd⟩), fun hm => h (by
    obtain ⟨p, x, hp, hd⟩ := mem_edsts.1 hm
    exact mem_edsts.2 ⟨p + 1, x, by simpa using hp, hd⟩)⟩
theorem put_other {T : TT} (hok : T.ok) {d : Option Nat} {k : Nat} (h : d ≠ some k) (v : Value) : (T.put d v).get k = T.get k := by
  cases d with
  | none => rfl
  | some d => rw [TT.get_put hok.1, if_neg (fun q => h (by rw [q.2]))]

/-- A main operation, in our order. -/
structure MainAt (me : Self) (E : Env) (all : List Oper) (pre : List Ent) (n : Nat) (T1 : TT) (is : List Res) (As : List AH) (p : Nat) (e : Ent) (Tp : TT) (Ap : AH) (v : Value) (b : Bool) : Prop where
  size : Tp.n = n
  same : ∀ k, k ∉ edsts (pre.drop p) → T1.get k = Tp.get k
  flag : is[p]? = some ⟨e.i, v, b⟩
  mem : As[fcnt is p]? = some Ap
  step : (wantedT all e.o Tp = false ∧ v = undef ∧ b = false) ∨ (wantedT all e.o Tp = true ∧ ∃ A1, opRun me E e.o Tp Ap = some (v, A1) ∧ (b = false → A1 = none) ∧ (b = true → ∃ An, A1 = some An ∧ As[fcnt is p + 1]? = some An))
  out : ∀ d, e.o.dst = some d → d < n → d ∉ edsts (pre.drop (p + 1)) → T1.get d = v

theorem canonRun_head {self : Self} {all : List Oper} : ∀ (l : List Ent) {T : TT} {A : AH} {AX : Option (Nat × AH)} {T' : TT} {A' : AH} {is : List Res} {As Xs : List AH}, canonRun self E all l T A AX = some (T', A', is, As, Xs) → As[0]? = some A
  | [], T, A, AX, T', A', is, As, Xs, h => by cases h; rfl
  | ⟨i, o, .main⟩ :: rest, T, A, AX, T', A', is, As, Xs, h => by
    simp only [canonRun] at h
    split at h
    · split at h
      · rename_i hr; cases h; exact canonRun_head rest hr
      · cases h
    · split at h
      · split at h
        · rename_i hr; cases h; exact canonRun_head rest hr
        · cases h
      · split at h
        · cases h; rfl
        · cases h
      · cases h
  | ⟨i, o, .side⟩ :: rest, T, A, AX, T', A', is, As, Xs, h => by
    simp only [canonRun] at h
    split at h
    · split at h
      · split at h
        · rename_i hr; cases h; exact canonRun_head rest hr
        · cases h
      · cases h
    · cases h
  | ⟨i, o, .join⟩ :: rest, T, A, AX, T', A', is, As, Xs, h => by
    simp only [canonRun] at h
    split at h
    · cases h
    · split at h
      · cases h
      · split at h
        · split at h
          · cases h; rfl
          · cases h
        · split at h
          · split at h
            · cases h; rfl
            · cases h
          · cases h

/-- The main operations ahead of the rest. -/
theorem canon_main {self : Self} {all : List Oper} (l2 : List Ent) : ∀ (pre : List Ent) (T : TT) (A : AH) (AX : Option (Nat × AH)) (T' : TT) (A' : AH) (is : List Res) (As Xs : List AH), (∀ e ∈ pre, e.k = .main) → T.ok →
    canonRun self E all (pre ++ l2) T A AX = some (T', A', is, As, Xs) →
    ∃ T1 A1 is1 As1 is2 As2, canonRun self E all l2 T1 A1 AX = some (T', A', is2, As2, Xs) ∧ is = is1 ++ is2 ∧ As = As1 ++ As2 ∧ is1.length = pre.length ∧ As1.length = fcnt is pre.length ∧ T1.n = T.n ∧ T1.ok ∧
      (∀ k, k ∉ edsts pre → T1.get k = T.get k) ∧ As[0]? = some A ∧ ∀ p e, pre[p]? = some e → ∃ Tp Ap v b, MainAt self E all pre T.n T1 is As p e Tp Ap v b
  | [], T, A, AX, T', A', is, As, Xs, _, hok, h => by
    exact ⟨T, A, [], [], is, As, h, rfl, rfl, rfl, by simp [fcnt], rfl, hok, fun _ _ => rfl, canonRun_head l2 h, fun p e h => by simp at h⟩
  | ⟨i, o, kd⟩ :: rest, T, A, AX, T', A', is, As, Xs, hk, hok, h => by
    obtain rfl : kd = .main := hk ⟨i, o, kd⟩ (by simp)
    have hk' : ∀ e ∈ rest, e.k = .main := fun e he => hk e (by simp [he])
    have main : ∀ (v : Value) (b : Bool) (Az : AH) (isz : List Res) (Asz : List AH), canonRun self E all (rest ++ l2) (T.put o.dst v) Az AX = some (T', A', isz, Asz, Xs) → is = ⟨i, v, b⟩ :: isz → As = (if b then A :: Asz else Asz) → (b = false → Az = A) →
        ((wantedT all o T = false ∧ v = undef ∧ b = false) ∨ (wantedT all o T = true ∧ ∃ Ax, opRun self E o T A = some (v, Ax) ∧ (b = false → Ax = none) ∧ (b = true → Ax = some Az))) →
        ∃ T1 A1 is1 As1 is2 As2, canonRun self E all l2 T1 A1 AX = some (T', A', is2, As2, Xs) ∧ is = is1 ++ is2 ∧ As = As1 ++ As2 ∧ is1.length = (⟨i, o, .main⟩ :: rest : List Ent).length ∧ As1.length = fcnt is (⟨i, o, .main⟩ :: rest : List Ent).length ∧ T1.n = T.n ∧ T1.ok ∧
          (∀ k, k ∉ edsts (⟨i, o, .main⟩ :: rest) → T1.get k = T.get k) ∧ As[0]? = some A ∧ ∀ p e, (⟨i, o, .main⟩ :: rest : List Ent)[p]? = some e → ∃ Tp Ap v b, MainAt self E all (⟨i, o, .main⟩ :: rest) T.n T1 is As p e Tp Ap v b := by
      intro v b Az isz Asz hrun his hAs hAz hstep
      obtain ⟨T1, A1, is1, As1, is2, As2, h1, h2, h3, h4, h5, h6, h7, h8, h9, h10⟩ := canon_main l2 rest _ _ _ _ _ _ _ _ hk' (TT.put_ok hok _ _) hrun
      rw [TT.put_n] at h6
      have hAs' : ∀ j, As[(if b then 1 else 0) + j]? = Asz[j]? := by
        intro j; rw [hAs]; cases b with
        | true => simp [Nat.add_comm 1 j]
        | false => simp
      have hz : As[0]? = some A := by
        cases b with
        | true => rw [hAs]; rfl
        | false => have := hAs' 0; simp only [Bool.false_eq_true, if_false, Nat.add_zero] at this; rw [this, h9, hAz rfl]
      refine ⟨T1, A1, ⟨i, v, b⟩ :: is1, if b then A :: As1 else As1, is2, As2, h1, by rw [his, h2]; rfl, ?_, by simp [h4], ?_, h6, h7, ?_, hz, ?_⟩
      · rw [hAs, h3]; cases b <;> rfl
      · rw [his, List.length_cons, fcnt_succ]
        cases b with
        | true => simp only [if_true, List.length_cons, h5]; omega
        | false => simp only [Bool.false_eq_true, if_false, h5]; omega
      · intro k hkk
        obtain ⟨q1, q2⟩ := edsts_cons_not hkk
        rw [h8 k q2, put_other hok q1]
      · intro p e hp
        cases p with
        | zero =>
          simp at hp; subst hp
          refine ⟨T, A, v, b, rfl, ?_, by rw [his]; rfl, by rw [fcnt_zero]; exact hz, ?_, ?_⟩
          · intro k hkk
            rw [List.drop_zero] at hkk
            obtain ⟨q1, q2⟩ := edsts_cons_not hkk
            rw [h8 k q2, put_other hok q1]
          · rcases hstep with hs | ⟨hw, Ax, hop, hn, hs⟩
            · exact .inl hs
            · refine .inr ⟨hw, Ax, hop, hn, fun hb => ⟨Az, hs hb, ?_⟩⟩
              subst hb
              have := hAs' 0
              simp only [if_true, Nat.add_zero] at this
              rw [fcnt_zero, Nat.zero_add, this, h9]
          · intro d hd hlt hnot
            have hnot : d ∉ edsts rest := by simpa using hnot
            have hd : o.dst = some d := hd
            rw [h8 d hnot, hd, TT.get_put hok.1, if_pos ⟨hlt, rfl⟩]
        | succ p =>
          obtain ⟨Tp, Ap, v', b', q⟩ := h10 p e (by simpa using hp)
          refine ⟨Tp, Ap, v', b', by rw [q.size, TT.put_n], fun k hkk => q.same k (by simpa using hkk), by rw [his]; simpa using q.flag, ?_, ?_, ?_⟩
          · rw [his, fcnt_succ, hAs']; exact q.mem
          · rcases q.step with hs | ⟨hw, Ax, hop, hn, hs⟩
            · exact .inl hs
            · refine .inr ⟨hw, Ax, hop, hn, fun hb => ?_⟩
              obtain ⟨An, g1, g2⟩ := hs hb
              refine ⟨An, g1, ?_⟩
              rw [his, fcnt_succ, Nat.add_assoc, hAs']; exact g2
          · intro d hd hlt hnot
            exact q.out d hd (by rw [TT.put_n]; exact hlt) (by simpa using hnot)
    simp only [List.cons_append, canonRun] at h
    split at h
    · rename_i hw
      split at h
      · rename_i hr
        cases h
        exact main undef false A _ _ hr rfl rfl (fun _ => rfl) (.inl ⟨hw, rfl, rfl⟩)
      · cases h
    · rename_i hw
      split at h
      · rename_i v hop
        split at h
        · rename_i hr
          cases h
          exact main v false A _ _ hr rfl rfl (fun _ => rfl) (.inr ⟨hw, none, hop, (fun _ => rfl), (fun h => by cases h)⟩)
        · cases h
      · rename_i v A1 hop
        split at h
        · rename_i hr
          cases h
          exact main v true A1 _ _ hr rfl rfl (fun h => by cases h) (.inr ⟨hw, some A1, hop, (fun h => by cases h), (fun _ => rfl)⟩)
        · cases h
      · cases h
end
end Go.Ex
set_option linter.unusedVariables false
set_option linter.unusedSimpArgs false
namespace Go.Ex
open Go Go.RowKit
section
variable {E : Env} {B : Nat} {w0 : Base}

/-- A side operation, in our order. -/
structure SideAt (me : Self) (E : Env) (sd : List Ent) (n m : Nat) (T1 : TT) (is : List Res) (Xs : List AH) (p : Nat) (e : Ent) (Tp : TT) (X : AH) (v : Value) (Y : Option AH) : Prop where
  size : Tp.n = n
  same : ∀ k, k ∉ edsts (sd.drop p) → T1.get k = Tp.get k
  flag : is[p]? = some ⟨e.i, v, false⟩
  mem : Xs[p]? = some X
  run : opRun me E e.o Tp X = some (v, Y)
  next : Xs[p + 1]? = some (orA X Y)
  val : sideV m v = true
  out : ∀ d, e.o.dst = some d → d < n → d ∉ edsts (sd.drop (p + 1)) → T1.get d = v

theorem canon_sides {self : Self} {all : List Oper} (l2 : List Ent) {A : AH} {m : Nat} : ∀ (sd : List Ent) (T : TT) (X : AH) (T' : TT) (A' : AH) (is : List Res) (As Xs : List AH), (∀ e ∈ sd, e.k = .side) → T.ok →
    canonRun self E all (sd ++ l2) T A (some (m, X)) = some (T', A', is, As, Xs) →
    ∃ T1 X1 is1 Xs1 is2 Xs2, canonRun self E all l2 T1 A (some (m, X1)) = some (T', A', is2, As, Xs2) ∧ is = is1 ++ is2 ∧ is1.length = sd.length ∧ Xs1.length = sd.length + 1 ∧ Xs1[0]? = some X ∧ Xs1[sd.length]? = some X1 ∧ T1.n = T.n ∧ T1.ok ∧
      (∀ x ∈ is1, x.w = false) ∧ (∀ k, k ∉ edsts sd → T1.get k = T.get k) ∧ ∀ p e, sd[p]? = some e → ∃ Tp Xp v Y, SideAt self E sd T.n m T1 is1 Xs1 p e Tp Xp v Y
  | [], T, X, T', A', is, As, Xs, _, hok, h => by
    exact ⟨T, X, [], [X], is, Xs, h, rfl, rfl, rfl, rfl, rfl, rfl, hok, (fun x hx => by cases hx), fun _ _ => rfl, fun p e h => by simp at h⟩
  | ⟨i, o, kd⟩ :: rest, T, X, T', A', is, As, Xs, hk, hok, h => by
    obtain rfl : kd = .side := hk ⟨i, o, kd⟩ (by simp)
    have hk' : ∀ e ∈ rest, e.k = .side := fun e he => hk e (by simp [he])
    simp only [List.cons_append, canonRun, Option.getD_some] at h
    split at h
    · rename_i v Y hop
      split at h
      · rename_i hsv
        split at h
        · rename_i hr
          cases h
          obtain ⟨T1, X1, is1, Xs1, is2, Xs2, h1, h2, h3, h4, h5, h6, h7, h8, h9, h10, h11⟩ := canon_sides l2 rest _ _ _ _ _ _ _ hk' (TT.put_ok hok _ _) hr
          rw [TT.put_n] at h7
          refine ⟨T1, X1, ⟨i, v, false⟩ :: is1, X :: Xs1, is2, Xs2, h1, by rw [h2]; rfl, by simp [h3], by simp [h4], rfl, by simpa using h6, h7, h8, ?_, ?_, ?_⟩
          · intro x hx
            rcases List.mem_cons.1 hx with rfl | hx
            · rfl
            · exact h9 x hx
          · intro k hkk
            obtain ⟨q1, q2⟩ := edsts_cons_not hkk
            rw [h10 k q2, put_other hok q1]
          · intro p e hp
            cases p with
            | zero =>
              simp at hp; subst hp
              refine ⟨T, X, v, Y, rfl, ?_, rfl, rfl, hop, by simpa using h5, hsv, ?_⟩
              · intro k hkk
                rw [List.drop_zero] at hkk
                obtain ⟨q1, q2⟩ := edsts_cons_not hkk
                rw [h10 k q2, put_other hok q1]
              · intro d hd hlt hnot
                have hnot : d ∉ edsts rest := by simpa using hnot
                have hd : o.dst = some d := hd
                rw [h10 d hnot, hd, TT.get_put hok.1, if_pos ⟨hlt, rfl⟩]
            | succ p =>
              obtain ⟨Tp, Xp, v', Y', q⟩ := h11 p e (by simpa using hp)
              exact ⟨Tp, Xp, v', Y', by rw [q.size, TT.put_n], fun k hkk => q.same k (by simpa using hkk), by simpa using q.flag, by simpa using q.mem, q.run, by simpa using q.next, q.val,
                fun d hd hlt hnot => q.out d hd (by rw [TT.put_n]; exact hlt) (by simpa using hnot)⟩
        · cases h
      · cases h
    · cases h
end
end Go.Ex
set_option linter.unusedVariables false
set_option linter.unusedSimpArgs false
namespace Go.Ex
open Go Go.RowKit
section
variable {P : Program} {G B : Nat} {w0 : Base} {w : World} {ρ ρX : Ren} {A X J : AH}

theorem joinGo_spec (X : AH) (hX : X.next < 1099511627775) : ∀ (f id : Nat) (A J : AH), id ≤ X.next → joinGo X f id A = some J →
    J.next = X.next ∧ J.low = A.low ∧ (∀ j, J.get j = if id ≤ j ∧ j < X.next then X.get j else A.get j) ∧ ∀ j, id ≤ j → j < X.next → sideObj (X.get j) = true
  | 0, _, _, _, _, h => by cases h
  | f + 1, id, A, J, hid, h => by
    simp only [joinGo] at h
    split at h
    · rename_i hlt
      have hlt := blt_false hlt
      cases h
      refine ⟨rfl, rfl, fun j => ?_, fun j h1 h2 => by omega⟩
      rw [if_neg (by omega)]; rfl
    · rename_i hlt
      have hlt := blt_true hlt
      split at h
      · rename_i hs
        obtain ⟨h1, h2, h3, h4⟩ := joinGo_spec X hX f (id + 1) _ J hlt h
        refine ⟨h1, h2, fun j => ?_, fun j g1 g2 => ?_⟩
        · rw [h3 j]
          have hget : AH.get { A with t := A.t.set 40 id (X.get id) } j = if j = id then X.get id else A.get j := by
            simp only [AH.get]; rw [Trie.get_set' _ _ _ _ _ (by omega)]
          by_cases e : j = id
          · subst e
            rw [if_neg (by omega), hget, if_pos rfl, if_pos ⟨Nat.le_refl _, hlt⟩]
          · by_cases g : id + 1 ≤ j ∧ j < X.next
            · rw [if_pos g, if_pos ⟨by omega, g.2⟩]
            · rw [if_neg g, hget, if_neg e, if_neg (by omega)]
        · by_cases e : j = id
          · subst e; exact hs
          · exact h4 j (by omega) g2
      · cases h

/-- **THE JOIN**: two memories over one world become one. -/
theorem join_rel (R : Rel P G B w0 ρ A w) (RX : Rel P G B w0 ρX X w) (hd : Apart ρ A ρX X) (hn : A.next ≤ X.next) (h : joinA A X = some J) :
    ∃ ρJ, Ren.le ρ ρJ ∧ Rel P G B w0 ρJ J w ∧ Keep A J ∧ ∀ v u, sideV A.next v = true → VR ρX v u → VR ρJ v u := by
  unfold joinA at h
  split at h
  · obtain ⟨h1, h2, h3, h4⟩ := joinGo_spec X RX.small _ _ _ _ hn h
    refine ⟨fun id => if id < A.next then ρ id else ρX id, ?_, ?_, ⟨by rw [h1]; exact hn, by rw [h2]; exact Nat.le_refl _, fun id g1 g2 => by rw [h3, if_neg (by omega)]⟩, ?_⟩
    · intro id x hx
      have : id < A.next := by
        rcases Nat.lt_or_ge id A.next with g | g
        · exact g
        · rw [R.fresh id g] at hx; cases hx
      simp only [if_pos this]; exact hx
    · have hle : Ren.le ρ (fun id => if id < A.next then ρ id else ρX id) := by
        intro id x hx
        have : id < A.next := by
          rcases Nat.lt_or_ge id A.next with g | g
          · exact g
          · rw [R.fresh id g] at hx; cases hx
        simp only [if_pos this]; exact hx
      have cases' : ∀ id o, J.get id = some o → (id < A.next ∧ A.get id = some o) ∨ (A.next ≤ id ∧ id < X.next ∧ X.get id = some o) := by
        intro id o g
        rw [h3] at g
        split at g
        · rename_i q; exact .inr ⟨q.1, q.2, g⟩
        · exact .inl ⟨R.id_lt g, g⟩
      refine ⟨R.below, R.sz, by rw [h1]; exact RX.G_next, ?_, ?_, ?_, ?_, by rw [h1]; exact RX.small, R.hid, ?_⟩
      · intro id o g
        rcases cases' id o g with ⟨g1, g2⟩ | ⟨g1, g2, g3⟩
        · exact (R.objs id o g2).mono hle fun _ _ _ => rfl
        · have hs := h4 id g1 g2
          rw [g3] at hs
          cases o with
          | cells c e sl wr =>
            obtain ⟨b, k, cs, lo, hi, e1, e2⟩ := RX.objs id _ g3
            refine ⟨b, k, cs, lo, hi, by simp only [if_neg (show ¬ id < A.next by omega)]; exact e1, ⟨e2.at_, e2.len, ?_, e2.full, e2.cap, e2.own⟩⟩
            have hp : ∀ (l : List Value), plainL l = true → ∀ (i : Nat) (v : Value), l[i]? = some v → plainV v = true := by
              intro l
              induction l with
              | nil => intro _ i v h; simp at h
              | cons x r ih =>
                intro hl i v hv
                simp only [plainL, Bool.and_eq_true] at hl
                cases i with
                | zero => simp at hv; subst hv; exact hl.1
                | succ i => exact ih hl.2 i v (by simpa using hv)
            intro i v hv
            obtain ⟨u, hu, hr⟩ := e2.cells i v hv
            have hpv := hp c hs i v hv
            exact ⟨u, hu, by rw [VR.of_plain hpv hr]; exact VR.plain v hpv⟩
          | map es clock => simp [sideObj] at hs
          | obj o => simp [sideObj] at hs
          | loop r T => simp [sideObj] at hs
      · intro i j x y hi hj hx hy hB hxy
        obtain ⟨oi, hoi⟩ := Option.isSome_iff_exists.1 hi
        obtain ⟨oj, hoj⟩ := Option.isSome_iff_exists.1 hj
        rcases cases' i oi hoi with ⟨i1, i2⟩ | ⟨i1, i2, i3⟩ <;> rcases cases' j oj hoj with ⟨j1, j2⟩ | ⟨j1, j2, j3⟩
        · simp only [if_pos i1] at hx; simp only [if_pos j1] at hy
          exact R.inj i j x y (by rw [i2]; rfl) (by rw [j2]; rfl) hx hy hB hxy
        · simp only [if_pos i1] at hx; simp only [if_neg (show ¬ j < A.next by omega)] at hy
          exact absurd ⟨j, oj, y, j3, hy, hxy⟩ (hd x.1 ⟨i, oi, x, i2, hx, rfl⟩)
        · simp only [if_neg (show ¬ i < A.next by omega)] at hx; simp only [if_pos j1] at hy
          exact absurd ⟨i, oi, x, i3, hx, hxy.symm⟩ (hd y.1 ⟨j, oj, y, j2, hy, rfl⟩)
        · simp only [if_neg (show ¬ i < A.next by omega)] at hx; simp only [if_neg (show ¬ j < A.next by omega)] at hy
          exact RX.inj i j x y (by rw [i3]; rfl) (by rw [j3]; rfl) hx hy hB hxy
      · intro id g
        rw [h1] at g
        simp only [if_neg (show ¬ id < A.next by omega)]
        exact RX.fresh id g
      · intro g hg
        obtain ⟨k, hk⟩ := R.glob g hg
        exact ⟨k, hle _ _ hk⟩
      · intro id o x g hx
        rcases cases' id o g with ⟨g1, g2⟩ | ⟨g1, g2, g3⟩
        · simp only [if_pos g1] at hx; exact R.noimg id o x g2 hx
        · simp only [if_neg (show ¬ id < A.next by omega)] at hx; exact RX.noimg id o x g3 hx
    · intro v u hv hr
      unfold sideV at hv
      split at hv
      · rename_i b o
        have hb := Nat.le_of_ble_eq_true hv
        obtain ⟨a', ⟨x, hx, rfl⟩, rfl⟩ := hr
        exact ⟨_, ⟨x, by simp only [if_neg (show ¬ b < A.next by omega)]; exact hx, rfl⟩, rfl⟩
      · rename_i b o n c
        simp only [Bool.and_eq_true] at hv
        have hb := Nat.le_of_ble_eq_true hv.1
        obtain ⟨a', c', ⟨x, hx, rfl⟩, hc, rfl⟩ := hr
        refine ⟨_, c', ⟨x, by simp only [if_neg (show ¬ b < A.next by omega)]; exact hx, rfl⟩, .inl ⟨hv.2, hc.ex hv.2⟩, rfl⟩
      · rw [VR.of_plain hv hr]; exact VR.plain _ hv
  · cases h
end
end Go.Ex
set_option linter.unusedVariables false
set_option linter.unusedSimpArgs false
namespace Go.Ex
open Go Go.RowKit
section
variable {E : Env} {B : Nat} {w0 : Base}

/-- The join itself. -/
theorem canon_join {self : Self} {all : List Oper} {i m : Nat} {o : Oper} {rest : List Ent} {T : TT} {A X : AH} {T' : TT} {A' : AH} {is : List Res} {As Xs : List AH}
    (h : canonRun self E all (⟨i, o, .join⟩ :: rest) T A (some (m, X)) = some (T', A', is, As, Xs)) :
    m = A.next ∧ ∃ J v A1 is1 As1 Xs1, joinA A X = some J ∧ canonRun self E all rest (T.put o.dst v) A1 none = some (T', A', is1, As1, Xs1) ∧ is = ⟨i, v, true⟩ :: is1 ∧ As = A :: As1 ∧
      ((wantedT all o T = false ∧ v = undef ∧ A1 = J) ∨ (wantedT all o T = true ∧ ∃ Ax, opRun self E o T J = some (v, Ax) ∧ A1 = orA J Ax)) := by
  simp only [canonRun] at h
  split at h
  · cases h
  · rename_i J hJ
    split at hJ
    · rename_i hm
      have hm := Nat.eq_of_beq_eq_true hm
      split at h
      · rename_i hw
        split at h
        · rename_i hr
          cases h
          exact ⟨hm, J, undef, J, _, _, _, hJ, hr, rfl, rfl, .inl ⟨hw, rfl, rfl⟩⟩
        · cases h
      · rename_i hw
        split at h
        · rename_i v A1 hop
          split at h
          · rename_i hr
            cases h
            exact ⟨hm, J, v, orA J A1, _, _, _, hJ, hr, rfl, rfl, .inr ⟨hw, A1, hop, rfl⟩⟩
          · cases h
        · cases h
    · cases hJ
end
end Go.Ex
