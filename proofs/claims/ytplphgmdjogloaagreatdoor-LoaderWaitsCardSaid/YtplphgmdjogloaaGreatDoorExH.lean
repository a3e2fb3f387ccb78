/- Lemmas: an executor over the program's code and its soundness, under the conditions that each theorem names. -/
import Derived.Test.YtplphgmdjogloaaGreatDoorExG
set_option linter.unusedVariables false
set_option linter.unusedSimpArgs false
set_option linter.unusedVariables false
set_option linter.unusedSimpArgs false
namespace Go.Ex
open Go Go.RowKit
section
variable {E : Env} {B : Nat} {w0 : Base}

/-- A main operation's record, seen from the whole. -/
theorem MainAt.lift {self : Self} {all : List Oper} {pre canon rest : List Ent} {n : Nat} {T1 T' : TT} {is isF : List Res} {As AsF : List AH} {p off coff : Nat} {e : Ent} {Tp : TT} {Ap : AH} {v : Value} {b : Bool}
    (M : MainAt self E all pre n T1 is As p e Tp Ap v b) (hdrop : ∀ j, j ≤ pre.length → canon.drop (off + j) = pre.drop j ++ rest) (hp : p < pre.length) (hrest : ∀ k, k ∉ edsts rest → T'.get k = T1.get k)
    (his : ∀ j, isF[off + j]? = is[j]?) (hc : fcnt isF (off + p) = coff + fcnt is p) (hA : ∀ j, AsF[coff + j]? = As[j]?) : MainAt self E all canon n T' isF AsF (off + p) e Tp Ap v b := by
  have app : ∀ (a b : List Ent) (k : Nat), k ∉ edsts (a ++ b) → k ∉ edsts a ∧ k ∉ edsts b := by
    intro a b k h
    constructor
    · intro hm
      obtain ⟨i, e, h1, h2⟩ := mem_edsts.1 hm
      exact h (mem_edsts.2 ⟨i, e, by rw [List.getElem?_append_left (List.getElem?_eq_some_iff.1 h1).1]; exact h1, h2⟩)
    · intro hm
      obtain ⟨i, e, h1, h2⟩ := mem_edsts.1 hm
      exact h (mem_edsts.2 ⟨a.length + i, e, by rw [List.getElem?_append_right (by omega), Nat.add_sub_cancel_left]; exact h1, h2⟩)
  refine ⟨M.size, fun k hk => ?_, by rw [his]; exact M.flag, by rw [hc, hA]; exact M.mem, ?_, fun d hd hlt hk => ?_⟩
  · rw [hdrop p (by omega)] at hk
    obtain ⟨h1, h2⟩ := app _ _ _ hk
    rw [hrest k h2, M.same k h1]
  · rcases M.step with h | ⟨hw, A1, h1, h2, h3⟩
    · exact .inl h
    · refine .inr ⟨hw, A1, h1, h2, fun hb => ?_⟩
      obtain ⟨An, g1, g2⟩ := h3 hb
      exact ⟨An, g1, by rw [hc, Nat.add_assoc, hA]; exact g2⟩
  · rw [show off + p + 1 = off + (p + 1) by omega, hdrop (p + 1) (by omega)] at hk
    obtain ⟨h1, h2⟩ := app _ _ _ hk
    rw [hrest d h2, M.out d hd hlt h1]

theorem edsts_append {a b : List Ent} {k : Nat} (h : k ∉ edsts (a ++ b)) : k ∉ edsts a ∧ k ∉ edsts b := by
  constructor
  · intro hm
    obtain ⟨i, e, h1, h2⟩ := mem_edsts.1 hm
    exact h (mem_edsts.2 ⟨i, e, by rw [List.getElem?_append_left (List.getElem?_eq_some_iff.1 h1).1]; exact h1, h2⟩)
  · intro hm
    obtain ⟨i, e, h1, h2⟩ := mem_edsts.1 hm
    exact h (mem_edsts.2 ⟨a.length + i, e, by rw [List.getElem?_append_right (by omega), Nat.add_sub_cancel_left]; exact h1, h2⟩)

theorem aside_ctx {self : Self} {ops : Array Oper} {T T' : TT} {A A' : AH} {is : List Res} {As Xs : List AH} {sides : List Nat} {r : Nat} (hok : T.ok) (hd : distinct (dstsOf ops.toList) = true) (hor : orderOk ops.toList ops.toList = true) (heb : edgesBack ops.toList 0 = true) (hne : sideIdx ops.toList sides ≠ [])
    (hsq : seqOk (canonOf ops.toList sides r) [] = true) (hdi : distinct ((canonOf ops.toList sides r).map (·.i)) = true) (hall : ∀ i, i < ops.toList.length → memF i ((canonOf ops.toList sides r).map (·.i)) = true)
    (hchS : chainOk (predsOf ops.toList 0 []) (sideIdx ops.toList sides) = true) (hrS : ∀ x ∈ sideIdx ops.toList sides, hasBit ((predsOf ops.toList 0 []).getD r 0) x = true) (has : ∀ e ∈ canonOf ops.toList sides r, asideOk ops.toList (predsOf ops.toList 0 []) sides r e = true)
    (hrl : r < ops.toList.length) (hrn : memF r sides = false)
    (hrun : canonRun self E ops.toList (canonOf ops.toList sides r) T A none = some (T', A', is, As, Xs))
    (hchW : chainOk (predsOf ops.toList 0 []) (flaggedOf is) = true) (hwin : winOkC self E ops.toList (predsOf ops.toList 0 []) (flaggedOf is) As T' (canonOf ops.toList sides r) is = true)
    (hnext : ∀ X ∈ As, A.next ≤ X.next ∧ X.next < 1099511627775) :
    ∃ Xs kr An, ACtx self E ops T' (flaggedOf is) (sideIdx ops.toList sides) As Xs A A' r kr An.next ∧ An ∈ As ∧ Xs[0]? = some (sideStart An) ∧ As[0]? = some A ∧ T'.n = T.n ∧ (∀ k, k ∉ dstsOf ops.toList → T'.get k = T.get k) := by
  generalize hL : ops.toList = L at *
  -- the three parts
  obtain ⟨o, post, e3, ho, hpost⟩ := third_shape sides r hrn L 0 (Nat.zero_le _) (by omega)
  rw [Nat.sub_zero] at ho
  generalize hpre : (entsOf L 0).filter (fun e => !(memF e.i sides) && Nat.blt e.i r) = pre
  generalize hsd : ((entsOf L 0).filter (fun e => memF e.i sides)).map (fun e => (⟨e.i, e.o, .side⟩ : Ent)) = sd
  have hcanon : canonOf L sides r = pre ++ (sd ++ (⟨r, o, .join⟩ :: post)) := by
    unfold canonOf; rw [hpre, hsd, List.append_assoc]
    exact congrArg (fun z => pre ++ (sd ++ z)) e3
  have hsdi : sideIdx L sides = sd.map (·.i) := by
    unfold sideIdx; rw [← hsd, List.map_map]; rfl
  have hmem : ∀ e ∈ canonOf L sides r, L[e.i]? = some e.o := by
    intro e he
    unfold canonOf at he
    rw [List.mem_append, List.mem_append] at he
    have key : ∀ x ∈ entsOf L 0, L[x.i]? = some x.o := fun x hx => by
      obtain ⟨j, h1, h2, _⟩ := mem_ents L 0 x hx
      rw [h1, Nat.zero_add]; exact h2
    rcases he with (he | he) | he
    · exact key e (List.mem_filter.1 he).1
    · obtain ⟨x, hx, rfl⟩ := List.mem_map.1 he
      exact key x (List.mem_filter.1 hx).1
    · obtain ⟨x, hx, rfl⟩ := List.mem_map.1 he
      exact key x (List.mem_filter.1 hx).1
  have hpreK : ∀ e ∈ pre, e.k = .main := fun e he => by
    rw [← hpre] at he
    obtain ⟨j, _, _, h⟩ := mem_ents L 0 e (List.mem_filter.1 he).1
    exact h
  have hsdK : ∀ e ∈ sd, e.k = .side := fun e he => by
    rw [← hsd] at he
    obtain ⟨x, hx, rfl⟩ := List.mem_map.1 he
    rfl
  have hsdMem : ∀ i, i ∈ sideIdx L sides ↔ (i ∈ sides ∧ i < L.length) := by
    intro i
    unfold sideIdx
    constructor
    · intro h
      obtain ⟨x, hx, rfl⟩ := List.mem_map.1 h
      obtain ⟨h1, h2⟩ := List.mem_filter.1 hx
      obtain ⟨j, g1, g2, _⟩ := mem_ents L 0 x h1
      exact ⟨memF_iff.1 h2, by have := (List.getElem?_eq_some_iff.1 g2).1; omega⟩
    · intro ⟨h1, h2⟩
      have := ents_mem L 0 i L[i] (by rw [List.getElem?_eq_getElem h2])
      rw [Nat.zero_add] at this
      exact List.mem_map.2 ⟨_, List.mem_filter.2 ⟨this, memF_iff.2 h1⟩, rfl⟩
  generalize hC : canonOf L sides r = canon at *
  subst hcanon
  -- the runs
  obtain ⟨T1, A1, is1, As1, is2, As2, hr2, h2, h3, h4, h5, h6, h7, h8, h9, h10⟩ := canon_main (sd ++ (⟨r, o, .join⟩ :: post)) pre T A none T' A' is As Xs hpreK hok hrun
  have hsdne : sd ≠ [] := fun h => hne (by rw [hsdi, h]; rfl)
  have hr2' : canonRun self E L (sd ++ (⟨r, o, .join⟩ :: post)) T1 A1 (some (A1.next, sideStart A1)) = some (T', A', is2, As2, Xs) := by
    cases sd with
    | nil => exact absurd rfl hsdne
    | cons x y =>
      obtain ⟨xi, xo, xk⟩ := x
      obtain rfl : xk = .side := hsdK ⟨xi, xo, xk⟩ (by simp)
      exact hr2
  obtain ⟨T2, X1, is21, Xs1, is22, Xs2, g1, g2, g3, g4, g5, g6, g7, g8, g9, g10, g11⟩ := canon_sides (⟨r, o, .join⟩ :: post) sd T1 (sideStart A1) T' A' is2 As2 Xs hsdK h7 hr2'
  obtain ⟨_, J, v, A2, is3, As3, Xs3, j1, j2, j3, j4, j5⟩ := canon_join g1
  obtain ⟨T3, A3, is4, As4, is5, As5, k1, k2, k3, k4, k5, k6, k7, k8, k9, k10⟩ := canon_main [] post (T2.put o.dst v) A2 none T' A' is3 As3 Xs3 hpost (TT.put_ok g8 _ _) (by simpa using j2)
  simp only [canonRun, Option.some.injEq, Prod.mk.injEq] at k1
  obtain ⟨q1, q2, q3, q4, _⟩ := k1
  have q1 := q1.symm
  have q2 := q2.symm
  subst q1 q2 q3 q4
  rw [TT.put_n] at k6
  -- lengths
  have lis : is = is1 ++ (is21 ++ (⟨r, v, true⟩ :: is3)) := by rw [h2, g2, j3]
  have lAs : As = As1 ++ (A1 :: As3) := by rw [h3, j4]
  have hkr : As1.length = fcnt is1 is1.length := by rw [h5, h2, h4, fcnt_append_le _ _ _ (by omega)]
  have c21 : ∀ p, fcnt is21 p = 0 := fcnt_none is21 g9
  have cside : ∀ q, q ≤ is21.length → fcnt is (is1.length + q) = As1.length := by
    intro q hq
    rw [lis, fcnt_append, fcnt_append_le _ _ _ hq, c21, hkr, Nat.add_zero]
  have cjoin : fcnt is (is1.length + is21.length) = As1.length := cside _ (Nat.le_refl _)
  have cpost : ∀ p, fcnt is (is1.length + is21.length + 1 + p) = As1.length + 1 + fcnt is3 p := by
    intro p
    rw [show is1.length + is21.length + 1 + p = is1.length + (is21.length + (p + 1)) by omega, lis, fcnt_append, fcnt_append, c21, hkr, fcnt_succ]
    simp; omega
  have isAt : ∀ j, is[is1.length + is21.length + 1 + j]? = is3[j]? := by
    intro j
    rw [lis, show is1.length + is21.length + 1 + j = is1.length + (is21.length + (j + 1)) by omega, List.getElem?_append_right (by omega), Nat.add_sub_cancel_left, List.getElem?_append_right (by omega), Nat.add_sub_cancel_left, List.getElem?_cons_succ]
  have asAt : ∀ j, As[As1.length + 1 + j]? = As3[j]? := by
    intro j
    rw [lAs, show As1.length + 1 + j = As1.length + (j + 1) by omega, List.getElem?_append_right (by omega), Nat.add_sub_cancel_left, List.getElem?_cons_succ]
  have asKr : As[As1.length]? = some A1 := by
    rw [lAs, List.getElem?_append_right (by omega), Nat.sub_self]; rfl
  have asKr1 : As[As1.length + 1]? = some A2 := by
    have := asAt 0
    rw [Nat.add_zero] at this
    rw [this, k9]
  -- what becomes of temporaries
  have restP : ∀ k, k ∉ edsts (⟨r, o, .join⟩ :: post) → T'.get k = T2.get k := by
    intro k hk
    obtain ⟨q1, q2⟩ := edsts_cons_not hk
    rw [k8 k q2, put_other g8 q1]
  have restS : ∀ k, k ∉ edsts (sd ++ (⟨r, o, .join⟩ :: post)) → T'.get k = T1.get k := by
    intro k hk
    obtain ⟨q1, q2⟩ := edsts_append hk
    rw [restP k q2, g10 k q1]
  have hTn : T'.n = T.n := by rw [k6, g7, h6]
  have dropPre : ∀ j, j ≤ pre.length → (pre ++ (sd ++ (⟨r, o, .join⟩ :: post))).drop (0 + j) = pre.drop j ++ (sd ++ (⟨r, o, .join⟩ :: post)) := by
    intro j hj; rw [Nat.zero_add, List.drop_append_of_le_length hj]
  have dropSd : ∀ j, j ≤ sd.length → (pre ++ (sd ++ (⟨r, o, .join⟩ :: post))).drop (pre.length + j) = sd.drop j ++ (⟨r, o, .join⟩ :: post) := by
    intro j hj; rw [List.drop_length_add_append, List.drop_append_of_le_length hj]
  have dropJ : ∀ j, (pre ++ (sd ++ (⟨r, o, .join⟩ :: post))).drop (pre.length + sd.length + 1 + j) = post.drop j := by
    intro j; rw [show pre.length + sd.length + 1 + j = pre.length + (sd.length + (j + 1)) by omega, List.drop_length_add_append, List.drop_length_add_append, List.drop_succ_cons]
  -- places
  have posOf : ∀ i, i < L.length → ∃ (p : Nat) (e : Ent), (pre ++ (sd ++ (⟨r, o, .join⟩ :: post)))[p]? = some e ∧ e.i = i := by
    intro i hi
    have := memF_iff.1 (hall i hi)
    obtain ⟨e, he, hie⟩ := List.mem_map.1 this
    obtain ⟨p, hp⟩ := List.getElem?_of_mem he
    exact ⟨p, e, hp, hie⟩
  have idx := canonRun_idx _ hrun
  have isPos : ∀ (p : Nat) (x : Res), is[p]? = some x → ∃ (e : Ent), (pre ++ (sd ++ (⟨r, o, .join⟩ :: post)))[p]? = some e ∧ e.i = x.i := by
    intro p x hx
    have h1 : (is.map (·.i))[p]? = some x.i := by rw [List.getElem?_map, hx]; rfl
    rw [idx, List.getElem?_map] at h1
    cases he : (pre ++ (sd ++ (⟨r, o, .join⟩ :: post)))[p]? with
    | none => rw [he] at h1; cases h1
    | some e => rw [he] at h1; simp only [Option.map_some, Option.some.injEq] at h1; exact ⟨e, rfl, by first | exact h1 | exact h1.symm⟩
  have notWs : ∀ (p : Nat) (i : Nat) (v : Value), is[p]? = some ⟨i, v, false⟩ → i ∉ flaggedOf is := by
    intro p i v hp hm
    obtain ⟨j, hj⟩ := List.getElem?_of_mem hm
    obtain ⟨p', v', h1, _⟩ := flagged_of is j i hj
    obtain ⟨e, he, hei⟩ := isPos p _ hp
    obtain ⟨e', he', hei'⟩ := isPos p' _ h1
    have := distinct_pos _ p p' e e' hdi he he' (by rw [hei, hei'])
    subst this
    rw [hp] at h1; cases h1
  -- every main operation
  have mainAt : ∀ (i : Nat) (x : Oper), L[i]? = some x → i ∉ sideIdx L sides → i ≠ r → ∃ (p : Nat) (Tp : TT) (Ap : AH) (v : Value) (b : Bool), (pre ++ (sd ++ (⟨r, o, .join⟩ :: post)))[p]? = some ⟨i, x, .main⟩ ∧ MainAt self E L (pre ++ (sd ++ (⟨r, o, .join⟩ :: post))) T.n T' is As p ⟨i, x, .main⟩ Tp Ap v b := by
    intro i x hx his hir
    obtain ⟨p, e, hp, hi⟩ := posOf i (List.getElem?_eq_some_iff.1 hx).1
    have hem := hmem e (List.mem_of_getElem? hp)
    rw [hi, hx] at hem
    cases hem
    rcases Nat.lt_or_ge p pre.length with hlt | hge
    · rw [List.getElem?_append_left hlt] at hp
      have hk := hpreK e (List.mem_of_getElem? hp)
      obtain ⟨Tp, Ap, v, b, M⟩ := h10 p e hp
      obtain ⟨ei, eo, ek⟩ := e
      simp only at hi hk; subst hi; subst hk
      refine ⟨p, Tp, Ap, v, b, by rw [List.getElem?_append_left hlt]; exact hp, ?_⟩
      have := M.lift (off := 0) (coff := 0) (canon := pre ++ (sd ++ (⟨r, o, .join⟩ :: post))) (isF := is) (AsF := As) dropPre hlt restS (fun j => by rw [Nat.zero_add]) (by rw [Nat.zero_add, Nat.zero_add]) (fun j => by rw [Nat.zero_add])
      rwa [Nat.zero_add] at this
    · obtain ⟨q, rfl⟩ : ∃ q, p = pre.length + q := ⟨p - pre.length, by omega⟩
      rw [List.getElem?_append_right (by omega), Nat.add_sub_cancel_left] at hp
      rcases Nat.lt_or_ge q sd.length with hlt | hge
      · rw [List.getElem?_append_left hlt] at hp
        exact absurd (by rw [hsdi]; exact List.mem_map.2 ⟨e, List.mem_of_getElem? hp, hi⟩) his
      · obtain ⟨q', rfl⟩ : ∃ q', q = sd.length + q' := ⟨q - sd.length, by omega⟩
        rw [List.getElem?_append_right (by omega), Nat.add_sub_cancel_left] at hp
        cases q' with
        | zero => simp at hp; subst hp; exact absurd hi.symm hir
        | succ q' =>
          rw [List.getElem?_cons_succ] at hp
          have hk := hpost e (List.mem_of_getElem? hp)
          obtain ⟨Tp, Ap, v', b, M⟩ := k10 q' e hp
          rw [TT.put_n, g7, h6] at M
          obtain ⟨ei, eo, ek⟩ := e
          simp only at hi hk; subst hi; subst hk
          have hlen1 : is1.length + is21.length = pre.length + sd.length := by rw [h4, g3]
          refine ⟨pre.length + sd.length + 1 + q', Tp, Ap, v', b, ?_, ?_⟩
          · rw [show pre.length + sd.length + 1 + q' = pre.length + (sd.length + (q' + 1)) by omega, List.getElem?_append_right (by omega), Nat.add_sub_cancel_left, List.getElem?_append_right (by omega), Nat.add_sub_cancel_left, List.getElem?_cons_succ]; exact hp
          · refine M.lift (rest := []) (coff := As1.length + 1) (fun j _ => by rw [dropJ, List.append_nil]) (List.getElem?_eq_some_iff.1 hp).1 (fun k _ => rfl) (fun j => by rw [← hlen1]; exact isAt j) (by rw [← hlen1]; exact cpost _) asAt
  have evOf : ∀ {p : Nat} {e : Ent} {Tp : TT}, (pre ++ (sd ++ (⟨r, o, .join⟩ :: post)))[p]? = some e → Tp.n = T'.n → (∀ k, k ∉ edsts ((pre ++ (sd ++ (⟨r, o, .join⟩ :: post))).drop p) → T'.get k = Tp.get k) → (∀ x ∈ e.o.op.operands.toList, evT Tp x = evT T' x) ∧ wantedT L e.o Tp = wantedT L e.o T' :=
    fun hp hn same => canon_evT hd hor hsq hdi hmem hp hn same
  have notAfter : ∀ {p : Nat} {e : Ent} {d : Nat}, (pre ++ (sd ++ (⟨r, o, .join⟩ :: post)))[p]? = some e → e.o.dst = some d → d ∉ edsts ((pre ++ (sd ++ (⟨r, o, .join⟩ :: post))).drop (p + 1)) := by
    intro p e d hp hed hm
    obtain ⟨j, f, hj, hf⟩ := mem_edsts.1 hm
    rw [List.getElem?_drop] at hj
    have hi := dst_uniq hd (hmem e (List.mem_of_getElem? hp)) (hmem f (List.mem_of_getElem? hj)) hed hf
    have := distinct_pos _ _ _ e f hdi hp hj hi
    omega
  have sdAt : ∀ (q : Nat) (e : Ent), sd[q]? = some e → (pre ++ (sd ++ (⟨r, o, .join⟩ :: post)))[pre.length + q]? = some e := by
    intro q e hq
    rw [List.getElem?_append_right (by omega), Nat.add_sub_cancel_left, List.getElem?_append_left (List.getElem?_eq_some_iff.1 hq).1]; exact hq
  have joinPos : (pre ++ (sd ++ (⟨r, o, .join⟩ :: post)))[pre.length + sd.length]? = some ⟨r, o, .join⟩ := by
    rw [List.getElem?_append_right (by omega), Nat.add_sub_cancel_left, List.getElem?_append_right (by omega), Nat.sub_self]; rfl
  have sdIs : ∀ (q : Nat) (e : Ent), sd[q]? = some e → ∃ v, is[pre.length + q]? = some ⟨e.i, v, false⟩ := by
    intro q e hq
    obtain ⟨Tp, Xp, v, Y, S⟩ := g11 q e hq
    refine ⟨v, ?_⟩
    rw [lis, ← h4, List.getElem?_append_right (by omega), Nat.add_sub_cancel_left, List.getElem?_append_left (by rw [g3]; exact (List.getElem?_eq_some_iff.1 hq).1)]
    exact S.flag
  have hL' : ops.toList = L := hL
  refine ⟨Xs1, As1.length, A1, ⟨k7, by rw [hL']; exact hd, by rw [hL']; exact hor, by rw [hL']; exact heb, ?_, ?_, by rw [hL']; exact hchW, by rw [hL']; exact hchS, by rw [hL']; exact hrS, ?_, ?_, ?_, ?_, ?_, ?_, ?_, ?_, ?_, ?_, ?_⟩, ?_, g5, h9, hTn, ?_⟩
  · intro j j' x hj hj'
    obtain ⟨p, v, q1, q2⟩ := flagged_of is j x hj
    obtain ⟨p', v', q1', q2'⟩ := flagged_of is j' x hj'
    obtain ⟨e, he, hei⟩ := isPos p _ q1
    obtain ⟨e', he', hei'⟩ := isPos p' _ q1'
    have := distinct_pos _ p p' e e' hdi he he' (by rw [hei, hei'])
    subst this
    rw [← q2, ← q2']
  · intro j j' x hj hj'
    rw [hsdi, List.getElem?_map] at hj hj'
    cases hx : sd[j]? with
    | none => rw [hx] at hj; cases hj
    | some e =>
      cases hx' : sd[j']? with
      | none => rw [hx'] at hj'; cases hj'
      | some e' =>
        rw [hx] at hj; rw [hx'] at hj'
        simp at hj hj'
        have := distinct_pos _ _ _ e e' hdi (sdAt j e hx) (sdAt j' e' hx') (by rw [hj, hj'])
        omega
  · intro h
    have := ((hsdMem r).1 h).1
    rw [← memF_iff, hrn] at this; cases this
  · intro x hx hs
    rw [hsdi] at hs
    obtain ⟨e, he, rfl⟩ := List.mem_map.1 hs
    obtain ⟨q, hq⟩ := List.getElem?_of_mem he
    obtain ⟨v, hv⟩ := sdIs q e hq
    exact notWs _ _ _ hv hx
  · rw [hL']
    intro i x hx his hir ⟨j, hj, hjs⟩
    obtain ⟨p, Tp, Ap, v, b, hp, M⟩ := mainAt i x hx his hir
    have := has _ (List.mem_of_getElem? hp)
    simp only [asideOk, Bool.or_eq_true, Bool.not_eq_true'] at this
    rcases this with h | h
    · have h2 : (edgesTo x).any (fun j => memF j sides) = true := List.any_eq_true.2 ⟨j, hj, memF_iff.2 ((hsdMem j).1 hjs).1⟩
      rw [h2] at h; cases h
    · exact h
  · rw [hL']
    intro i x hx his hir
    obtain ⟨p, Tp, Ap, v, b, hp, M⟩ := mainAt i x hx his hir
    obtain ⟨hev, hwd⟩ := evOf hp (by rw [M.size, hTn]) M.same
    refine ⟨v, fun d hdst hlt => M.out d hdst (by rw [← hTn]; exact hlt) (notAfter hp hdst), ?_⟩
    rcases M.step with ⟨hw, hv, hb⟩ | ⟨hw, Ax, hop, hnone, hsome⟩
    · subst hb
      exact .inl ⟨by rw [← hwd]; exact hw, hv, notWs _ _ _ M.flag⟩
    · cases b with
      | false =>
        refine .inr (.inl ⟨by rw [← hwd]; exact hw, notWs _ _ _ M.flag, ?_⟩)
        intro k Ak hk hlo hhi
        have hs := winOkC_spec _ is p i x i v hwin hp M.flag (by rw [← hwd]; exact hw)
        refine sameAt_spec _ hs Ak ?_
        have hidx : ((As.drop (winLo ((predsOf L 0 []).getD i 0) (flaggedOf is))).take (winHi (predsOf L 0 []) i (flaggedOf is) + 1 - winLo ((predsOf L 0 []).getD i 0) (flaggedOf is)))[k - winLo ((predsOf L 0 []).getD i 0) (flaggedOf is)]? = some Ak := by
          rw [List.getElem?_take, if_pos (by omega), List.getElem?_drop, show winLo ((predsOf L 0 []).getD i 0) (flaggedOf is) + (k - winLo ((predsOf L 0 []).getD i 0) (flaggedOf is)) = k by omega]
          exact hk
        exact List.mem_of_getElem? hidx
      | true =>
        obtain ⟨An, q1, q2⟩ := hsome rfl
        subst q1
        exact .inr (.inr ⟨by rw [← hwd]; exact hw, fcnt is p, Tp, Ap, An, flagged_at is p _ _ M.flag, M.mem, q2, hev, hop⟩)
  · rw [hL']
    intro q i hq
    rw [hsdi, List.getElem?_map] at hq
    cases hx : sd[q]? with
    | none => rw [hx] at hq; cases hq
    | some e =>
      rw [hx] at hq
      simp at hq; subst hq
      have hp := sdAt q e hx
      have hem := hmem e (List.mem_of_getElem? hp)
      obtain ⟨Tp, Xp, v, Y, S⟩ := g11 q e hx
      have hqlt := (List.getElem?_eq_some_iff.1 hx).1
      have same : ∀ k, k ∉ edsts ((pre ++ (sd ++ (⟨r, o, .join⟩ :: post))).drop (pre.length + q)) → T'.get k = Tp.get k := by
        intro k hk
        rw [dropSd q (by omega)] at hk
        obtain ⟨q1, q2⟩ := edsts_append hk
        rw [restP k q2, S.same k q1]
      obtain ⟨hev, _⟩ := evOf hp (by rw [S.size, hTn, h6]) same
      have hk := hsdK e (List.mem_of_getElem? hx)
      have ha := has e (List.mem_of_getElem? hp)
      simp only [asideOk, hk, Bool.and_eq_true, List.all_eq_true] at ha
      refine ⟨e.o, v, hem, ⟨fun k hk => ?_, ?_, fun d hdst hlt => ?_, S.val, Tp, Xp, Y, S.mem, S.next, hev, S.run⟩⟩
      · have := ha.2 _ hk
        simp only at this
        split at this
        · rename_i j hj
          obtain ⟨p, _, h1, h2⟩ := placeOf_of L k 0 j hj
          rw [Nat.sub_zero] at h1
          exact ⟨j, p, h1, h2, (hsdMem j).2 ⟨memF_iff.1 this, (List.getElem?_eq_some_iff.1 h1).1⟩⟩
        · cases this
      · simpa using ha.1.1
      · have hna := notAfter hp hdst
        rw [show pre.length + q + 1 = pre.length + (q + 1) by omega, dropSd (q + 1) (by omega)] at hna
        obtain ⟨q1, q2⟩ := edsts_append hna
        rw [restP d q2, S.out d hdst (by rw [h6, ← hTn]; exact hlt) q1]
  · rw [← cjoin]
    refine flagged_at is _ r v ?_
    rw [lis, List.getElem?_append_right (by omega), Nat.add_sub_cancel_left, List.getElem?_append_right (by omega), Nat.sub_self]; rfl
  · rw [hL']
    obtain ⟨hev, hwd⟩ := evOf (Tp := T2) joinPos (by rw [hTn, g7, h6]) (by
      intro k hk
      rw [dropSd sd.length (Nat.le_refl _), List.drop_length, List.nil_append] at hk
      exact restP k hk)
    refine ⟨o, v, ho, fun d hdst hlt => ?_, A1, X1, J, A2, asKr, by rw [hsdi, List.length_map]; exact g6, rfl, j1, asKr1, ?_⟩
    · have hna := notAfter joinPos hdst
      have := dropJ 0
      rw [Nat.add_zero, List.drop_zero] at this
      rw [this] at hna
      have hdst : o.dst = some d := hdst
      rw [k8 d hna, hdst, TT.get_put g8.1, if_pos ⟨by rw [← k6]; exact hlt, rfl⟩]
    · rcases j5 with ⟨hw, hv, hA⟩ | ⟨hw, Ax, hop, hA⟩
      · exact .inl ⟨by rw [← hwd]; exact hw, hv, hA⟩
      · exact .inr ⟨by rw [← hwd]; exact hw, T2, Ax, hev, hop, hA⟩
  · rw [flagged_length, lis, List.length_append, List.length_append, List.length_cons, fcnt_append, fcnt_append, c21, fcnt_succ]
    simp only [if_true, Nat.zero_add]
    rw [← hkr, show As1.length + (1 + fcnt is3 is3.length) = As1.length + 1 + fcnt is3 is3.length by omega]
    have := asAt (fcnt is3 is3.length)
    rw [lis] at *
    rw [this, k3, List.getElem?_append_right (by rw [k5, k2, List.append_nil, k4]; exact Nat.le_refl _), k5, k2, List.append_nil, k4, Nat.sub_self]
    rfl
  · intro x hx
    obtain ⟨j, hj⟩ := List.getElem?_of_mem hx
    obtain ⟨p, v, q1, _⟩ := flagged_of is j x hj
    obtain ⟨e, he, hei⟩ := isPos p _ q1
    have := (List.getElem?_eq_some_iff.1 (hmem e (List.mem_of_getElem? he))).1
    rw [hei] at this
    rw [← Array.length_toList, hL']; exact this
  · exact (hnext A1 (by rw [lAs]; simp)).1
  · exact (hnext A1 (by rw [lAs]; simp)).2
  · rw [lAs]; simp
  · intro k hk
    have all : k ∉ edsts (pre ++ (sd ++ (⟨r, o, .join⟩ :: post))) := by
      intro hm
      obtain ⟨p, e, hp, he⟩ := mem_edsts.1 hm
      exact hk (mem_dstsOf.2 ⟨e.i, e.o, hmem e (List.mem_of_getElem? hp), he⟩)
    obtain ⟨q1, q2⟩ := edsts_append all
    rw [restS k q2, h8 k q1]
end
end Go.Ex
set_option linter.unusedVariables false
set_option linter.unusedSimpArgs false
namespace Go.Ex
open Go Go.RowKit
section
variable {E : Env} {B : Nat} {w0 : Base}

theorem sound_aside {self : Self} (hS : Sound E self) (hE : EnvOk E) (id : Nat) (ops : Array Oper) (ro : Option Nat) {Q : Exit → Act → World → Prop} {T T' : TT} {A A' : AH} {a : Act} {w : World} {ρ : Ren} {sides : List Nat} {r : Nat} {ds ds' : List Nat} {x : AX}
    (R : Rel E.P E.G B w0 ρ A w) (hT : TTR ρ T a.tmps) (hok : T.ok) (hd : distinct (dstsOf ops.toList) = true) (hor : orderOk ops.toList ops.toList = true) (heb : edgesBack ops.toList 0 = true)
    (h : asideStep self E ops.toList (predsOf ops.toList 0 []) sides r T ds A = some (.code x T' ds' A')) (hne : sideIdx ops.toList sides ≠ [])
    (hQ : ∀ ρ' a' w', Ren.le ρ ρ' → Rel E.P E.G B w0 ρ' A' w' → Keep A A' → TTR ρ' T' a'.tmps → T'.ok → a'.defers = a.defers → Q .normal a' w') :
    (Code.region id ops true).wpIn (WF ro) 0 E.P Q a w := by
  unfold asideStep at h
  simp only at h
  split at h
  · cases h
  · rename_i hc
    simp only [Bool.and_eq_true, List.all_eq_true, Bool.not_eq_true'] at hc
    obtain ⟨⟨⟨⟨⟨⟨⟨c1, c2⟩, c3⟩, c4⟩, c5⟩, c6⟩, c7⟩, c8⟩ := hc
    split at h
    · rename_i hrun
      split at h
      · rename_i hw
        cases h
        simp only [Bool.and_eq_true, List.all_eq_true] at hw
        obtain ⟨⟨w1, w2⟩, w3⟩ := hw
        obtain ⟨Xs1, kr, An, C, hAn, hX0, hA0, hn, hsame⟩ := aside_ctx hok hd hor heb hne c1 c2 (fun i hi => c3 i (List.mem_range.2 hi)) c4 c5 c6 (blt_true c7) c8 hrun w1 w2 (fun X hX => ⟨Nat.le_of_ble_eq_true (w3 X hX).1, blt_true (w3 X hX).2⟩)
        have hAn' := w3 An hAn
        obtain ⟨RX, hap⟩ := (R.drewTo (w.drawn + 1)).sideStart (An := An) (Nat.le_trans R.G_next (Nat.le_of_ble_eq_true hAn'.1)) (blt_true hAn'.2)
        have none0 : ∀ j, (Array.replicate ops.size false).getD j false = true → False := by
          intro j hl
          simp only [Array.getD_eq_getD_getElem?, Array.getElem?_replicate] at hl
          split at hl <;> cases hl
        refine wpIn_region_any hE.mixed ?_
        refine anyAside (A := A) (A' := A') (ρ0 := ρ) (ds := a.defers) hS hE ro C hQ ops.size _ a _ ρ 0 A ?_ (.inl ⟨sideRen E.G ρ, 0, sideStart An, ?_⟩)
        · have := List.count_le_length (a := false) (l := (Array.replicate ops.size false).toList)
          simp
        · refine ⟨by simp, fun i o _ hl => (none0 i hl).elim, fun j x hx => ⟨fun hl => (none0 _ hl).elim, fun h => by omega⟩, Nat.zero_le _, hA0, R.drewTo _, Keep.refl A, Ren.le_refl ρ, by rw [hn]; exact hT.1, rfl, ?_, fun j x hx => ⟨fun hl => (none0 _ hl).elim, fun h => by omega⟩, Nat.zero_le _, hX0, RX, Nat.le_refl _, hap, ?_⟩
          · cases hb : (Array.replicate ops.size false).getD r false with
            | false => rfl
            | true => exact (none0 _ hb).elim
          · intro k hk hall
            have hnot : k ∉ dstsOf ops.toList := by
              intro hm
              obtain ⟨i, o, hi, hdst⟩ := mem_dstsOf.1 hm
              exact (none0 _ (hall i o hi hdst)).elim
            rw [hsame k hnot]
            obtain ⟨u, hu, hv⟩ := hT.2 k (by rw [← hn]; exact hk)
            refine ⟨u, hu, fun _ => hv, fun ⟨j, o, hj, hdst, _⟩ => absurd (mem_dstsOf.2 ⟨j, o, hj, hdst⟩) hnot⟩
      · cases h
    · cases h

theorem sidesOf_lt {all : List Oper} {preds : List Nat} : ∀ (l : List Oper) (i : Nat) (acc : List Nat), (∀ x ∈ acc, x < i) → ∀ x ∈ sidesOf all preds l i acc, x < i + l.length
  | [], i, acc, h, x, hx => by
    simp only [sidesOf, List.mem_reverse] at hx
    have := h x hx; simp; omega
  | o :: r, i, acc, h, x, hx => by
    simp only [sidesOf] at hx
    split at hx
    · have := sidesOf_lt r (i + 1) (i :: acc) (fun y hy => by
        rcases List.mem_cons.1 hy with rfl | hy
        · omega
        · have := h y hy; omega) x hx
      simp only [List.length_cons]; omega
    · have := sidesOf_lt r (i + 1) acc (fun y hy => by have := h y hy; omega) x hx
      simp only [List.length_cons]; omega
theorem sideIdx_ne {ops : List Oper} {preds : List Nat} {y : Nat} {ys : List Nat} (h : sidesOf ops preds ops 0 [] = y :: ys) : sideIdx ops (y :: ys) ≠ [] := by
  intro he
  have hy := sidesOf_lt ops 0 [] (fun x hx => by cases hx) y (by rw [h]; simp)
  rw [Nat.zero_add] at hy
  have hm := ents_mem ops 0 y ops[y] (by rw [List.getElem?_eq_getElem hy])
  rw [Nat.zero_add] at hm
  have : y ∈ sideIdx ops (y :: ys) := List.mem_map.2 ⟨_, List.mem_filter.2 ⟨hm, memF_iff.2 (by simp)⟩, rfl⟩
  rw [he] at this; cases this

theorem drawStep_code {self : Self} {ops : List Oper} {T : TT} {ds : List Nat} {A : AH} {o : Out} (h : drawStep self E ops T ds A = some o) : ∃ T' A', o = .code .normal T' ds A' := by
  unfold drawStep at h
  split at h
  · split at h
    · split at h
      · split at h
        · cases h; exact ⟨_, _, rfl⟩
        · cases h
      · cases h
    · unfold asideStep at h
      simp only at h
      split at h
      · cases h
      · split at h
        · split at h
          · cases h; exact ⟨_, _, rfl⟩
          · cases h
        · cases h
  · cases h

theorem sound_draw {self : Self} (hS : Sound E self) (hE : EnvOk E) (id : Nat) (ops : Array Oper) (ro : Option Nat) {Q : Exit → Act → World → Prop} {T T' : TT} {A A' : AH} {a : Act} {w : World} {ρ : Ren} {ds ds' : List Nat} {x : AX}
    (R : Rel E.P E.G B w0 ρ A w) (hT : TTR ρ T a.tmps) (hok : T.ok) (h : drawStep self E ops.toList T ds A = some (.code x T' ds' A'))
    (hQ : ∀ ρ' a' w', Ren.le ρ ρ' → Rel E.P E.G B w0 ρ' A' w' → Keep A A' → TTR ρ' T' a'.tmps → T'.ok → a'.defers = a.defers → Q .normal a' w') :
    (Code.region id ops true).wpIn (WF ro) 0 E.P Q a w := by
  unfold drawStep at h
  split at h
  · rename_i hc
    simp only [Bool.and_eq_true] at hc
    obtain ⟨hd, hor, heb⟩ := hc
    split at h
    · split at h
      · rename_i hrun
        split at h
        · rename_i hdraw
          cases h
          exact sound_plainDraw hS hE id ops ro R hT hok hd hor heb hrun hdraw hQ
        · cases h
      · cases h
    · rename_i y ys hsd
      exact sound_aside hS hE id ops ro R hT hok hd hor heb h (sideIdx_ne hsd) hQ
  · cases h
end
end Go.Ex
