/- Lemmas: an executor over the program's code and its soundness, under the conditions that each theorem names. -/
import Derived.Test.YtplphgmdjogloaaGreatDoorExD
import Derived.OrdersIn
set_option linter.unusedVariables false
set_option linter.unusedSimpArgs false
set_option linter.unusedVariables false
set_option linter.unusedSimpArgs false
namespace Go.Ex
open Go Go.RowKit

/-! ### Lists and bits -/
theorem memF_iff {f : Nat} : ∀ {l : List Nat}, memF f l = true ↔ f ∈ l
  | [] => by simp [memF]
  | g :: r => by
    simp only [memF]
    cases hb : Nat.beq f g with
    | true => simp [Nat.eq_of_beq_eq_true hb]
    | false =>
      have hne : ¬ f = g := fun e => by subst e; rw [Nat.beq_refl] at hb; cases hb
      simp [memF_iff (l := r), hne]
theorem hasBit_iff {s i : Nat} : hasBit s i = true ↔ s.testBit i = true := by
  unfold hasBit Nat.testBit
  have h1 : Nat.land (Nat.shiftRight s i) 1 = (s >>> i) % 2 := Nat.and_one_is_mod (s >>> i)
  have h2 : 1 &&& (s >>> i) = (s >>> i) % 2 := by rw [Nat.and_comm]; exact Nat.and_one_is_mod _
  rw [h1, h2]
  generalize s >>> i = m
  rcases Nat.mod_two_eq_zero_or_one m with h | h <;> rw [h] <;> decide
theorem hasBit_lor {a b i : Nat} : hasBit (Nat.lor a b) i = true ↔ hasBit a i = true ∨ hasBit b i = true := by
  rw [hasBit_iff, hasBit_iff, hasBit_iff]
  have : Nat.lor a b = a ||| b := rfl
  rw [this, Nat.testBit_or, Bool.or_eq_true]
theorem hasBit_pow {e i : Nat} (h : hasBit (Nat.pow 2 e) i = true) : i = e := by
  rw [hasBit_iff] at h
  have : Nat.pow 2 e = 2 ^ e := rfl
  rw [this, Nat.testBit_two_pow] at h
  exact (of_decide_eq_true h).symm
theorem hasBit_zero {i : Nat} : hasBit 0 i = false := by
  cases h : hasBit 0 i with
  | false => rfl
  | true => rw [hasBit_iff] at h; simp at h

section preds
variable {ops : List Oper}
def ClosedS (ops : List Oper) (S : Nat → Prop) : Prop := ∀ i o, ops[i]? = some o → S i → ∀ e ∈ edgesTo o, S e
def BitsOk (ops : List Oper) (i s : Nat) : Prop := ∀ S : Nat → Prop, ClosedS ops S → (∀ o, ops[i]? = some o → ∀ e ∈ edgesTo o, S e) → ∀ e, hasBit s e = true → S e
theorem predsOf_spec : ∀ (l : List Oper) (i : Nat) (acc : List Nat), ops.drop i = l → acc.length = i → (∀ j, j < i → BitsOk ops j (acc.getD (i - 1 - j) 0)) → ∀ j, BitsOk ops j ((predsOf l i acc).getD j 0)
  | [], i, acc, hl, hlen, hacc, j => by
    simp only [predsOf]
    by_cases hj : j < i
    · have : acc.reverse.getD j 0 = acc.getD (i - 1 - j) 0 := by
        rw [List.getD_eq_getElem?_getD, List.getD_eq_getElem?_getD, List.getElem?_reverse (by omega), hlen]
      rw [this]; exact hacc j hj
    · rw [List.getD_eq_getElem?_getD, List.getElem?_eq_none (by simp; omega)]
      intro S _ _ e he
      rw [Option.getD_none, hasBit_zero] at he; cases he
  | o :: r, i, acc, hl, hlen, hacc, j => by
    have ho : ops[i]? = some o := by
      have h1 : ops[i]? = (ops.drop i)[0]? := by simp
      rw [h1, hl]; rfl
    have hr : ops.drop (i + 1) = r := by
      have : ops.drop (i + 1) = (ops.drop i).drop 1 := by rw [List.drop_drop]
      rw [this, hl]; rfl
    simp only [predsOf]
    refine predsOf_spec r (i + 1) _ hr (by simp [hlen]) ?_ j
    intro j hj
    by_cases hji : j = i
    · subst hji
      have e0 : j + 1 - 1 - j = 0 := by omega
      rw [e0, List.getD_eq_getElem?_getD, List.getElem?_cons_zero, Option.getD_some]
      intro S hS hE
      have fold : ∀ (es : List Nat) (s : Nat), (∀ e ∈ es, S e) → (∀ e, hasBit s e = true → S e) → ∀ e, hasBit (es.foldl (fun s e => match Nat.blt e j with
          | true => Nat.lor s (Nat.lor (Nat.pow 2 e) (acc.getD (j - 1 - e) 0))
          | false => s) s) e = true → S e := by
        intro es
        induction es with
        | nil => exact fun s _ hs e he => hs e he
        | cons x r ih =>
          intro s hes hs e he
          refine ih _ (fun e he => hes e (by simp [he])) ?_ e he
          intro e he
          simp only at he
          split at he
          · rename_i hx
            have hx := blt_true hx
            rw [hasBit_lor, hasBit_lor] at he
            rcases he with he | he | he
            · exact hs e he
            · rw [hasBit_pow he]; exact hes x (by simp)
            · exact hacc x hx S hS (fun o ho e he => hS x o ho (hes x (by simp)) e he) e he
          · exact hs e he
      exact fold _ 0 (fun e he => hE o ho e he) (fun e he => by rw [hasBit_zero] at he; cases he)
    · have hlt : j < i := by omega
      have e1 : i + 1 - 1 - j = (i - 1 - j) + 1 := by omega
      rw [e1, List.getD_eq_getElem?_getD, List.getElem?_cons_succ, ← List.getD_eq_getElem?_getD]
      exact hacc j hlt
end preds

theorem edgesBack_spec : ∀ (l : List Oper) (b i : Nat) (o : Oper), edgesBack l b = true → l[i]? = some o → ∀ e ∈ edgesTo o, e < b + i
  | [], _, _, _, _, h => by simp at h
  | x :: r, b, 0, o, hb, h => by
    simp at h; subst h
    simp only [edgesBack, Bool.and_eq_true, List.all_eq_true] at hb
    intro e he
    exact blt_true (hb.1 e he)
  | x :: r, b, i + 1, o, hb, h => by
    simp only [edgesBack, Bool.and_eq_true] at hb
    intro e he
    have := edgesBack_spec r (b + 1) i o hb.2 (by simpa using h) e he
    omega

theorem mem_dstsOf {l : List Oper} {d : Nat} : d ∈ dstsOf l ↔ ∃ (i : Nat) (o : Oper), l[i]? = some o ∧ o.dst = some d := by
  unfold dstsOf
  rw [List.mem_filterMap]
  constructor
  · rintro ⟨o, ho, hd⟩
    obtain ⟨i, hi⟩ := List.getElem?_of_mem ho
    exact ⟨i, o, hi, hd⟩
  · rintro ⟨i, o, hi, hd⟩
    exact ⟨o, List.mem_of_getElem? hi, hd⟩
theorem placeOf_spec : ∀ (l : List Oper) (b j : Nat) (o : Oper) (k : Nat), distinct (dstsOf l) = true → l[j]? = some o → o.dst = some k → placeOf k l b = some (b + j)
  | [], _, _, _, _, _, h, _ => by simp at h
  | x :: r, b, 0, o, k, hd, h, hk => by
    simp at h; subst h
    simp [placeOf, hk]
  | x :: r, b, j + 1, o, k, hd, h, hk => by
    have h : r[j]? = some o := by simpa using h
    simp only [placeOf]
    cases hx : x.dst with
    | none =>
      have hd' : distinct (dstsOf r) = true := by simpa [dstsOf, hx] using hd
      simp only
      rw [placeOf_spec r (b + 1) j o k hd' h hk]
      congr 1; omega
    | some d =>
      have hd' : (!(memF d (dstsOf r)) && distinct (dstsOf r)) = true := by
        have : dstsOf (x :: r) = d :: dstsOf r := by simp [dstsOf, hx]
        rw [this] at hd; exact hd
      simp only [Bool.and_eq_true, Bool.not_eq_true'] at hd'
      have hne : ¬ d = k := by
        intro e; subst e
        have : d ∈ dstsOf r := mem_dstsOf.2 ⟨j, o, h, hk⟩
        rw [← memF_iff] at this
        rw [this] at hd'; cases hd'.1
      have hb : Nat.beq d k = false := by
        cases hb : Nat.beq d k with
        | false => rfl
        | true => exact absurd (Nat.eq_of_beq_eq_true hb) hne
      simp only [hb]
      rw [placeOf_spec r (b + 1) j o k hd'.2 h hk]
      congr 1; omega
theorem orderOk_spec {all : List Oper} : ∀ (l : List Oper) (i : Nat) (o : Oper), orderOk all l = true → l[i]? = some o →
    (∀ k, .tmp k ∈ o.op.operands.toList → ∀ j, placeOf k all 0 = some j → j ∈ edgesTo o) ∧ (∀ j want, o.guard = some (j, want) → j ∈ edgesTo o)
  | [], _, _, _, h => by simp at h
  | x :: r, 0, o, hok, h => by
    simp at h; subst h
    simp only [orderOk, Bool.and_eq_true, List.all_eq_true] at hok
    refine ⟨fun k hk j hj => ?_, fun j want hg => ?_⟩
    · have := hok.1.1 _ hk
      simp only [hj] at this
      exact memF_iff.1 this
    · have := hok.1.2
      rw [hg] at this
      exact memF_iff.1 this
  | x :: r, i + 1, o, hok, h => by
    simp only [orderOk, Bool.and_eq_true] at hok
    exact orderOk_spec r i o hok.2 (by simpa using h)

/-! ### Those that change memory -/
def cnt (is : List (Value × Bool)) (i : Nat) : Nat := ((is.take i).filter (·.2)).length
theorem writersOf_at : ∀ (is : List (Value × Bool)) (b i : Nat) (v : Value), is[i]? = some (v, true) → (writersOf is b)[cnt is i]? = some (b + i)
  | [], _, _, _, h => by simp at h
  | (u, t) :: r, b, 0, v, h => by simp at h; obtain ⟨rfl, rfl⟩ := h; simp [writersOf, cnt]
  | (u, t) :: r, b, i + 1, v, h => by
    have := writersOf_at r (b + 1) i v (by simpa using h)
    cases t with
    | true => simp only [writersOf, cnt, List.take_succ_cons, List.filter_cons_of_pos, List.length_cons, List.getElem?_cons_succ]; rw [show b + (i + 1) = b + 1 + i by omega]; exact this
    | false => simp only [writersOf, cnt, List.take_succ_cons]; rw [List.filter_cons_of_neg (by simp)]; rw [show b + (i + 1) = b + 1 + i by omega]; exact this
theorem writersOf_of : ∀ (is : List (Value × Bool)) (b j x : Nat), (writersOf is b)[j]? = some x → ∃ m v, x = b + m ∧ is[m]? = some (v, true) ∧ cnt is m = j
  | [], _, _, _, h => by simp [writersOf] at h
  | (u, true) :: r, b, 0, x, h => by simp [writersOf] at h; exact ⟨0, u, by omega, rfl, rfl⟩
  | (u, true) :: r, b, j + 1, x, h => by
    simp only [writersOf, List.getElem?_cons_succ] at h
    obtain ⟨m, v, h1, h2, h3⟩ := writersOf_of r (b + 1) j x h
    exact ⟨m + 1, v, by omega, by simpa using h2, by simp only [cnt, List.take_succ_cons, List.filter_cons_of_pos, List.length_cons]; rw [← h3]; rfl⟩
  | (u, false) :: r, b, j, x, h => by
    simp only [writersOf] at h
    obtain ⟨m, v, h1, h2, h3⟩ := writersOf_of r (b + 1) j x h
    exact ⟨m + 1, v, by omega, by simpa using h2, by simp only [cnt, List.take_succ_cons]; rw [List.filter_cons_of_neg (by simp)]; exact h3⟩
theorem writersOf_length : ∀ (is : List (Value × Bool)) (b : Nat), (writersOf is b).length = cnt is is.length
  | [], _ => rfl
  | (u, true) :: r, b => by simp only [writersOf, List.length_cons, cnt, List.take_succ_cons, List.filter_cons_of_pos]; rw [writersOf_length r (b + 1)]; rfl
  | (u, false) :: r, b => by simp only [writersOf, List.length_cons, cnt, List.take_succ_cons]; rw [List.filter_cons_of_neg (by simp), writersOf_length r (b + 1)]; rfl
theorem chainOk_spec {preds : List Nat} : ∀ (ws : List Nat) (j x y : Nat), chainOk preds ws = true → ws[j]? = some x → ws[j + 1]? = some y → hasBit (preds.getD y 0) x = true
  | [], _, _, _, _, h, _ => by simp at h
  | [_], _, _, _, _, _, h => by simp at h
  | a :: b :: r, 0, x, y, hc, hx, hy => by
    simp at hx hy; subst hx; subst hy
    simp only [chainOk, Bool.and_eq_true] at hc; exact hc.1
  | a :: b :: r, j + 1, x, y, hc, hx, hy => by
    simp only [chainOk, Bool.and_eq_true] at hc
    exact chainOk_spec (b :: r) j x y hc.2 (by simpa using hx) (by simpa using hy)
theorem filter_le (p : Nat → Bool) : ∀ (ws : List Nat) (k : Nat), (∀ j x, ws[j]? = some x → p x = true → j < k) → (ws.filter p).length ≤ k
  | [], k, _ => by simp
  | a :: r, k, h => by
    by_cases ha : p a = true
    · have h0 := h 0 a (by simp) ha
      obtain ⟨k', rfl⟩ : ∃ k', k = k' + 1 := ⟨k - 1, by omega⟩
      rw [List.filter_cons_of_pos ha, List.length_cons]
      have := filter_le p r k' (fun j x hx hp => by have := h (j + 1) x (by simpa using hx) hp; omega)
      omega
    · rw [List.filter_cons_of_neg ha]
      exact filter_le p r k (fun j x hx hp => by have := h (j + 1) x (by simpa using hx) hp; omega)
theorem filter_ge (p : Nat → Bool) : ∀ (ws : List Nat) (k : Nat), k ≤ ws.length → (∀ j x, ws[j]? = some x → j < k → p x = true) → k ≤ (ws.filter p).length
  | [], k, hk, _ => by simpa using hk
  | a :: r, 0, _, _ => Nat.zero_le _
  | a :: r, k + 1, hk, h => by
    rw [List.filter_cons_of_pos (h 0 a (by simp) (by omega)), List.length_cons]
    have := filter_ge p r k (by simpa using hk) (fun j x hx hj => h (j + 1) x (by simpa using hx) (by omega))
    omega

mutual
theorem eqV_eq : ∀ (u v : Value), eqV u v = true → u = v
  | .bool a, v, h => by cases v <;> simp [eqV] at h; rw [h]
  | .int j a, v, h => by cases v <;> simp [eqV] at h; rw [h.1, h.2]
  | .float j a, v, h => by cases v <;> simp [eqV] at h
  | .complex j a b, v, h => by cases v <;> simp [eqV] at h
  | .string a, v, h => by cases v <;> simp [eqV] at h; rw [h]
  | .pointer a, v, h => by cases v <;> simp [eqV] at h; rw [h]
  | .slice a n c, v, h => by
    cases v <;> simp [eqV] at h
    rw [h.1.1, h.1.2, h.2]
  | .map a, v, h => by cases v <;> simp [eqV] at h; rw [h]
  | .chan a, v, h => by cases v <;> simp [eqV] at h
  | .func f a b, v, h => by
    cases v <;> simp [eqV] at h
    rename_i g c d
    rw [h.1.1, eqA_eq a c h.1.2, eqA_eq b d h.2]
  | .nilFunc, v, h => by cases v <;> simp [eqV] at h; rfl
  | .iface t x, v, h => by
    cases v <;> simp [eqV] at h
    rename_i t' y
    rw [h.1, eqV_eq x y h.2]
  | .nilIface, v, h => by cases v <;> simp [eqV] at h; rfl
  | .agg a, v, h => by
    cases v <;> simp [eqV] at h
    rename_i b
    rw [eqA_eq a b h]
  | .tuple a, v, h => by
    cases v <;> simp [eqV] at h
    rename_i b
    rw [eqA_eq a b h]
theorem eqA_eq : ∀ (u v : Array Value), eqA u v = true → u = v
  | ⟨a⟩, ⟨b⟩, h => by rw [eqL_eq a b (by simpa [eqA] using h)]
theorem eqL_eq : ∀ (u v : List Value), eqL u v = true → u = v
  | [], v, h => by cases v <;> simp [eqL] at h; rfl
  | a :: r, v, h => by
    cases v <;> simp [eqL] at h
    rename_i b s
    rw [eqV_eq a b h.1, eqL_eq r s h.2]
end
end Go.Ex
set_option linter.unusedVariables false
set_option linter.unusedSimpArgs false
namespace Go.Ex
open Go Go.RowKit
section
variable {E : Env} {B : Nat} {w0 : Base}

/-- What a run in the order of the text tells of each operation. -/
structure At (me : Self) (E : Env) (all l : List Oper) (n : Nat) (T' : TT) (is : List (Value × Bool)) (As : List AH) (i : Nat) (o : Oper) (Ti : TT) (Ai : AH) (v : Value) (b : Bool) : Prop where
  size : Ti.n = n
  same : ∀ k, k ∉ dstsOf (l.drop i) → T'.get k = Ti.get k
  flag : is[i]? = some (v, b)
  mem : As[cnt is i]? = some Ai
  step : (wantedT all o Ti = false ∧ v = undef ∧ b = false) ∨ (wantedT all o Ti = true ∧ ∃ A1, opRun me E o Ti Ai = some (v, A1) ∧ (b = false → A1 = none) ∧ (b = true → ∃ An, A1 = some An ∧ As[cnt is i + 1]? = some An))
  out : ∀ d, o.dst = some d → d < n → d ∉ dstsOf (l.drop (i + 1)) → T'.get d = v
theorem cnt_succ (v : Value) (b : Bool) (is : List (Value × Bool)) (i : Nat) : cnt ((v, b) :: is) (i + 1) = (if b then 1 else 0) + cnt is i := by
  unfold cnt
  cases b with
  | true => simp; omega
  | false => simp

theorem drawRun_spec {self : Self} {all : List Oper} : ∀ (l : List Oper) (T : TT) (A : AH) (T' : TT) (A' : AH) (is : List (Value × Bool)) (As : List AH), T.ok → drawRun self E all l T A = some (T', A', is, As) →
    T'.n = T.n ∧ T'.ok ∧ (∀ k, k ∉ dstsOf l → T'.get k = T.get k) ∧ is.length = l.length ∧ As.length = cnt is is.length + 1 ∧ As[0]? = some A ∧ As[cnt is is.length]? = some A' ∧
    ∀ i o, l[i]? = some o → ∃ Ti Ai v b, At self E all l T.n T' is As i o Ti Ai v b
  | [], T, A, T', A', is, As, hok, h => by
    cases h
    exact ⟨rfl, hok, fun _ _ => rfl, rfl, rfl, rfl, rfl, fun i o h => by simp at h⟩
  | o :: rest, T, A, T', A', is, As, hok, h => by
    -- one step, and the rest
    have main : ∀ (v : Value) (b : Bool) (A1 : AH) (is1 : List (Value × Bool)) (As1 : List AH), drawRun self E all rest (T.put o.dst v) A1 = some (T', A', is1, As1) → is = (v, b) :: is1 → As = (if b then A :: As1 else As1) → (b = false → A1 = A) →
        ((wantedT all o T = false ∧ v = undef ∧ b = false) ∨ (wantedT all o T = true ∧ ∃ Ax, opRun self E o T A = some (v, Ax) ∧ (b = false → Ax = none) ∧ (b = true → Ax = some A1))) →
        T'.n = T.n ∧ T'.ok ∧ (∀ k, k ∉ dstsOf (o :: rest) → T'.get k = T.get k) ∧ is.length = (o :: rest).length ∧ As.length = cnt is is.length + 1 ∧ As[0]? = some A ∧ As[cnt is is.length]? = some A' ∧
        ∀ i o', (o :: rest)[i]? = some o' → ∃ Ti Ai v b, At self E all (o :: rest) T.n T' is As i o' Ti Ai v b := by
      intro v b A1 is1 As1 hrun his hAs hA1 hstep
      obtain ⟨h1, h2, h3, h4, h5, h6, h7, h8⟩ := drawRun_spec rest _ _ _ _ _ _ (TT.put_ok hok _ _) hrun
      rw [TT.put_n] at h1
      have hAs' : ∀ j, As[(if b then 1 else 0) + j]? = As1[j]? := by
        intro j; rw [hAs]; cases b with
        | true => simp [Nat.add_comm 1 j]
        | false => simp
      have hput : ∀ k, o.dst ≠ some k → (T.put o.dst v).get k = T.get k := by
        intro k hk
        cases hd : o.dst with
        | none => rfl
        | some d => rw [TT.get_put hok.1, if_neg (fun h => hk (by rw [hd, h.2]))]
      refine ⟨h1, h2, ?_, by rw [his]; simp [h4], ?_, ?_, ?_, ?_⟩
      · intro k hk
        have hk1 : o.dst ≠ some k := fun e => hk (mem_dstsOf.2 ⟨0, o, rfl, e⟩)
        have hk2 : k ∉ dstsOf rest := fun e => hk (by
          obtain ⟨i, o', hi, hd⟩ := mem_dstsOf.1 e
          exact mem_dstsOf.2 ⟨i + 1, o', by simpa using hi, hd⟩)
        rw [h3 k hk2, hput k hk1]
      · rw [his, List.length_cons, cnt_succ, hAs]
        cases b with
        | true => simp only [if_true, List.length_cons, h5]; omega
        | false => simp only [Bool.false_eq_true, if_false, h5]; omega
      · cases b with
        | true => rw [hAs]; rfl
        | false => have := hAs' 0; simp only [Bool.false_eq_true, if_false, Nat.add_zero] at this; rw [this, h6, hA1 rfl]
      · rw [his, List.length_cons, cnt_succ, hAs' _]; exact h7
      · intro i o' hi
        cases i with
        | zero =>
          simp at hi; subst hi
          refine ⟨T, A, v, b, rfl, ?_, by rw [his]; rfl, ?_, ?_, ?_⟩
          · intro k hk
            rw [List.drop_zero] at hk
            have hk1 : o.dst ≠ some k := fun e => hk (mem_dstsOf.2 ⟨0, o, rfl, e⟩)
            have hk2 : k ∉ dstsOf rest := fun e => hk (by
              obtain ⟨i, o', hi, hd⟩ := mem_dstsOf.1 e
              exact mem_dstsOf.2 ⟨i + 1, o', by simpa using hi, hd⟩)
            rw [h3 k hk2, hput k hk1]
          · have e0 : cnt is 0 = 0 := by simp [cnt]
            rw [e0]
            cases b with
            | true => rw [hAs]; rfl
            | false => have := hAs' 0; simp only [Bool.false_eq_true, if_false, Nat.add_zero] at this; rw [this, h6, hA1 rfl]
          · rcases hstep with hs | ⟨hw, Ax, hop, hn, hs⟩
            · exact .inl hs
            · refine .inr ⟨hw, Ax, hop, hn, fun hb => ⟨A1, hs hb, ?_⟩⟩
              have e0 : cnt is 0 = 0 := by simp [cnt]
              subst hb
              have := hAs' 0
              simp only [if_true, Nat.add_zero] at this
              rw [e0, Nat.zero_add, this, h6]
          · intro d hd hlt hnot
            have hnot : d ∉ dstsOf rest := by simpa using hnot
            rw [h3 d hnot, hd, TT.get_put hok.1, if_pos ⟨hlt, rfl⟩]
        | succ i =>
          obtain ⟨Ti, Ai, v', b', q⟩ := h8 i o' (by simpa using hi)
          refine ⟨Ti, Ai, v', b', by rw [q.size, TT.put_n], fun k hk => q.same k (by simpa using hk), by rw [his]; simpa using q.flag, ?_, ?_, ?_⟩
          · rw [his, cnt_succ, hAs']; exact q.mem
          · rcases q.step with hs | ⟨hw, Ax, hop, hn, hs⟩
            · exact .inl hs
            · refine .inr ⟨hw, Ax, hop, hn, fun hb => ?_⟩
              obtain ⟨An, h1, h2⟩ := hs hb
              refine ⟨An, h1, ?_⟩
              rw [his, cnt_succ, Nat.add_assoc, hAs']; exact h2
          · intro d hd hlt hnot
            exact q.out d hd (by rw [TT.put_n]; exact hlt) (by simpa using hnot)
    simp only [drawRun] at h
    split at h
    · rename_i hw
      split at h
      · rename_i T1 A1 is1 As1 hrun
        cases h
        exact main undef false A is1 _ hrun rfl rfl (fun _ => rfl) (.inl ⟨hw, rfl, rfl⟩)
      · cases h
    · rename_i hw
      split at h
      · rename_i v hop
        split at h
        · rename_i T1 A1 is1 As1 hrun
          cases h
          exact main v false A is1 _ hrun rfl rfl (fun _ => rfl) (.inr ⟨hw, none, hop, (fun _ => rfl), (fun h => by cases h)⟩)
        · cases h
      · rename_i v A1 hop
        split at h
        · rename_i T1 A2 is1 As1 hrun
          cases h
          exact main v true A1 is1 As1 hrun rfl rfl (fun h => by cases h) (.inr ⟨hw, some A1, hop, (fun h => by cases h), (fun _ => rfl)⟩)
        · cases h
      · cases h

theorem sameAt_spec {self : Self} {o : Oper} {T : TT} {v : Value} : ∀ (l : List AH), sameAt self E o T v l = true → ∀ A ∈ l, opRun self E o T A = some (v, none)
  | [], _, A, h => by cases h
  | X :: r, hs, A, hm => by
    simp only [sameAt, Bool.and_eq_true] at hs
    rcases List.mem_cons.1 hm with rfl | hm
    · have := hs.1
      split at this
      · rename_i u hu
        rw [← eqV_eq u v this]; exact hu
      · cases this
    · exact sameAt_spec r hs.2 A hm
theorem winOk_spec {self : Self} {all : List Oper} {preds ws : List Nat} {As : List AH} {T : TT} : ∀ (l : List Oper) (is : List (Value × Bool)) (b i : Nat) (o : Oper) (v : Value), winOk self E all preds ws As T l is b = true → l[i]? = some o → is[i]? = some (v, false) → wantedT all o T = true →
    sameAt self E o T v ((As.drop (winLo (preds.getD (b + i) 0) ws)).take (winHi preds (b + i) ws + 1 - winLo (preds.getD (b + i) 0) ws)) = true
  | [], _, _, _, _, _, _, h, _, _ => by simp at h
  | x :: r, [], _, _, _, _, _, _, h, _ => by simp at h
  | x :: r, (u, t) :: is, b, 0, o, v, hw, h, hi, hwant => by
    simp at h hi; subst h; obtain ⟨rfl, rfl⟩ := hi
    simp only [winOk, Bool.and_eq_true, hwant] at hw
    exact hw.1
  | x :: r, (u, t) :: is, b, i + 1, o, v, hw, h, hi, hwant => by
    simp only [winOk, Bool.and_eq_true] at hw
    have := winOk_spec r is (b + 1) i o v hw.2 (by simpa using h) (by simpa using hi) hwant
    rwa [show b + 1 + i = b + (i + 1) by omega] at this
end
end Go.Ex
set_option linter.unusedVariables false
set_option linter.unusedSimpArgs false
namespace Go.Ex
open Go Go.RowKit
section
variable {E : Env} {B : Nat} {w0 : Base}

theorem dst_uniq {l : List Oper} (hd : distinct (dstsOf l) = true) {i j : Nat} {o p : Oper} {k : Nat} (hi : l[i]? = some o) (hj : l[j]? = some p) (ho : o.dst = some k) (hp : p.dst = some k) : i = j := by
  have h1 := placeOf_spec l 0 i o k hd hi ho
  have h2 := placeOf_spec l 0 j p k hd hj hp
  rw [h1] at h2
  simp at h2; exact h2
theorem not_in_drop {l : List Oper} (hd : distinct (dstsOf l) = true) {j : Nat} {p : Oper} {k : Nat} (hj : l[j]? = some p) (hp : p.dst = some k) {i : Nat} (hlt : j < i) : k ∉ dstsOf (l.drop i) := by
  intro h
  obtain ⟨m, o, hm, ho⟩ := mem_dstsOf.1 h
  rw [List.getElem?_drop] at hm
  have := dst_uniq hd hm hj ho hp
  omega

/-- Where a walk in some order stands. -/
structure Mid (E : Env) (B : Nat) (w0 : Base) (ops : Array Oper) (T' : TT) (ws : List Nat) (As : List AH) (A : AH) (ρ0 : Ren) (ds : List Deferred) (listed : Array Bool) (a : Act) (w : World) (ρ : Ren) (k : Nat) (Ak : AH) : Prop where
  size : listed.size = ops.size
  closed : ClosedS ops.toList (fun j => listed.getD j false = true)
  pre : ∀ j x, ws[j]? = some x → (listed.getD x false = true ↔ j < k)
  le : k ≤ ws.length
  mem : As[k]? = some Ak
  rel : Rel E.P E.G B w0 ρ Ak w
  keep : Keep A Ak
  ren : Ren.le ρ0 ρ
  tsize : a.tmps.size = T'.n
  tmps : ∀ k, k < T'.n → (∀ (j : Nat) (o : Oper), ops.toList[j]? = some o → o.dst = some k → listed.getD j false = true) → ∃ u, a.tmps[k]? = some u ∧ VR ρ (T'.get k) u
  defers : a.defers = ds

section mid
variable {self : Self} {ops : Array Oper} {T T' : TT} {is : List (Value × Bool)} {As : List AH} {A A' : AH} {ρ0 ρ : Ren} {ds : List Deferred} {listed : Array Bool} {a : Act} {w : World} {k : Nat} {Ak : AH} {ws : List Nat}

/-- The operands of an operation that may come next. -/
theorem Mid.opers (M : Mid E B w0 ops T' ws As A ρ0 ds listed a w ρ k Ak) (hok : T'.ok) (hd : distinct (dstsOf ops.toList) = true) (hor : orderOk ops.toList ops.toList = true) {i : Nat} {o : Oper} (ho : ops.toList[i]? = some o)
    (hr : ∀ e ∈ edgesTo o, listed.getD e false = true) : ∀ x ∈ o.op.operands.toList, okX E x = true → VR ρ (evT T' x) (a.eval x) := by
  intro x hx hok2
  cases x with
  | tmp d =>
    show VR ρ (T'.get d) (a.tmps.getD d undef)
    by_cases hlt : d < T'.n
    · obtain ⟨u, hu, hv⟩ := M.tmps d hlt (fun j p hj hp => hr j ((orderOk_spec _ i o hor ho).1 d hx j (by have := placeOf_spec _ 0 j p d hd hj hp; simpa using this)))
      have : a.tmps.getD d undef = u := by simp [hu]
      rw [this]; exact hv
    · have h1 : T'.get d = undef := by simp only [TT.get]; rw [hok.2 d (Nat.le_of_not_lt hlt)]
      have h2 : a.tmps.getD d undef = undef := by
        have hs := M.tsize
        have : a.tmps[d]? = none := Array.getElem?_eq_none (Nat.le_trans (Nat.le_of_eq hs) (Nat.le_of_not_lt hlt))
        simp [this]
      rw [h1, h2]; exact undef_VR
  | const v => exact VR.plain v hok2
  | global g =>
    obtain ⟨q, hq⟩ := M.rel.glob g (blt_true hok2)
    exact ⟨⟨g, 0, none⟩, ⟨_, hq, by simp⟩, rfl⟩
  | func f => exact ⟨.func f, #[], #[], rfl, rfl, rfl, rfl⟩
theorem Mid.guard (M : Mid E B w0 ops T' ws As A ρ0 ds listed a w ρ k Ak) (hd : distinct (dstsOf ops.toList) = true) (hor : orderOk ops.toList ops.toList = true) {i : Nat} {o : Oper} (ho : ops.toList[i]? = some o)
    (hr : ∀ e ∈ edgesTo o, listed.getD e false = true) : Region.wanted o (yielded ops a.tmps) = wantedT ops.toList o T' := by
  refine wanted_run (ρ := ρ) fun j want hg o' ho' d hdst => ⟨fun hlt => M.tmps d hlt fun m p hm hp => ?_, fun hn => Array.getElem?_eq_none (Nat.le_trans (Nat.le_of_eq M.tsize) (Nat.le_of_not_lt hn))⟩
  have ho'' : ops.toList[j]? = some o' := by rw [Array.getElem?_toList]; exact ho'
  have := dst_uniq hd hm ho'' hp hdst
  subst this
  exact hr m ((orderOk_spec _ i o hor ho).2 m want hg)

/-- In the order of the text, an operation looks at what it finds at the end. -/
theorem At.evT_eq {n i : Nat} {o : Oper} {Ti : TT} {Ai : AH} {v : Value} {b : Bool} (q : At self E ops.toList ops.toList n T' is As i o Ti Ai v b) (hd : distinct (dstsOf ops.toList) = true) (hor : orderOk ops.toList ops.toList = true) (heb : edgesBack ops.toList 0 = true)
    (ho : ops.toList[i]? = some o) : (∀ x ∈ o.op.operands.toList, evT Ti x = evT T' x) ∧ (T'.n = n → wantedT ops.toList o Ti = wantedT ops.toList o T') := by
  have hback := edgesBack_spec ops.toList 0 i o heb ho
  have get : ∀ d, (∀ j p, ops.toList[j]? = some p → p.dst = some d → j < i) → T'.get d = Ti.get d := by
    intro d h
    refine q.same d fun hm => ?_
    obtain ⟨m, p, hm, hp⟩ := mem_dstsOf.1 hm
    rw [List.getElem?_drop] at hm
    have := h _ _ hm hp
    omega
  refine ⟨fun x hx => ?_, fun hn => ?_⟩
  · cases x with
    | tmp d =>
      exact (get d fun j p hj hp => by
        have := hback j ((orderOk_spec _ i o hor ho).1 d hx j (by have := placeOf_spec _ 0 j p d hd hj hp; simpa using this))
        omega).symm
    | _ => rfl
  · unfold wantedT
    cases hg : o.guard with
    | none => rfl
    | some p =>
      obtain ⟨j, want⟩ := p
      simp only
      have hj := hback j ((orderOk_spec _ i o hor ho).2 j want hg)
      have : yieldedT ops.toList Ti j = yieldedT ops.toList T' j := by
        unfold yieldedT
        cases ho' : ops.toList[j]? with
        | none => rfl
        | some o' =>
          cases hdst : o'.dst with
          | none => simp [hdst]
          | some d =>
            have := get d fun m p hm hp => by
              have := dst_uniq hd hm ho' hp hdst
              omega
            simp only [hdst, q.size, hn, this]
      rw [this]

theorem count_set {listed : Array Bool} {i : Nat} (hi : i < listed.size) (hf : listed.getD i true = false) : (listed.setIfInBounds i true).toList.count false + 1 = listed.toList.count false := by
  have hi' : i < listed.toList.length := by simpa using hi
  have hv : listed.toList[i] = false := by
    have : listed.getD i true = listed[i] := by simp [hi]
    rw [this] at hf
    simpa using hf
  rw [Array.toList_setIfInBounds, List.count_set hi']
  have : 0 < listed.toList.count false := by
    rw [List.count_pos_iff]
    rw [← hv]; exact List.getElem_mem hi'
  rw [hv]
  have e1 : (false == false) = true := rfl
  have e2 : (true == false) = false := rfl
  rw [e1, e2, if_pos rfl, if_neg (by simp)]
  omega

theorem anyRun (hS : Sound E self) (hE : EnvOk E) (ro : Option Nat) {Q : Exit → Act → World → Prop} (hok : T'.ok) (hn : T'.n = T.n) (hd : distinct (dstsOf ops.toList) = true) (hor : orderOk ops.toList ops.toList = true) (heb : edgesBack ops.toList 0 = true)
    (hAt : ∀ (i : Nat) (o : Oper), ops.toList[i]? = some o → ∃ Ti Ai v b, At self E ops.toList ops.toList T.n T' is As i o Ti Ai v b) (hlenI : is.length = ops.toList.length) (hA' : As[(writersOf is 0).length]? = some A')
    (hdraw : drawOk self E ops.toList T' is As = true)
    (hQ : ∀ ρ' a' w', Ren.le ρ0 ρ' → Rel E.P E.G B w0 ρ' A' w' → Keep A A' → TTR ρ' T' a'.tmps → T'.ok → a'.defers = ds → Q .normal a' w') :
    ∀ (fuel : Nat) (listed : Array Bool) (a : Act) (w : World) (ρ : Ren) (k : Nat) (Ak : AH), listed.toList.count false ≤ fuel → Mid E B w0 ops T' (writersOf is 0) As A ρ0 ds listed a w ρ k Ak →
      wpAnyIn (WF ro) 0 E.P .any ops Q fuel listed a w := by
  have hedge : ∀ {o : Oper} {listed : Array Bool}, (∀ e ∈ o.after, Region.binds .any e = true → listed.getD e.on false = true) → ∀ e ∈ edgesTo o, listed.getD e false = true := by
    intro o listed h e he
    unfold edgesTo at he
    obtain ⟨x, hx, rfl⟩ := List.mem_map.1 he
    obtain ⟨h1, h2⟩ := List.mem_filter.1 hx
    exact h x (by simpa using h1) h2
  have hedge' : ∀ {o : Oper} {listed : Array Bool}, (∀ e ∈ edgesTo o, listed.getD e false = true) → ∀ e ∈ o.after, Region.binds .any e = true → listed.getD e.on false = true := by
    intro o listed h e he hb
    exact h e.on (List.mem_map.2 ⟨e, List.mem_filter.2 ⟨by simpa using he, hb⟩, rfl⟩)
  -- none may come: all have
  have allDone : ∀ {listed : Array Bool} {a : Act} {w : World} {ρ : Ren} {k : Nat} {Ak : AH}, Mid E B w0 ops T' (writersOf is 0) As A ρ0 ds listed a w ρ k Ak → Region.ready .any ops listed = [] → Q .normal a w := by
    intro listed a w ρ k Ak M hr
    have all : ∀ i, i < ops.size → listed.getD i false = true := by
      intro i
      induction i using Nat.strongRecOn with
      | _ i ih =>
        intro hi
        cases hl : listed.getD i false with
        | true => rfl
        | false =>
          exfalso
          have hi2 : i < listed.size := by rw [M.size]; exact hi
          have ho : ops[i]? = some ops[i] := Array.getElem?_eq_getElem hi
          have : i ∈ Region.ready .any ops listed := by
            refine mem_ready.2 ⟨?_, ops[i], ho, hedge' fun e he => ?_⟩
            · simp [hi2] at hl ⊢; exact hl
            · have := edgesBack_spec ops.toList 0 i ops[i] heb (by rw [Array.getElem?_toList]; exact ho) e he
              exact ih e (by omega) (by omega)
          rw [hr] at this; cases this
    have hk : k = (writersOf is 0).length := by
      have hle := M.le
      rcases Nat.lt_or_ge k (writersOf is 0).length with hlt | hge
      · have hx : (writersOf is 0)[k]? = some (writersOf is 0)[k] := List.getElem?_eq_getElem hlt
        obtain ⟨m, v, h1, h2, h3⟩ := writersOf_of is 0 k _ hx
        have hm : m < is.length := (List.getElem?_eq_some_iff.1 h2).1
        have := (M.pre k _ hx).1 (all _ (by rw [h1, ← Array.length_toList, ← hlenI]; omega))
        omega
      · omega
    have hAk := M.mem
    rw [hk, hA'] at hAk
    cases hAk
    refine hQ ρ a w M.ren M.rel M.keep ⟨M.tsize, fun d hd => M.tmps d hd fun j o hj _ => all j ?_⟩ hok M.defers
    have := (List.getElem?_eq_some_iff.1 hj).1
    simpa using this
  -- one that may come
  have one : ∀ {listed : Array Bool} {a : Act} {w : World} {ρ : Ren} {k : Nat} {Ak : AH} (i : Nat) (K : Act → World → Prop), Mid E B w0 ops T' (writersOf is 0) As A ρ0 ds listed a w ρ k Ak → i ∈ Region.ready .any ops listed →
      (∀ a' w' ρ' k' Ak', Mid E B w0 ops T' (writersOf is 0) As A ρ0 ds (listed.setIfInBounds i true) a' w' ρ' k' Ak' → K a' w') → wpOpIn (WF ro) 0 E.P ops Q i K a w := by
    intro listed a w ρ k Ak i K M hi hK
    obtain ⟨hun, o, ho, haft⟩ := mem_ready.1 hi
    have hr := hedge haft
    have hoL : ops.toList[i]? = some o := by rw [Array.getElem?_toList]; exact ho
    have hiS : i < ops.size := (Array.getElem?_eq_some_iff.1 ho).1
    have hiL : i < listed.size := by rw [M.size]; exact hiS
    have hunF : listed.getD i false = false := by simp [hiL] at hun ⊢; exact hun
    obtain ⟨Ti, Ai, v, b, q⟩ := hAt i o hoL
    obtain ⟨hev, hwant⟩ := q.evT_eq hd hor heb hoL
    have hwant := hwant hn
    have hop := M.opers hok hd hor hoL hr
    have hopi : ∀ x ∈ o.op.operands.toList, okX E x = true → VR ρ (evT Ti x) (a.eval x) := fun x hx h => by rw [hev x hx]; exact hop x hx h
    have hwd := M.guard hd hor hoL hr
    have getL : ∀ j, (listed.setIfInBounds i true).getD j false = (if j = i then true else listed.getD j false) := by
      intro j
      by_cases hj : j = i
      · subst hj; simp [hiL]
      · simp only [if_neg hj]
        simp only [Array.getD_eq_getD_getElem?]
        rw [Array.getElem?_setIfInBounds_ne (fun e => hj e.symm)]
    have closed' : ClosedS ops.toList (fun j => (listed.setIfInBounds i true).getD j false = true) := by
      intro j p hj hlj e he
      simp only [getL] at hlj ⊢
      by_cases h1 : e = i
      · rw [if_pos h1]
      · rw [if_neg h1]
        by_cases h2 : j = i
        · subst h2
          rw [hoL] at hj; cases hj
          exact hr e he
        · rw [if_neg h2] at hlj
          exact M.closed j p hj hlj e he
    have tm' : ∀ {ρ' : Ren} {u : Value}, Ren.le ρ ρ' → VR ρ' v u → ∀ d, d < T'.n → (∀ (j : Nat) (p : Oper), ops.toList[j]? = some p → p.dst = some d → (listed.setIfInBounds i true).getD j false = true) → ∃ z, (a.put o.dst u).tmps[d]? = some z ∧ VR ρ' (T'.get d) z := by
      intro ρ' u hle hv d hlt hall
      by_cases hdst : o.dst = some d
      · refine ⟨u, ?_, ?_⟩
        · rw [hdst]
          simp only [Act.put]
          exact Array.getElem?_setIfInBounds_self_of_lt (by rw [M.tsize]; exact hlt)
        · rw [q.out d hdst (by rw [← hn]; exact hlt) (not_in_drop hd hoL hdst (Nat.lt_succ_self i))]; exact hv
      · obtain ⟨z, hz, hr'⟩ := M.tmps d hlt fun j p hj hp => by
          have := hall j p hj hp
          rw [getL] at this
          by_cases hji : j = i
          · subst hji
            rw [hoL] at hj; cases hj
            exact absurd hp hdst
          · rwa [if_neg hji] at this
        refine ⟨z, ?_, hr'.mono hle⟩
        cases hx : o.dst with
        | none => exact hz
        | some e =>
          simp only [Act.put]
          rw [Array.getElem?_setIfInBounds_ne (fun h => hdst (by rw [hx, h]))]; exact hz
    have tsz : ∀ u, (a.put o.dst u).tmps.size = T'.n := by
      intro u
      cases o.dst with
      | none => exact M.tsize
      | some e => simp [Act.put, M.tsize]
    -- nothing of memory changed
    have quiet : b = false → ∀ {ρ' : Ren} {u : Value} {w' : World}, Ren.le ρ ρ' → VR ρ' v u → Rel E.P E.G B w0 ρ' Ak w' → K (a.put o.dst u) w' := by
      intro hb ρ' u w' hle hv R'
      refine hK _ _ ρ' k Ak ⟨by simp [M.size], closed', fun j x hx => ?_, M.le, M.mem, R', M.keep, Ren.le_trans M.ren hle, tsz u, tm' hle hv, by rw [Act.put_defers']; exact M.defers⟩
      rw [getL]
      have hne : ¬ x = i := by
        intro e; subst e
        obtain ⟨m, v', h1, h2, _⟩ := writersOf_of is 0 j x hx
        rw [Nat.zero_add] at h1
        rw [← h1, q.flag] at h2
        cases h2; cases hb
      rw [if_neg hne]; exact M.pre j x hx
    unfold wpOpIn
    simp only [ho, hwd, ← hwant]
    rcases q.step with ⟨hw, hv, hb⟩ | ⟨hw, A1, hrun, hnone, hsome⟩
    · simp only [hw, Bool.false_eq_true, if_false]
      exact ⟨fun _ _ => trivial, quiet hb (Ren.le_refl ρ) (by rw [hv]; exact undef_VR) M.rel⟩
    · simp only [hw, if_true]
      cases b with
      | false =>
        obtain rfl := hnone rfl
        -- what it comes to here
        have here : ∃ Tx, opRun self E o Tx Ak = some (v, none) ∧ ∀ x ∈ o.op.operands.toList, okX E x = true → VR ρ (evT Tx x) (a.eval x) := by
          unfold drawOk at hdraw
          split at hdraw
          · rename_i hws
            have hk0 : k = 0 := by have := M.le; rw [hws] at this; simpa using this
            have hc0 : cnt is i = 0 := by
              rcases Nat.eq_zero_or_pos (cnt is i) with h | h
              · exact h
              · exfalso
                have h1 : cnt is i ≤ cnt is is.length := by
                  unfold cnt
                  have : ((is.take i).filter (·.2)).Sublist ((is.take is.length).filter (·.2)) := by
                    rw [List.take_length]
                    exact (List.take_sublist i is).filter _
                  exact this.length_le
                have h2 := writersOf_length is 0
                rw [hws] at h2
                simp at h2
                omega
            have := q.mem
            rw [hc0, ← hk0, M.mem] at this
            cases this
            exact ⟨Ti, hrun, hopi⟩
          · simp only [Bool.and_eq_true] at hdraw
            have hwin := winOk_spec ops.toList is 0 i o v hdraw.2 hoL q.flag (by rw [← hwant]; exact hw)
            rw [Nat.zero_add] at hwin
            refine ⟨T', sameAt_spec _ hwin Ak ?_, hop⟩
            have hpi := predsOf_spec ops.toList 0 [] rfl rfl (fun j hj => by omega)
            have hlo : winLo ((predsOf ops.toList 0 []).getD i 0) (writersOf is 0) ≤ k := by
              refine filter_le _ _ k fun j x hx hp => (M.pre j x hx).1 ?_
              exact hpi i _ M.closed (fun p hp e he => by rw [hoL] at hp; cases hp; exact hr e he) x hp
            have hhi : k ≤ winHi (predsOf ops.toList 0 []) i (writersOf is 0) := by
              refine filter_ge _ _ k M.le fun j x hx hj => ?_
              have hxl := (M.pre j x hx).2 hj
              cases hb : hasBit ((predsOf ops.toList 0 []).getD x 0) i with
              | false => rfl
              | true =>
                exfalso
                have := hpi x _ M.closed (fun p hp e he => M.closed x p hp hxl e he) i hb
                rw [hunF] at this; cases this
            have hidx : ((As.drop (winLo ((predsOf ops.toList 0 []).getD i 0) (writersOf is 0))).take (winHi (predsOf ops.toList 0 []) i (writersOf is 0) + 1 - winLo ((predsOf ops.toList 0 []).getD i 0) (writersOf is 0)))[k - winLo ((predsOf ops.toList 0 []).getD i 0) (writersOf is 0)]? = some Ak := by
              rw [List.getElem?_take, if_pos (by omega), List.getElem?_drop, show winLo ((predsOf ops.toList 0 []).getD i 0) (writersOf is 0) + (k - winLo ((predsOf ops.toList 0 []).getD i 0) (writersOf is 0)) = k by omega]
              exact M.mem
            exact List.mem_of_getElem? hidx
        obtain ⟨Tx, hTx, hopx⟩ := here
        exact sound_opRun hS hE M.rel hopx hTx ro (fun ρ' u w' hle hv R' _ => quiet rfl hle hv R')
      | true =>
        obtain ⟨An, hAn, hAs⟩ := hsome rfl
        subst hAn
        have hwi := writersOf_at is 0 i v q.flag
        rw [Nat.zero_add] at hwi
        have hck : cnt is i = k := by
          have hnot : ¬ cnt is i < k := fun h => by
            have := (M.pre _ _ hwi).2 h
            rw [hunF] at this; cases this
          rcases Nat.eq_zero_or_pos (cnt is i) with h0 | hpos
          · omega
          · have hlen : cnt is i < (writersOf is 0).length := (List.getElem?_eq_some_iff.1 hwi).1
            obtain ⟨c, hc⟩ : ∃ c, cnt is i = c + 1 := ⟨cnt is i - 1, by omega⟩
            have hpx : (writersOf is 0)[c]? = some (writersOf is 0)[c] := List.getElem?_eq_getElem (by omega)
            unfold drawOk at hdraw
            split at hdraw
            · rename_i hws
              rw [hws] at hlen; simp at hlen
            · simp only [Bool.and_eq_true] at hdraw
              have hch := chainOk_spec _ c _ i hdraw.1 hpx (by rw [← hc]; exact hwi)
              have hpi := predsOf_spec ops.toList 0 [] rfl rfl (fun j hj => by omega) i _ M.closed (fun p hp e he => by rw [hoL] at hp; cases hp; exact hr e he) _ hch
              have := (M.pre c _ hpx).1 hpi
              omega
        have hAi := q.mem
        rw [hck, M.mem] at hAi
        cases hAi
        rw [hck] at hAs
        refine sound_opRun hS hE M.rel hopi hrun ro ?_
        intro ρ' u w' hle hv R' hk
        have hlen : cnt is i < (writersOf is 0).length := (List.getElem?_eq_some_iff.1 hwi).1
        refine hK _ _ ρ' (k + 1) An ⟨by simp [M.size], closed', fun j x hx => ?_, by omega, hAs, R', M.keep.trans hk, Ren.le_trans M.ren hle, tsz u, tm' hle hv, by rw [Act.put_defers']; exact M.defers⟩
        rw [getL]
        by_cases hxi : x = i
        · subst hxi
          rw [if_pos rfl]
          obtain ⟨m, v', h1, h2, h3⟩ := writersOf_of is 0 j x hx
          rw [Nat.zero_add] at h1
          subst h1
          constructor
          · intro _; omega
          · intro _; rfl
        · rw [if_neg hxi, M.pre j x hx]
          constructor
          · intro h; omega
          · intro h
            rcases Nat.lt_or_ge j k with h' | h'
            · exact h'
            · have hjk : j = k := by omega
              subst hjk
              rw [← hck, hwi] at hx
              cases hx
              exact absurd rfl hxi
  intro fuel
  induction fuel with
  | zero =>
    intro listed a w ρ k Ak hc M
    have hr : Region.ready .any ops listed = [] := by
      cases hrd : Region.ready .any ops listed with
      | nil => rfl
      | cons i r =>
        exfalso
        have hi : i ∈ Region.ready .any ops listed := by rw [hrd]; simp
        obtain ⟨hun, o, ho, _⟩ := mem_ready.1 hi
        have := count_set (by rw [M.size]; exact (Array.getElem?_eq_some_iff.1 ho).1) hun
        omega
    exact ⟨hr, allDone M hr⟩
  | succ fuel ih =>
    intro listed a w ρ k Ak hc M
    refine ⟨fun hr => allDone M hr, fun i hi => one i _ M hi fun a' w' ρ' k' Ak' M' => ih _ _ _ ρ' k' Ak' ?_ M'⟩
    obtain ⟨hun, o, ho, _⟩ := mem_ready.1 hi
    have := count_set (by rw [M.size]; exact (Array.getElem?_eq_some_iff.1 ho).1) hun
    omega
end mid

theorem sound_plainDraw {self : Self} (hS : Sound E self) (hE : EnvOk E) (id : Nat) (ops : Array Oper) (ro : Option Nat) {Q : Exit → Act → World → Prop} {T T' : TT} {A A' : AH} {a : Act} {w : World} {ρ : Ren} {is : List (Value × Bool)} {As : List AH}
    (R : Rel E.P E.G B w0 ρ A w) (hT : TTR ρ T a.tmps) (hok : T.ok) (hd : distinct (dstsOf ops.toList) = true) (hor : orderOk ops.toList ops.toList = true) (heb : edgesBack ops.toList 0 = true)
    (hrun : drawRun self E ops.toList ops.toList T A = some (T', A', is, As)) (hdraw : drawOk self E ops.toList T' is As = true)
    (hQ : ∀ ρ' a' w', Ren.le ρ ρ' → Rel E.P E.G B w0 ρ' A' w' → Keep A A' → TTR ρ' T' a'.tmps → T'.ok → a'.defers = a.defers → Q .normal a' w') :
    (Code.region id ops true).wpIn (WF ro) 0 E.P Q a w := by
  obtain ⟨h1, h2, h3, h4, h5, h6, h7, h8⟩ := drawRun_spec ops.toList T A T' A' is As hok hrun
  refine wpIn_region_any hE.mixed ?_
  refine anyRun (T := T) (ρ0 := ρ) (A := A) (A' := A') (ds := a.defers) hS hE ro h2 h1 hd hor heb h8 h4 (by rw [writersOf_length]; exact h7) hdraw hQ ops.size _ a _ ρ 0 A ?_ ?_
  · have := List.count_le_length (a := false) (l := (Array.replicate ops.size false).toList)
    simp
  · refine ⟨by simp, ?_, ?_, Nat.zero_le _, h6, R.drewTo _, Keep.refl A, Ren.le_refl ρ, by rw [h1]; exact hT.1, ?_, rfl⟩
    · intro i o _ hl
      simp only [Array.getD_eq_getD_getElem?, Array.getElem?_replicate] at hl
      split at hl <;> cases hl
    · intro j x hx
      constructor
      · intro hl
        simp only [Array.getD_eq_getD_getElem?, Array.getElem?_replicate] at hl
        split at hl <;> cases hl
      · intro h; omega
    · intro k hk hall
      have hnot : k ∉ dstsOf ops.toList := by
        intro hm
        obtain ⟨i, o, hi, hdst⟩ := mem_dstsOf.1 hm
        have hl := hall i o hi hdst
        simp only [Array.getD_eq_getD_getElem?, Array.getElem?_replicate] at hl
        split at hl <;> cases hl
      rw [h3 k hnot]
      exact hT.2 k (by rw [← h1]; exact hk)
end
end Go.Ex
set_option linter.unusedVariables false
set_option linter.unusedSimpArgs false
namespace Go.Ex
open Go Go.RowKit
section
variable {P : Program} {G B : Nat} {w0 : Base} {w w' : World} {ρ ρ' ρX : Ren} {A A' X : AH}

/-- The blocks that a memory's objects are. -/
def imgOf (ρ : Ren) (A : AH) : Nat → Prop := fun b => ∃ id o x, A.get id = some o ∧ ρ id = some x ∧ b = x.1
def Apart (ρ : Ren) (A : AH) (ρX : Ren) (X : AH) : Prop := ∀ b, imgOf ρ A b → ¬ imgOf ρX X b
theorem Apart.symm (h : Apart ρ A ρX X) : Apart ρX X ρ A := fun b h1 h2 => h b h2 h1
theorem Rel.img_lt (R : Rel P G B w0 ρ A w) {b : Nat} (h : imgOf ρ A b) : b < w.heap.size := by
  obtain ⟨id, o, x, h1, h2, rfl⟩ := h
  obtain ⟨b', k, h3, h4⟩ := (R.objs id o h1).ren
  rw [h3] at h2; cases h2; exact h4

/-- Two memories over one world: the one may go a step; the other's blocks are hidden from it. -/
theorem Rel.hide (R : Rel P G B w0 ρ A w) (RX : Rel P G B w0 ρX X w) (hd : Apart ρ A ρX X) : Rel P G B ⟨w, fun b => imgOf ρX X b ∨ w0.hid b⟩ ρ A w :=
  ⟨⟨rfl, rfl, rfl, Nat.le_refl _, fun _ _ => rfl⟩, R.sz, R.G_next, R.objs, R.inj, R.fresh, R.glob, R.small,
    fun b hb => ⟨by
      rcases hb with hb | hb
      · exact RX.img_lt hb
      · exact Nat.lt_of_lt_of_le (R.hid b hb).1 R.below.size, rfl⟩,
    fun id o x h hx hb => by
      rcases hb with hb | hb
      · exact hd x.1 ⟨id, o, x, h, hx, rfl⟩ hb
      · exact R.noimg id o x h hx hb⟩
theorem Rel.unhide (R : Rel P G B w0 ρ A w) (RX : Rel P G B w0 ρX X w) (R' : Rel P G B ⟨w, fun b => imgOf ρX X b ∨ w0.hid b⟩ ρ' A' w') :
    Rel P G B w0 ρ' A' w' ∧ Rel P G B w0 ρX X w' ∧ Apart ρ' A' ρX X := by
  have hb : Below B w0.w w' := R.below.trans R'.below
  have hh : ∀ b, w0.hid b → b < w0.w.heap.size ∧ w'.heap[b]? = w0.w.heap[b]? := fun b h => ⟨(R.hid b h).1, ((R'.hid b (.inr h)).2).trans (R.hid b h).2⟩
  refine ⟨⟨hb, R'.sz, R'.G_next, R'.objs, R'.inj, R'.fresh, R'.glob, R'.small, hh, fun id o x h hx hn => R'.noimg id o x h hx (.inr hn)⟩,
    ⟨hb, R'.sz, RX.G_next, fun id o h => (RX.objs id o h).mono (Ren.le_refl ρX) fun b k hk => (R'.hid b (.inl ⟨id, o, _, h, hk, rfl⟩)).2, RX.inj, RX.fresh, RX.glob, RX.small, hh, RX.noimg⟩,
    fun b h1 h2 => ?_⟩
  obtain ⟨id, o, x, h3, h4, rfl⟩ := h1
  exact R'.noimg id o x h3 h4 (.inl h2)

/-- A memory of its own, empty, beside another. -/
def sideRen (G : Nat) (ρ : Ren) : Ren := fun g => if g < G then ρ g else none
theorem Rel.sideStart (R : Rel P G B w0 ρ A w) {An : AH} (hG : G ≤ An.next) (hs : An.next < 1099511627775) : Rel P G B w0 (sideRen G ρ) (sideStart An) w ∧ Apart ρ A (sideRen G ρ) (sideStart An) := by
  have hget : ∀ id, (Go.Ex.sideStart An).get id = none := fun id => by simp [Go.Ex.sideStart, AH.get, Trie.get_leaf]
  refine ⟨⟨R.below, R.sz, hG, (fun id o h => by rw [hget] at h; cases h), (fun i j x y hi => by rw [hget] at hi; cases hi), ?_, ?_, hs, R.hid, (fun id o x h => by rw [hget] at h; cases h)⟩, fun b _ h => by
    obtain ⟨id, o, x, h, _⟩ := h
    rw [hget] at h; cases h⟩
  · intro id h
    have : An.next ≤ id := h
    simp only [sideRen]; rw [if_neg (by omega)]
  · intro g hg
    obtain ⟨k, hk⟩ := R.glob g hg
    exact ⟨k, by simp [sideRen, hg, hk]⟩
end
end Go.Ex
