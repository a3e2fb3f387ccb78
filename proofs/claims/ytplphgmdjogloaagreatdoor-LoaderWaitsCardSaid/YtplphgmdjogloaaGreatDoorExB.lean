/- Lemmas: an executor over the program's code and its soundness, under the conditions that each theorem names. -/
import Derived.Test.YtplphgmdjogloaaGreatDoorExA
import Derived.Laws.IdiomCopy
import Derived.ChangeKeysEq
import Derived.IntWalk
set_option linter.unusedVariables false
set_option linter.unusedSimpArgs false
namespace Go.Ex
open Go Go.RowKit

/-! ### The tree -/
theorem Trie.get_leaf {α : Type} (n : Nat) : (Trie.leaf : Trie α).get n = none := by cases n <;> rfl
theorem half_lt {k f : Nat} (h : k + 1 + 1 < 2 ^ (f + 1)) : k / 2 + 1 < 2 ^ f := by
  have : 2 ^ (f + 1) = 2 * 2 ^ f := by rw [Nat.pow_succ, Nat.mul_comm]
  omega
theorem beq_true_iff (a b : Nat) : Nat.beq a b = true ↔ a = b := ⟨Nat.eq_of_beq_eq_true, fun h => by subst h; exact Nat.beq_refl a⟩
theorem Trie.get_set' {α : Type} (x : Option α) : ∀ (f : Nat) (t : Trie α) (n m : Nat), n + 1 < 2 ^ f →
    (Trie.set f t n x).get m = if m = n then x else t.get m
  | 0, t, n, m, h => by
    simp at h
  | f + 1, .leaf, n, m, h => by
    cases n with
    | zero =>
      cases m with
      | zero => rfl
      | succ j =>
        simp only [Trie.set, Trie.get]
        rw [if_neg (by omega)]
        split <;> rfl
    | succ k =>
      have hk := half_lt h
      cases hb : Nat.beq (k % 2) 0 with
      | true =>
        have e := (beq_true_iff _ _).1 hb
        cases m with
        | zero => simp [Trie.set, Trie.get, hb]
        | succ j =>
          simp only [Trie.set, hb, Trie.get]
          cases hj : Nat.beq (j % 2) 0 with
          | true =>
            have ej := (beq_true_iff _ _).1 hj
            simp only
            rw [Trie.get_set' x f .leaf (k / 2) (j / 2) hk]
            by_cases hjk : j / 2 = k / 2
            · rw [if_pos hjk, if_pos (by omega)]
            · rw [if_neg hjk, if_neg (by omega), Trie.get_leaf]
          | false =>
            have : ¬ j = k := fun h' => by subst h'; rw [hb] at hj; cases hj
            simp [this]
      | false =>
        cases m with
        | zero => simp [Trie.set, Trie.get, hb]
        | succ j =>
          simp only [Trie.set, hb, Trie.get]
          cases hj : Nat.beq (j % 2) 0 with
          | true =>
            have : ¬ j = k := fun h' => by subst h'; rw [hb] at hj; cases hj
            simp [this]
          | false =>
            simp only
            rw [Trie.get_set' x f .leaf (k / 2) (j / 2) hk]
            have e : k % 2 ≠ 0 := fun e => by rw [(beq_true_iff _ _).2 e] at hb; cases hb
            have ej : j % 2 ≠ 0 := fun e => by rw [(beq_true_iff _ _).2 e] at hj; cases hj
            by_cases hjk : j / 2 = k / 2
            · rw [if_pos hjk, if_pos (by omega)]
            · rw [if_neg hjk, if_neg (by omega), Trie.get_leaf]
  | f + 1, .node l v r, n, m, h => by
    cases n with
    | zero => cases m <;> simp [Trie.set, Trie.get]
    | succ k =>
      have hk := half_lt h
      cases hb : Nat.beq (k % 2) 0 with
      | true =>
        have e := (beq_true_iff _ _).1 hb
        cases m with
        | zero => simp [Trie.set, Trie.get, hb]
        | succ j =>
          simp only [Trie.set, hb, Trie.get]
          cases hj : Nat.beq (j % 2) 0 with
          | true =>
            have ej := (beq_true_iff _ _).1 hj
            simp only
            rw [Trie.get_set' x f l (k / 2) (j / 2) hk]
            by_cases hjk : j / 2 = k / 2
            · rw [if_pos hjk, if_pos (by omega)]
            · rw [if_neg hjk, if_neg (by omega)]
          | false =>
            have : ¬ j = k := fun h' => by subst h'; rw [hb] at hj; cases hj
            simp [this]
      | false =>
        cases m with
        | zero => simp [Trie.set, Trie.get, hb]
        | succ j =>
          simp only [Trie.set, hb, Trie.get]
          cases hj : Nat.beq (j % 2) 0 with
          | true =>
            have : ¬ j = k := fun h' => by subst h'; rw [hb] at hj; cases hj
            simp [this]
          | false =>
            simp only
            rw [Trie.get_set' x f r (k / 2) (j / 2) hk]
            have e : k % 2 ≠ 0 := fun e => by rw [(beq_true_iff _ _).2 e] at hb; cases hb
            have ej : j % 2 ≠ 0 := fun e => by rw [(beq_true_iff _ _).2 e] at hj; cases hj
            by_cases hjk : j / 2 = k / 2
            · rw [if_pos hjk, if_pos (by omega)]
            · rw [if_neg hjk, if_neg (by omega)]

theorem Ks_pos : 0 < Ks := by unfold Ks; decide
theorem isEx_mk (id d : Nat) : isEx (mkCap id d) = false := by
  unfold isEx mkCap
  cases h : Nat.blt (Kc + id * Ks + d) Kc with
  | false => rfl
  | true => exact absurd (Nat.le_of_ble_eq_true h) (by omega)
theorem capB_eq {c : Nat} (h : Nat.ble Kc c = true) : capB c = (c - Kc) / Ks := by
  unfold capB; rw [h]
theorem capO_eq {c : Nat} (h : Nat.ble Kc c = true) : capO c = (c - Kc) % Ks := by
  unfold capO; rw [h]
theorem capB_mk {id d : Nat} (hd : d < Ks) : capB (mkCap id d) = id := by
  unfold mkCap
  rw [capB_eq (Nat.ble_eq_true_of_le (Nat.le_trans (Nat.le_add_right _ _) (Nat.le_add_right _ _)))]
  have e : Kc + id * Ks + d - Kc = d + Ks * id := by rw [Nat.mul_comm id Ks]; omega
  rw [e, Nat.add_mul_div_left _ _ Ks_pos, Nat.div_eq_of_lt hd, Nat.zero_add]
theorem capO_mk {id d : Nat} (hd : d < Ks) : capO (mkCap id d) = d := by
  unfold mkCap
  rw [capO_eq (Nat.ble_eq_true_of_le (Nat.le_trans (Nat.le_add_right _ _) (Nat.le_add_right _ _)))]
  have e : Kc + id * Ks + d - Kc = d + Ks * id := by rw [Nat.mul_comm id Ks]; omega
  rw [e, Nat.add_mul_mod_self_left, Nat.mod_eq_of_lt hd]
theorem isEx_of {c : Nat} (h : c < 18446744073709551616) : isEx c = true := by
  unfold isEx Kc
  exact Nat.ble_eq_true_of_le h

/-! ### From abstract blocks to the world's -/
abbrev Ren := Nat → Option (Nat × Nat × Nat)
def Ren.le (ρ ρ' : Ren) : Prop := ∀ i x, ρ i = some x → ρ' i = some x
theorem Ren.le_refl (ρ : Ren) : Ren.le ρ ρ := fun _ _ h => h
theorem Ren.le_trans {a b c : Ren} (h : Ren.le a b) (k : Ren.le b c) : Ren.le a c := fun i x hx => k i x (h i x hx)

def AdR (ρ : Ren) (a a' : Addr) : Prop := ∃ x, ρ a.block = some x ∧ a' = ⟨x.1, x.2.1 + a.off, a.spot⟩
def CR (ρ : Ren) (c c' : Nat) : Prop := (isEx c = true ∧ c' = c) ∨ (isEx c = false ∧ ∃ x, ρ (capB c) = some x ∧ capO c ≤ x.2.2 ∧ c' = x.2.2 - capO c)
def FR (ρ : Ren) : Fn → Fn → Prop
  | .yield l, g => ∃ x, ρ l = some x ∧ g = .yield x.1
  | fn, g => g = fn

mutual
def VR (ρ : Ren) : Value → Value → Prop
  | .bool b, u => u = .bool b
  | .int k n, u => u = .int k n
  | .float k n, u => u = .float k n
  | .complex k a b, u => u = .complex k a b
  | .string s, u => u = .string s
  | .pointer none, u => u = .pointer none
  | .pointer (some a), u => ∃ a', AdR ρ a a' ∧ u = .pointer (some a')
  | .slice none n c, u => isEx c = true ∧ u = .slice none n c
  | .slice (some a) n c, u => ∃ a' c', AdR ρ a a' ∧ CR ρ c c' ∧ u = .slice (some a') n c'
  | .map none, u => u = .map none
  | .map (some r), u => ∃ x, ρ r = some x ∧ u = .map (some x.1)
  | .chan none, u => u = .chan none
  | .chan (some _), _ => False
  | .func fn f c, u => ∃ fn' f' c', FR ρ fn fn' ∧ VRA ρ f f' ∧ VRA ρ c c' ∧ u = .func fn' f' c'
  | .nilFunc, u => u = .nilFunc
  | .iface t v, u => ∃ v', VR ρ v v' ∧ u = .iface t v'
  | .nilIface, u => u = .nilIface
  | .agg cs, u => ∃ cs', VRA ρ cs cs' ∧ u = .agg cs'
  | .tuple cs, u => ∃ cs', VRA ρ cs cs' ∧ u = .tuple cs'
def VRA (ρ : Ren) : Array Value → Array Value → Prop
  | ⟨l⟩, u => VRL ρ l u.toList
def VRL (ρ : Ren) : List Value → List Value → Prop
  | [], u => u = []
  | v :: r, u => ∃ v' r', VR ρ v v' ∧ VRL ρ r r' ∧ u = v' :: r'
end

theorem AdR.mono {ρ ρ' : Ren} (h : Ren.le ρ ρ') {a a' : Addr} (k : AdR ρ a a') : AdR ρ' a a' := by
  obtain ⟨x, hx, e⟩ := k; exact ⟨x, h _ _ hx, e⟩
theorem CR.mono {ρ ρ' : Ren} (h : Ren.le ρ ρ') {c c' : Nat} (k : CR ρ c c') : CR ρ' c c' := by
  rcases k with k | ⟨hc, x, hx, e⟩
  · exact .inl k
  · exact .inr ⟨hc, x, h _ _ hx, e⟩
theorem FR.mono {ρ ρ' : Ren} (h : Ren.le ρ ρ') {f g : Fn} (k : FR ρ f g) : FR ρ' f g := by
  cases f with
  | yield l => obtain ⟨x, hx, e⟩ := k; exact ⟨x, h _ _ hx, e⟩
  | _ => exact k

mutual
theorem VR.mono {ρ ρ' : Ren} (h : Ren.le ρ ρ') : ∀ (v u : Value), VR ρ v u → VR ρ' v u
  | .bool b, u, k => k
  | .int _ n, u, k => k
  | .float _ n, u, k => k
  | .complex _ a b, u, k => k
  | .string s, u, k => k
  | .pointer none, u, k => k
  | .pointer (some a), u, k => by obtain ⟨a', ha, e⟩ := k; exact ⟨a', ha.mono h, e⟩
  | .slice none n c, u, k => k
  | .slice (some a) n c, u, k => by obtain ⟨a', c', ha, hc, e⟩ := k; exact ⟨a', c', ha.mono h, hc.mono h, e⟩
  | .map none, u, k => k
  | .map (some r), u, k => by obtain ⟨x, hx, e⟩ := k; exact ⟨x, h _ _ hx, e⟩
  | .chan none, u, k => k
  | .chan (some _), _, k => k
  | .func fn f c, u, k => by obtain ⟨fn', f', c', h1, h2, h3, e⟩ := k; exact ⟨fn', f', c', h1.mono h, VRA.mono h f f' h2, VRA.mono h c c' h3, e⟩
  | .nilFunc, u, k => k
  | .iface t v, u, k => by obtain ⟨v', hv, e⟩ := k; exact ⟨v', VR.mono h v v' hv, e⟩
  | .nilIface, u, k => k
  | .agg cs, u, k => by obtain ⟨cs', hc, e⟩ := k; exact ⟨cs', VRA.mono h cs cs' hc, e⟩
  | .tuple cs, u, k => by obtain ⟨cs', hc, e⟩ := k; exact ⟨cs', VRA.mono h cs cs' hc, e⟩
theorem VRA.mono {ρ ρ' : Ren} (h : Ren.le ρ ρ') : ∀ (a b : Array Value), VRA ρ a b → VRA ρ' a b
  | ⟨l⟩, u, k => VRL.mono h l u.toList k
theorem VRL.mono {ρ ρ' : Ren} (h : Ren.le ρ ρ') : ∀ (a b : List Value), VRL ρ a b → VRL ρ' a b
  | [], u, k => k
  | v :: r, u, k => by obtain ⟨v', r', h1, h2, e⟩ := k; exact ⟨v', r', VR.mono h v v' h1, VRL.mono h r r' h2, e⟩
end

theorem AdR.func {ρ : Ren} {a b c : Addr} (h : AdR ρ a b) (k : AdR ρ a c) : b = c := by
  obtain ⟨x, hx, rfl⟩ := h; obtain ⟨y, hy, rfl⟩ := k
  rw [hx] at hy; cases hy; rfl
theorem CR.func {ρ : Ren} {a b c : Nat} (h : CR ρ a b) (k : CR ρ a c) : b = c := by
  rcases h with ⟨h1, rfl⟩ | ⟨h1, x, hx, _, rfl⟩ <;> rcases k with ⟨k1, rfl⟩ | ⟨k1, y, hy, _, rfl⟩
  · rfl
  · rw [h1] at k1; cases k1
  · rw [h1] at k1; cases k1
  · obtain rfl := Option.some.inj (hx.symm.trans hy); rfl
theorem FR.func {ρ : Ren} {a b c : Fn} (h : FR ρ a b) (k : FR ρ a c) : b = c := by
  cases a with
  | yield l => obtain ⟨x, hx, rfl⟩ := h; obtain ⟨y, hy, rfl⟩ := k; rw [hx] at hy; cases hy; rfl
  | _ => exact Eq.trans h (Eq.symm k)

mutual
theorem VR.func {ρ : Ren} : ∀ (v u z : Value), VR ρ v u → VR ρ v z → u = z
  | .bool b, u, z, k, k' => Eq.trans k (Eq.symm k')
  | .int _ n, u, z, k, k' => Eq.trans k (Eq.symm k')
  | .float _ n, u, z, k, k' => Eq.trans k (Eq.symm k')
  | .complex _ a b, u, z, k, k' => Eq.trans k (Eq.symm k')
  | .string s, u, z, k, k' => Eq.trans k (Eq.symm k')
  | .pointer none, u, z, k, k' => Eq.trans k (Eq.symm k')
  | .pointer (some a), u, z, k, k' => by obtain ⟨a', ha, rfl⟩ := k; obtain ⟨b', hb, rfl⟩ := k'; rw [ha.func hb]
  | .slice none n c, u, z, k, k' => Eq.trans k.2 (Eq.symm k'.2)
  | .slice (some a) n c, u, z, k, k' => by obtain ⟨a', c', ha, hc, rfl⟩ := k; obtain ⟨b', d', hb, hd, rfl⟩ := k'; rw [ha.func hb, hc.func hd]
  | .map none, u, z, k, k' => Eq.trans k (Eq.symm k')
  | .map (some r), u, z, k, k' => by obtain ⟨x, hx, rfl⟩ := k; obtain ⟨y, hy, rfl⟩ := k'; rw [hx] at hy; cases hy; rfl
  | .chan none, u, z, k, k' => Eq.trans k (Eq.symm k')
  | .chan (some _), _, _, k, _ => k.elim
  | .func fn f c, u, z, k, k' => by
    obtain ⟨fn', f', c', h1, h2, h3, rfl⟩ := k; obtain ⟨fn2, f2, c2, g1, g2, g3, rfl⟩ := k'
    rw [h1.func g1, VRA.func f f' f2 h2 g2, VRA.func c c' c2 h3 g3]
  | .nilFunc, u, z, k, k' => Eq.trans k (Eq.symm k')
  | .iface t v, u, z, k, k' => by obtain ⟨v', hv, rfl⟩ := k; obtain ⟨v2, hv2, rfl⟩ := k'; rw [VR.func v v' v2 hv hv2]
  | .nilIface, u, z, k, k' => Eq.trans k (Eq.symm k')
  | .agg cs, u, z, k, k' => by obtain ⟨cs', hc, rfl⟩ := k; obtain ⟨c2, hc2, rfl⟩ := k'; rw [VRA.func cs cs' c2 hc hc2]
  | .tuple cs, u, z, k, k' => by obtain ⟨cs', hc, rfl⟩ := k; obtain ⟨c2, hc2, rfl⟩ := k'; rw [VRA.func cs cs' c2 hc hc2]
theorem VRA.func {ρ : Ren} : ∀ (a b c : Array Value), VRA ρ a b → VRA ρ a c → b = c
  | ⟨l⟩, ⟨u⟩, ⟨z⟩, k, k' => by rw [VRL.func l u z k k']
theorem VRL.func {ρ : Ren} : ∀ (a b c : List Value), VRL ρ a b → VRL ρ a c → b = c
  | [], u, z, k, k' => Eq.trans k (Eq.symm k')
  | v :: r, u, z, k, k' => by
    obtain ⟨v', r', h1, h2, rfl⟩ := k; obtain ⟨v2, r2, g1, g2, rfl⟩ := k'
    rw [VR.func v v' v2 h1 g1, VRL.func r r' r2 h2 g2]
end

mutual
theorem VR.plain {ρ : Ren} : ∀ (v : Value), plainV v = true → VR ρ v v
  | .bool b, _ => rfl
  | .int _ n, _ => rfl
  | .float _ n, _ => rfl
  | .complex _ a b, _ => rfl
  | .string s, _ => rfl
  | .pointer none, _ => rfl
  | .pointer (some a), h => by simp [plainV] at h
  | .slice none n c, h => by
    simp only [plainV, Option.isNone_none, Bool.true_and] at h
    exact ⟨h, rfl⟩
  | .slice (some a) n c, h => by simp [plainV] at h
  | .map none, _ => rfl
  | .map (some r), h => by simp [plainV] at h
  | .chan none, _ => rfl
  | .chan (some _), h => by simp [plainV] at h
  | .func (.func f) a c, h => by
    simp only [plainV, Bool.and_eq_true] at h
    exact ⟨.func f, a, c, rfl, VRA.plain a h.1, VRA.plain c h.2, rfl⟩
  | .func (.method _) a c, h => by simp [plainV] at h
  | .func (.methodOf _ _) a c, h => by simp [plainV] at h
  | .func (.via _ _ _ _) a c, h => by simp [plainV] at h
  | .func (.yield _) a c, h => by simp [plainV] at h
  | .nilFunc, _ => rfl
  | .iface t v, h => ⟨v, VR.plain v (by simpa [plainV] using h), rfl⟩
  | .nilIface, _ => rfl
  | .agg cs, h => ⟨cs, VRA.plain cs (by simpa [plainV] using h), rfl⟩
  | .tuple cs, h => ⟨cs, VRA.plain cs (by simpa [plainV] using h), rfl⟩
theorem VRA.plain {ρ : Ren} : ∀ (a : Array Value), plainA a = true → VRA ρ a a
  | ⟨l⟩, h => VRL.plain l (by simpa [plainA] using h)
theorem VRL.plain {ρ : Ren} : ∀ (a : List Value), plainL a = true → VRL ρ a a
  | [], _ => rfl
  | v :: r, h => by
    simp only [plainL, Bool.and_eq_true] at h
    exact ⟨v, r, VR.plain v h.1, VRL.plain r h.2, rfl⟩
end
theorem VR.of_plain {ρ : Ren} {v u : Value} (hp : plainV v = true) (h : VR ρ v u) : u = v := VR.func v u v h (VR.plain v hp)

end Go.Ex
namespace Go.Ex
open Go Go.RowKit

/-! ### Temporaries -/
def TTR (ρ : Ren) (T : TT) (a : Array Value) : Prop := a.size = T.n ∧ ∀ k, k < T.n → ∃ u, a[k]? = some u ∧ VR ρ (T.get k) u
theorem undef_VR {ρ : Ren} : VR ρ undef undef := VR.plain _ rfl
theorem TTR.mono {ρ ρ' : Ren} (h : Ren.le ρ ρ') {T : TT} {a : Array Value} (k : TTR ρ T a) : TTR ρ' T a :=
  ⟨k.1, fun i hi => by obtain ⟨u, hu, hv⟩ := k.2 i hi; exact ⟨u, hu, hv.mono h⟩⟩

/-- Slots in a frame: from n on nothing is kept. -/
def TT.ok (T : TT) : Prop := T.n ≤ 4000 ∧ ∀ k, T.n ≤ k → T.t.get k = none

theorem blt_false {a b : Nat} (h : Nat.blt a b = false) : ¬ a < b := fun hlt => by
  rw [show Nat.blt a b = true from Nat.ble_eq_true_of_le hlt] at h; cases h
theorem blt_true {a b : Nat} (h : Nat.blt a b = true) : a < b := Nat.le_of_ble_eq_true h
theorem TT.put_lt {T : TT} {d : Nat} (h : d < T.n) (v : Value) : T.put (some d) v = { t := T.t.set 24 d (some v), n := T.n } := by
  simp only [TT.put, show Nat.blt d T.n = true from Nat.ble_eq_true_of_le h]
theorem TT.put_ge {T : TT} {d : Nat} (h : ¬ d < T.n) (v : Value) : T.put (some d) v = T := by
  simp only [TT.put]
  cases hb : Nat.blt d T.n with
  | false => rfl
  | true => exact absurd (blt_true hb) h
theorem TT.get_put {T : TT} (hn : T.n ≤ 4000) (d k : Nat) (v : Value) : (T.put (some d) v).get k = if d < T.n ∧ k = d then v else T.get k := by
  by_cases hlt : d < T.n
  · rw [TT.put_lt hlt]
    simp only [TT.get]
    rw [Trie.get_set' _ _ _ _ _ (by omega)]
    by_cases hk : k = d
    · simp [hk, hlt]
    · simp [hk]
  · rw [TT.put_ge hlt, if_neg (fun h => hlt h.1)]
theorem TT.put_n (T : TT) (d : Option Nat) (v : Value) : (T.put d v).n = T.n := by
  cases d with
  | none => rfl
  | some d =>
    by_cases h : d < T.n
    · rw [TT.put_lt h]
    · rw [TT.put_ge h]

theorem TTR.put {ρ : Ren} {T : TT} {a : Act} (h : TTR ρ T a.tmps) (hn : T.n ≤ 4000) (d : Option Nat) {v u : Value} (hv : VR ρ v u) :
    TTR ρ (T.put d v) (a.put d u).tmps := by
  cases d with
  | none => exact h
  | some d =>
    refine ⟨?_, fun k hk => ?_⟩
    · rw [TT.put_n]; simp [Act.put, h.1]
    · rw [TT.put_n] at hk
      rw [TT.get_put hn]
      simp only [Act.put]
      by_cases hkd : k = d
      · subst hkd
        refine ⟨u, ?_, by simp [hk]; exact hv⟩
        rw [Array.getElem?_setIfInBounds_self_of_lt (by rw [h.1]; exact hk)]
      · obtain ⟨u', hu, hv'⟩ := h.2 k hk
        refine ⟨u', ?_, by simp [hkd]; exact hv'⟩
        rw [Array.getElem?_setIfInBounds_ne (fun e => hkd e.symm)]; exact hu

theorem Act.put_defers' (a : Act) (d : Option Nat) (v : Value) : (a.put d v).defers = a.defers := by cases d <;> rfl

theorem TTR.getD {ρ : Ren} {T : TT} {a : Array Value} (h : TTR ρ T a) (hok : T.ok) (k : Nat) : VR ρ (T.get k) (a.getD k undef) := by
  by_cases hk : k < T.n
  · obtain ⟨u, hu, hv⟩ := h.2 k hk
    have : a.getD k undef = u := by simp [hu]
    rw [this]; exact hv
  · have h1 : T.get k = undef := by simp only [TT.get]; rw [hok.2 k (by omega)]
    have h2 : a.getD k undef = undef := by
      have hs := h.1
      have : a[k]? = none := Array.getElem?_eq_none (by omega)
      simp [this]
    rw [h1, h2]; exact undef_VR

theorem TT.put_ok {T : TT} (h : T.ok) (d : Option Nat) (v : Value) : (T.put d v).ok := by
  refine ⟨by rw [TT.put_n]; exact h.1, fun k hk => ?_⟩
  rw [TT.put_n] at hk
  cases d with
  | none => exact h.2 k hk
  | some d =>
    by_cases hlt : d < T.n
    · rw [TT.put_lt hlt]
      have := h.1
      simp only
      rw [Trie.get_set' _ _ _ _ _ (by omega), if_neg (by omega)]
      exact h.2 k hk
    · rw [TT.put_ge hlt]; exact h.2 k hk

/-! ### Memory -/
def EntR (ρ : Ren) (e : AEnt) (e' : MapEntry) : Prop := VR ρ e.key e'.key ∧ VR ρ e.val e'.val ∧ e'.born = e.born
def EntsR (ρ : Ren) : List AEnt → List MapEntry → Prop
  | [], l => l = []
  | e :: r, l => ∃ e' r', EntR ρ e e' ∧ EntsR ρ r r' ∧ l = e' :: r'

def CellsR (ρ : Ren) (c : List Value) (cs : Array Value) : Prop := ∀ (i : Nat) (v : Value), c[i]? = some v → ∃ u, cs[i]? = some u ∧ VR ρ v u

structure CellsAt (P : Program) (B : Nat) (ρ : Ren) (w : World) (b k : Nat) (c : List Value) (e : TypeId) (sl wr : Bool) (cs : Array Value) (lo hi : Nat) : Prop where
  at_ : w.heap[b]? = some (.cells cs e (lo, hi))
  len : c.length ≤ cs.size
  cells : CellsR ρ c cs
  full : sl = false → cs.size = c.length
  cap : sl = true → ∀ n, sizeT P e = some n → cs.size = k * n
  own : wr = true → B ≤ b ∧ ∀ o, o < cs.size → (decide (lo ≤ o) && decide (o < hi)) = false

def HasObj (P : Program) (B : Nat) (ρ : Ren) (w : World) (id : Nat) : AObj → Prop
  | .cells c e sl wr => ∃ b k cs lo hi, ρ id = some (b, 0, k) ∧ CellsAt P B ρ w b k c e sl wr cs lo hi
  | .map es clock => ∃ b k es', ρ id = some (b, 0, k) ∧ B ≤ b ∧ w.heap[b]? = some (.map es' clock) ∧ EntsR ρ es es'.toList
  | .obj (.stringIter s p) => ∃ b k, ρ id = some (b, 0, k) ∧ B ≤ b ∧ w.heap[b]? = some (.stringIter s p)
  | .obj (.mapIter none x y z) => ∃ b k, ρ id = some (b, 0, k) ∧ B ≤ b ∧ w.heap[b]? = some (.mapIter none x y z)
  | .obj (.mapIter (some m) x y z) => ∃ b k q, ρ id = some (b, 0, k) ∧ B ≤ b ∧ ρ m = some q ∧ w.heap[b]? = some (.mapIter (some q.1) x y z)
  | .obj (.deferred none) => ∃ b k, ρ id = some (b, 0, k) ∧ B ≤ b ∧ w.heap[b]? = some (.deferred none)
  | .obj (.deferred (some [])) => ∃ b k, ρ id = some (b, 0, k) ∧ B ≤ b ∧ w.heap[b]? = some (.deferred (some []))
  | .obj _ => False
  | .loop r T => ∃ b k r' q, ρ id = some (b, 0, k) ∧ B ≤ b ∧ w.heap[b]? = some (.loop r') ∧ r'.state = r.state ∧ r'.pending = r.pending ∧ r'.params = r.params ∧
      r'.assign = r.assign ∧ r'.body = r.body ∧ TTR ρ T r'.tmps ∧ T.ok ∧ ρ r.defers = some q ∧ r'.defers = q.1

/-- The world that is looked back to; blocks of it that no one here knows, nor may change. -/
structure Base where
  w : World
  hid : Nat → Prop

structure Rel (P : Program) (G B : Nat) (w0 : Base) (ρ : Ren) (A : AH) (w : World) : Prop where
  below : Below B w0.w w
  sz : B ≤ w.heap.size
  G_next : G ≤ A.next
  objs : ∀ id o, A.get id = some o → HasObj P B ρ w id o
  inj : ∀ i j x y, (A.get i).isSome → (A.get j).isSome → ρ i = some x → ρ j = some y → B ≤ x.1 → x.1 = y.1 → i = j
  fresh : ∀ id, A.next ≤ id → ρ id = none
  glob : ∀ g, g < G → ∃ k, ρ g = some (g, 0, k)
  small : A.next < 1099511627775
  hid : ∀ b, w0.hid b → b < w0.w.heap.size ∧ w.heap[b]? = w0.w.heap[b]?
  noimg : ∀ id o x, A.get id = some o → ρ id = some x → ¬ w0.hid x.1

/-- What was there before, and was not written, is as it was. -/
structure Keep (A A' : AH) : Prop where
  next : A.next ≤ A'.next
  low : A'.low ≤ A.low
  same : ∀ id, id < A.next → id < A'.low → A'.get id = A.get id

theorem Keep.refl (A : AH) : Keep A A := ⟨Nat.le_refl _, Nat.le_refl _, fun _ _ _ => rfl⟩
theorem Keep.trans {A B C : AH} (h : Keep A B) (k : Keep B C) : Keep A C :=
  ⟨Nat.le_trans h.next k.next, Nat.le_trans k.low h.low, fun id h1 h2 => by
    rw [k.same id (Nat.lt_of_lt_of_le h1 h.next) h2, h.same id h1 (Nat.lt_of_lt_of_le h2 k.low)]⟩

theorem AH.get_put {A : AH} {id : Nat} (h : id < 1099511627775) (o : AObj) (j : Nat) : (A.put id o).get j = if j = id then some o else A.get j := by
  simp only [AH.put, AH.get]; rw [Trie.get_set' _ _ _ _ _ (by omega)]
theorem AH.get_drop {A : AH} {id : Nat} (h : id < 1099511627775) (j : Nat) : (A.drop id).get j = if j = id then none else A.get j := by
  simp only [AH.drop, AH.get]; rw [Trie.get_set' _ _ _ _ _ (by omega)]
theorem AH.get_add {A : AH} (h : A.next < 1099511627775) (o : AObj) (j : Nat) : (A.add o).get j = if j = A.next then some o else A.get j := by
  simp only [AH.add, AH.get]; rw [Trie.get_set' _ _ _ _ _ (by omega)]

theorem CellsR.mono {ρ ρ' : Ren} (h : Ren.le ρ ρ') {c : List Value} {cs : Array Value} (k : CellsR ρ c cs) : CellsR ρ' c cs :=
  fun i v hv => by obtain ⟨u, hu, hr⟩ := k i v hv; exact ⟨u, hu, hr.mono h⟩
theorem EntsR.mono {ρ ρ' : Ren} (h : Ren.le ρ ρ') : ∀ {l : List AEnt} {l' : List MapEntry}, EntsR ρ l l' → EntsR ρ' l l'
  | [], _, k => k
  | _ :: _, _, ⟨e', r', ⟨h1, h2, h3⟩, hr, e⟩ => ⟨e', r', ⟨h1.mono h, h2.mono h, h3⟩, EntsR.mono h hr, e⟩

/-- An object stays what it is where its block stays what it is. -/
theorem HasObj.mono {P : Program} {B : Nat} {ρ ρ' : Ren} (hle : Ren.le ρ ρ') {w w' : World} {id : Nat} {o : AObj} (h : HasObj P B ρ w id o)
    (hw : ∀ b k, ρ id = some (b, 0, k) → w'.heap[b]? = w.heap[b]?) : HasObj P B ρ' w' id o := by
  cases o with
  | cells c e sl wr =>
    obtain ⟨b, k, cs, lo, hi, h1, h2⟩ := h
    exact ⟨b, k, cs, lo, hi, hle _ _ h1, ⟨(hw b k h1).trans h2.at_, h2.len, h2.cells.mono hle, h2.full, h2.cap, h2.own⟩⟩
  | map es clock =>
    obtain ⟨b, k, es', h1, h2, h3, h4⟩ := h
    exact ⟨b, k, es', hle _ _ h1, h2, (hw b k h1).trans h3, h4.mono hle⟩
  | loop r T =>
    obtain ⟨b, k, r', q, h1, h2, h3, h4, h5, h6, h7, h8, h9, h10, h11, h12⟩ := h
    exact ⟨b, k, r', q, hle _ _ h1, h2, (hw b k h1).trans h3, h4, h5, h6, h7, h8, h9.mono hle, h10, hle _ _ h11, h12⟩
  | obj o =>
    match o, h with
    | .stringIter s p, ⟨b, k, h1, h2, h3⟩ => exact ⟨b, k, hle _ _ h1, h2, (hw b k h1).trans h3⟩
    | .mapIter none x y z, ⟨b, k, h1, h2, h3⟩ => exact ⟨b, k, hle _ _ h1, h2, (hw b k h1).trans h3⟩
    | .mapIter (some m) x y z, ⟨b, k, q, h1, h2, h3, h4⟩ => exact ⟨b, k, q, hle _ _ h1, h2, hle _ _ h3, (hw b k h1).trans h4⟩
    | .deferred none, ⟨b, k, h1, h2, h3⟩ => exact ⟨b, k, hle _ _ h1, h2, (hw b k h1).trans h3⟩
    | .deferred (some []), ⟨b, k, h1, h2, h3⟩ => exact ⟨b, k, hle _ _ h1, h2, (hw b k h1).trans h3⟩

theorem HasObj.ren {P : Program} {B : Nat} {ρ : Ren} {w : World} {id : Nat} {o : AObj} (h : HasObj P B ρ w id o) : ∃ b k, ρ id = some (b, 0, k) ∧ b < w.heap.size := by
  have key : ∀ {b : Nat} {x : Obj}, w.heap[b]? = some x → b < w.heap.size := fun h => (Array.getElem?_eq_some_iff.1 h).1
  cases o with
  | cells c e sl wr => obtain ⟨b, k, cs, lo, hi, h1, h2⟩ := h; exact ⟨b, k, h1, key h2.at_⟩
  | map es clock => obtain ⟨b, k, es', h1, h2, h3, h4⟩ := h; exact ⟨b, k, h1, key h3⟩
  | loop r T => obtain ⟨b, k, r', q, h1, h2, h3, _⟩ := h; exact ⟨b, k, h1, key h3⟩
  | obj o =>
    match o, h with
    | .stringIter s p, ⟨b, k, h1, h2, h3⟩ => exact ⟨b, k, h1, key h3⟩
    | .mapIter none x y z, ⟨b, k, h1, h2, h3⟩ => exact ⟨b, k, h1, key h3⟩
    | .mapIter (some m) x y z, ⟨b, k, q, h1, h2, h3, h4⟩ => exact ⟨b, k, h1, key h4⟩
    | .deferred none, ⟨b, k, h1, h2, h3⟩ => exact ⟨b, k, h1, key h3⟩
    | .deferred (some []), ⟨b, k, h1, h2, h3⟩ => exact ⟨b, k, h1, key h3⟩

section
variable {P : Program} {G B : Nat} {w0 : Base} {w : World} {ρ : Ren} {A : AH}

theorem Rel.id_lt (R : Rel P G B w0 ρ A w) {id : Nat} {o : AObj} (h : A.get id = some o) : id < A.next := by
  obtain ⟨b, k, hb, _⟩ := (R.objs id o h).ren
  rcases Nat.lt_or_ge id A.next with hl | hl
  · exact hl
  · rw [R.fresh id hl] at hb; cases hb
theorem Rel.get_none (R : Rel P G B w0 ρ A w) {id : Nat} (h : A.next ≤ id) : A.get id = none := by
  cases hg : A.get id with
  | none => rfl
  | some o => exact absurd (R.id_lt hg) (by omega)

/-- The renaming with one block more. -/
def Ren.set (ρ : Ren) (id : Nat) (x : Nat × Nat × Nat) : Ren := fun j => if j = id then some x else ρ j
theorem Ren.le_set {ρ : Ren} {id : Nat} (h : ρ id = none) (x : Nat × Nat × Nat) : Ren.le ρ (ρ.set id x) := fun j y hy => by
  unfold Ren.set
  by_cases e : j = id
  · subst e; rw [h] at hy; cases hy
  · rw [if_neg e]; exact hy
theorem Ren.set_same {ρ : Ren} {id : Nat} (x : Nat × Nat × Nat) : (ρ.set id x) id = some x := by simp [Ren.set]

theorem heap_push_ne {w : World} {o : Obj} {b : Nat} (h : b < w.heap.size) : (w.alloc o).heap[b]? = w.heap[b]? := Below.heap_alloc w o b h
theorem heap_push_new (w : World) (o : Obj) : (w.alloc o).heap[w.heap.size]? = some o := by
  show (w.heap.push o)[w.heap.size]? = _
  simp
theorem size_push (w : World) (o : Obj) : (w.alloc o).heap.size = w.heap.size + 1 := by
  show (w.heap.push o).size = _
  simp

/-- **A NEW BLOCK.** -/
theorem Rel.add (R : Rel P G B w0 ρ A w) (o : AObj) (o' : Obj) (k : Nat) (hs : A.next + 1 < 1099511627775)
    (ho : HasObj P B (ρ.set A.next (w.heap.size, 0, k)) (w.alloc o') A.next o) :
    Rel P G B w0 (ρ.set A.next (w.heap.size, 0, k)) (A.add o) (w.alloc o') := by
  have hle := Ren.le_set (R.fresh A.next (Nat.le_refl _)) (w.heap.size, 0, k)
  have hget := AH.get_add (A := A) R.small o
  refine ⟨R.below.alloc R.sz o', by rw [size_push]; have := R.sz; omega, by have := R.G_next; simp [AH.add]; omega, ?_, ?_, ?_, ?_, hs, fun b hb => ?_, fun id ob x h hx hb => ?_⟩
  · intro id ob h
    rw [hget] at h
    by_cases e : id = A.next
    · subst e; rw [if_pos rfl] at h; cases h; exact ho
    · rw [if_neg e] at h
      have := R.objs id ob h
      obtain ⟨b', k', hb', hlt⟩ := this.ren
      exact this.mono hle fun b q hb => heap_push_ne (by rw [hb'] at hb; cases hb; exact hlt)
  · intro i j x y hi hj hx hy hB hxy
    rw [hget] at hi hj
    have old : ∀ (i : Nat) (x : Nat × Nat × Nat), i ≠ A.next → (A.get i).isSome → (ρ.set A.next (w.heap.size, 0, k)) i = some x → ρ i = some x ∧ x.1 < w.heap.size := by
      intro i x hne hs hx
      simp only [Ren.set, if_neg hne] at hx
      obtain ⟨ob, hob⟩ := Option.isSome_iff_exists.1 hs
      obtain ⟨b', k', hb', hlt⟩ := (R.objs i ob hob).ren
      rw [hb'] at hx; cases hx
      exact ⟨hb', hlt⟩
    by_cases ei : i = A.next
    · by_cases ej : j = A.next
      · rw [ei, ej]
      · rw [if_neg ej] at hj
        obtain ⟨_, hlt⟩ := old j y ej hj hy
        rw [ei, Ren.set_same] at hx; cases hx
        simp at hxy; omega
    · rw [if_neg ei] at hi
      obtain ⟨hx', hlt⟩ := old i x ei hi hx
      by_cases ej : j = A.next
      · rw [ej, Ren.set_same] at hy; cases hy
        simp at hxy; omega
      · rw [if_neg ej] at hj
        obtain ⟨hy', _⟩ := old j y ej hj hy
        exact R.inj i j x y hi hj hx' hy' hB hxy
  · intro id h
    have : A.next + 1 ≤ id := h
    simp only [Ren.set]
    rw [if_neg (by omega)]
    exact R.fresh id (by omega)
  · intro g hg
    obtain ⟨q, hq⟩ := R.glob g hg
    exact ⟨q, hle _ _ hq⟩
  · obtain ⟨h1, h2⟩ := R.hid b hb
    have := R.below.size
    exact ⟨h1, by rw [heap_push_ne (by omega)]; exact h2⟩
  · rw [hget] at h
    by_cases e : id = A.next
    · subst e
      rw [Ren.set_same] at hx; cases hx
      have := (R.hid _ hb).1
      have := R.below.size
      simp only at *
      omega
    · rw [if_neg e] at h
      simp only [Ren.set, if_neg e] at hx
      exact R.noimg id ob x h hx hb

theorem Keep.add (A : AH) (h : A.next < 1099511627775) (o : AObj) : Keep A (A.add o) :=
  ⟨by simp [AH.add], Nat.le_refl _, fun id h1 _ => by rw [AH.get_add h, if_neg (by omega)]⟩
theorem Keep.put (A : AH) {id : Nat} (h : id < 1099511627775) (o : AObj) : Keep A (A.put id o) :=
  ⟨Nat.le_refl _, by simp only [AH.put]; exact Nat.min_le_left _ _, fun j _ h2 => by
    have : j < id := Nat.lt_of_lt_of_le h2 (Nat.min_le_right _ _)
    rw [AH.get_put h, if_neg (by omega)]⟩
theorem Keep.drop (A : AH) {id : Nat} (h : id < 1099511627775) : Keep A (A.drop id) :=
  ⟨Nat.le_refl _, by simp only [AH.drop]; exact Nat.min_le_left _ _, fun j _ h2 => by
    have : j < id := Nat.lt_of_lt_of_le h2 (Nat.min_le_right _ _)
    rw [AH.get_drop h, if_neg (by omega)]⟩

/-- **AN OBJECT TURNED IN PLACE**: its block b is one from B on; all other blocks are as they were. -/
theorem Rel.turn (R : Rel P G B w0 ρ A w) {id : Nat} {o o1 : AObj} (hid : A.get id = some o) {w' : World} {b k : Nat} (hb : ρ id = some (b, 0, k)) (hB : B ≤ b)
    (hsize : w'.heap.size = w.heap.size) (hos : w'.os = w.os) (htape : w'.tape = w.tape) (hout : w'.output = w.output)
    (hother : ∀ j, j ≠ b → w'.heap[j]? = w.heap[j]?) (ho : HasObj P B ρ w' id o1) : Rel P G B w0 ρ (A.put id o1) w' := by
  have hlt := R.id_lt hid
  have hsm := R.small
  have hget := AH.get_put (A := A) (id := id) (by omega) o1
  refine ⟨R.below.trans ⟨hos, htape, hout, by omega, fun j hj => hother j (by omega)⟩, by rw [hsize]; exact R.sz, R.G_next, ?_, ?_, R.fresh, R.glob, R.small, fun j hj => ?_, fun j ob x h hx hj => ?_⟩
  · intro j ob h
    rw [hget] at h
    by_cases e : j = id
    · subst e; rw [if_pos rfl] at h; cases h; exact ho
    · rw [if_neg e] at h
      refine (R.objs j ob h).mono (Ren.le_refl ρ) fun b' k' hb' => hother b' fun e' => e ?_
      exact R.inj j id _ _ (by rw [h]; rfl) (by rw [hid]; rfl) hb' hb (by rw [e']; exact hB) e'
  · intro i j x y hi hj hx hy hBx hxy
    rw [hget] at hi hj
    refine R.inj i j x y ?_ ?_ hx hy hBx hxy
    · by_cases e : i = id
      · rw [e, hid]; rfl
      · rw [if_neg e] at hi; exact hi
    · by_cases e : j = id
      · rw [e, hid]; rfl
      · rw [if_neg e] at hj; exact hj
  · obtain ⟨h1, h2⟩ := R.hid j hj
    refine ⟨h1, (hother j fun e => ?_).trans h2⟩
    subst e
    exact R.noimg id o _ hid hb hj
  · rw [hget] at h
    by_cases e : j = id
    · subst e; exact R.noimg j o x hid hx hj
    · rw [if_neg e] at h
      exact R.noimg j ob x h hx hj

/-- A draw changes nothing that is told here. -/
theorem Rel.drewTo (R : Rel P G B w0 ρ A w) (n : Nat) : Rel P G B w0 ρ A { w with drawn := n } :=
  ⟨⟨R.below.os, R.below.tape, R.below.output, R.below.size, R.below.block⟩, R.sz, R.G_next,
    fun id o h => (R.objs id o h).mono (Ren.le_refl ρ) fun _ _ _ => rfl, R.inj, R.fresh, R.glob, R.small, R.hid, R.noimg⟩

end
end Go.Ex
namespace Go.Ex
open Go Go.RowKit

/-! ### Reckoning on types -/
section
variable {P : Program} {w : World}
theorem run_isAggT {t : TypeId} {b : Bool} (h : isAggT P t = some b) : (isAgg t).run P w = .ok b w := by
  unfold isAggT at h
  cases hu : P.underlying t with
  | none => rw [hu] at h; cases h
  | some d =>
    rw [hu] at h
    unfold isAgg
    rw [Sem.run_bind, run_underlying hu]
    cases d <;> simp at h <;> subst h <;> rfl
theorem run_sizeT {t : TypeId} {n : Nat} (h : sizeT P t = some n) : (sizeOf t).run P w = .ok n w := by
  unfold sizeT at h
  cases hi : P.info? t with
  | none => rw [hi] at h; cases h
  | some i =>
    rw [hi] at h
    simp only [Option.map_some, Option.some.injEq] at h
    subst h
    unfold sizeOf
    rw [Sem.run_bind, run_typeInfo w hi]; rfl
theorem zeroT_spec {t : TypeId} {z : Value} (h : zeroT P t = some z) : (∃ i, P.info? t = some i ∧ i.zero = some z) ∧ plainV z = true := by
  unfold zeroT at h
  split at h
  · rename_i i hi
    split at h
    · rename_i z' hz
      split at h
      · rename_i hp; cases h; exact ⟨⟨i, hi, hz⟩, hp⟩
      · cases h
    · cases h
  · cases h
theorem run_zeroT {t : TypeId} {z : Value} (h : zeroT P t = some z) : (zeroValue t).run P w = .ok z w := by
  obtain ⟨⟨i, hi, hz⟩, _⟩ := zeroT_spec h
  unfold zeroValue
  rw [Sem.run_bind, run_typeInfo w hi]
  simp [hz]
end

/-! ### Lists of values -/
theorem VRL.length {ρ : Ren} : ∀ {l u : List Value}, VRL ρ l u → u.length = l.length
  | [], _, h => by rw [show _ = [] from h]
  | v :: r, _, ⟨v', r', _, h2, e⟩ => by subst e; simp only [List.length_cons, VRL.length h2]
theorem VRL.get {ρ : Ren} : ∀ {l u : List Value}, VRL ρ l u → ∀ (i : Nat) (v : Value), l[i]? = some v → ∃ x, u[i]? = some x ∧ VR ρ v x
  | [], _, _, i, v, hi => by simp at hi
  | a :: r, _, ⟨v', r', h1, h2, e⟩, 0, v, hi => by subst e; simp at hi; subst hi; exact ⟨v', by simp, h1⟩
  | a :: r, _, ⟨v', r', h1, h2, e⟩, i + 1, v, hi => by subst e; simp at hi; simpa using VRL.get h2 i v hi
theorem VRL.get_none {ρ : Ren} {l u : List Value} (h : VRL ρ l u) {i : Nat} (hi : l[i]? = none) : u[i]? = none := by
  rw [List.getElem?_eq_none_iff] at *; rw [h.length]; exact hi
theorem VRL.append {ρ : Ren} : ∀ {l u l' u' : List Value}, VRL ρ l u → VRL ρ l' u' → VRL ρ (l ++ l') (u ++ u')
  | [], _, _, _, h, k => by rw [show _ = [] from h]; exact k
  | a :: r, _, _, _, ⟨v', r', h1, h2, e⟩, k => by subst e; exact ⟨v', r' ++ _, h1, VRL.append h2 k, rfl⟩
theorem VRL.take {ρ : Ren} : ∀ (n : Nat) {l u : List Value}, VRL ρ l u → VRL ρ (l.take n) (u.take n)
  | 0, _, _, _ => by simp [VRL]
  | n + 1, [], _, h => by rw [show _ = [] from h]; simp [VRL]
  | n + 1, a :: r, _, ⟨v', r', h1, h2, e⟩ => by subst e; simp only [List.take_succ_cons]; exact ⟨v', _, h1, VRL.take n h2, rfl⟩
theorem VRL.drop {ρ : Ren} : ∀ (n : Nat) {l u : List Value}, VRL ρ l u → VRL ρ (l.drop n) (u.drop n)
  | 0, _, _, h => by simpa using h
  | n + 1, [], _, h => by rw [show _ = [] from h]; simp [VRL]
  | n + 1, a :: r, _, ⟨v', r', h1, h2, e⟩ => by subst e; simpa using VRL.drop n h2
theorem VRL.map {ρ : Ren} {α : Type} (f g : α → Value) : ∀ (l : List α), (∀ x ∈ l, VR ρ (f x) (g x)) → VRL ρ (l.map f) (l.map g)
  | [], _ => by simp [VRL]
  | a :: r, h => ⟨g a, r.map g, h a (by simp), VRL.map f g r (fun x hx => h x (by simp [hx])), rfl⟩

theorem VR.cells {ρ : Ren} {v u : Value} (h : VR ρ v u) : VRL ρ v.cells.toList u.cells.toList := by
  have one : ∀ {v u : Value}, VR ρ v u → VRL ρ [v] [u] := fun h => ⟨_, [], h, rfl, rfl⟩
  cases v with
  | agg cs =>
    obtain ⟨cs', hc, rfl⟩ := h
    cases cs; exact hc
  | pointer a => cases a with
    | none => cases h; exact one rfl
    | some a => have h' := h; obtain ⟨a', _, rfl⟩ := h; exact one h'
  | slice a n c => cases a with
    | none => have h' := h; obtain ⟨_, rfl⟩ := h; exact one h'
    | some a => have h' := h; obtain ⟨a', c', _, _, rfl⟩ := h; exact one h'
  | map a => cases a with
    | none => cases h; exact one rfl
    | some a => have h' := h; obtain ⟨a', _, rfl⟩ := h; exact one h'
  | chan a => cases a with
    | none => cases h; exact one rfl
    | some a => exact h.elim
  | func f a b => have h' := h; obtain ⟨f', a', b', _, _, _, rfl⟩ := h; exact one h'
  | iface t v => have h' := h; obtain ⟨v', _, rfl⟩ := h; exact one h'
  | tuple cs => have h' := h; obtain ⟨cs', _, rfl⟩ := h; exact one h'
  | bool b => cases h; exact one rfl
  | int k n => cases h; exact one rfl
  | float k n => cases h; exact one rfl
  | complex k n m => cases h; exact one rfl
  | string s => cases h; exact one rfl
  | nilFunc => cases h; exact one rfl
  | nilIface => cases h; exact one rfl

theorem VR.oneC {ρ : Ren} {v u : Value} (h : VR ρ v u) (ho : oneC v = true) : u.oneCell' = true := by
  cases v with
  | agg cs => simp [Go.Ex.oneC] at ho
  | tuple cs => simp [Go.Ex.oneC] at ho
  | pointer a => cases a with
    | none => cases h; rfl
    | some a => obtain ⟨a', _, rfl⟩ := h; rfl
  | slice a n c => cases a with
    | none => obtain ⟨_, rfl⟩ := h; rfl
    | some a => obtain ⟨a', c', _, _, rfl⟩ := h; rfl
  | map a => cases a with
    | none => cases h; rfl
    | some a => obtain ⟨a', _, rfl⟩ := h; rfl
  | chan a => cases a with
    | none => cases h; rfl
    | some a => exact h.elim
  | func f a b => obtain ⟨f', a', b', _, _, _, rfl⟩ := h; rfl
  | iface t v => obtain ⟨v', _, rfl⟩ := h; rfl
  | bool b => cases h; rfl
  | int k n => cases h; rfl
  | float k n => cases h; rfl
  | complex k n m => cases h; rfl
  | string s => cases h; rfl
  | nilFunc => cases h; rfl
  | nilIface => cases h; rfl
theorem VRL.oneC {ρ : Ren} : ∀ {l u : List Value}, VRL ρ l u → l.all oneC = true → ∀ x ∈ u, x.oneCell' = true
  | [], _, h, _, x, hx => by rw [show _ = [] from h] at hx; cases hx
  | a :: r, _, ⟨v', r', h1, h2, e⟩, ha, x, hx => by
    subst e
    simp only [List.all_cons, Bool.and_eq_true] at ha
    simp only [List.mem_cons] at hx
    rcases hx with rfl | hx
    · exact h1.oneC ha.1
    · exact VRL.oneC h2 ha.2 x hx

theorem plainL_VRL {ρ : Ren} {l : List Value} (h : plainL l = true) : VRL ρ l l := VRL.plain l h
theorem plainV_cells {v : Value} (h : plainV v = true) : plainL v.cells.toList = true := by
  cases v with
  | agg cs => cases cs; simpa [plainV, plainA, Value.cells] using h
  | _ => simpa [plainL, Value.cells] using h

/-! ### Reading -/
theorem CellsR.list {ρ : Ren} {c : List Value} {cs : Array Value} (h : CellsR ρ c cs) : ∀ (vs : List Value) (o : Nat),
    (∀ (j : Nat) (v : Value), vs[j]? = some v → c[o + j]? = some v) → ∃ us, VRL ρ vs us ∧ ∀ (j : Nat) (u : Value), us[j]? = some u → cs[o + j]? = some u
  | [], o, _ => ⟨[], rfl, fun j u hu => by simp at hu⟩
  | v :: r, o, hv => by
    obtain ⟨us, h1, h2⟩ := CellsR.list h r (o + 1) (fun j x hx => by have := hv (j + 1) x (by simpa using hx); rwa [show o + 1 + j = o + (j + 1) by omega])
    obtain ⟨u, hu, hr⟩ := h o v (by simpa using hv 0 v (by simp))
    refine ⟨u :: us, ⟨u, us, hr, h1, rfl⟩, fun j x hx => ?_⟩
    cases j with
    | zero => simp at hx; subst hx; simpa using hu
    | succ j => have := h2 j x (by simpa using hx); rwa [show o + (j + 1) = o + 1 + j by omega]
theorem loadN_spec {c : List Value} {o n : Nat} {vs : List Value} (h : loadN c o n = some vs) :
    o + n ≤ c.length ∧ vs = (c.drop o).take n ∧ vs.length = n ∧ ∀ (j : Nat) (v : Value), vs[j]? = some v → c[o + j]? = some v := by
  unfold loadN at h
  split at h
  · rename_i hle
    have hle := Nat.le_of_ble_eq_true hle
    cases h
    refine ⟨hle, rfl, by simp; omega, fun j v hv => ?_⟩
    rw [List.getElem?_take] at hv
    split at hv
    · rw [List.getElem?_drop] at hv; exact hv
    · cases hv
  · cases h

section
variable {P : Program} {G B : Nat} {w0 : Base} {w : World} {ρ : Ren} {A : AH}
theorem CellsAt.cell? {b k : Nat} {c : List Value} {e : TypeId} {sl wr : Bool} {cs : Array Value} {lo hi : Nat} (h : CellsAt P B ρ w b k c e sl wr cs lo hi) (o : Nat) :
    w.cell? ⟨b, o, none⟩ = cs[o]? := by simp [World.cell?, h.at_]
theorem CellsAt.frozen {b k : Nat} {c : List Value} {e : TypeId} {sl : Bool} {cs : Array Value} {lo hi : Nat} (h : CellsAt P B ρ w b k c e sl true cs lo hi) {o : Nat} (ho : o < cs.size) :
    w.frozen? ⟨b, o, none⟩ = false := by simpa [World.frozen?, h.at_] using (h.own rfl).2 o ho

/-- A pointer to an object that is told: where it stands. -/
theorem ptr_at (R : Rel P G B w0 ρ A w) {b o : Nat} {a' : Addr} (h : AdR ρ ⟨b, o, none⟩ a') {c : List Value} {e : TypeId} {sl wr : Bool} (hg : A.get b = some (.cells c e sl wr)) :
    ∃ bb k cs lo hi, ρ b = some (bb, 0, k) ∧ a' = ⟨bb, o, none⟩ ∧ CellsAt P B ρ w bb k c e sl wr cs lo hi := by
  obtain ⟨x, hx, rfl⟩ := h
  obtain ⟨bb, k, cs, lo, hi, h1, h2⟩ := R.objs b _ hg
  rw [show (⟨b, o, none⟩ : Addr).block = b from rfl] at hx
  rw [h1] at hx; cases hx
  exact ⟨bb, k, cs, lo, hi, h1, by simp, h2⟩

theorem add_none (b o i : Nat) : (⟨b, o, none⟩ : Addr).add i = ⟨b, o + i, none⟩ := by unfold Addr.add; split <;> simp_all

/-- The cells that a list tells, n from a place on. -/
theorem cells_run (R : Rel P G B w0 ρ A w) {b o : Nat} {a' : Addr} (h : AdR ρ ⟨b, o, none⟩ a') {c : List Value} {e : TypeId} {sl wr : Bool} (hg : A.get b = some (.cells c e sl wr))
    {n : Nat} {vs : List Value} (hl : loadN c o n = some vs) : ∃ us, VRL ρ vs us ∧ (loadCells a' n).run P w = .ok us.toArray w := by
  obtain ⟨bb, k, cs, lo, hi, h1, rfl, h2⟩ := ptr_at R h hg
  obtain ⟨_, _, hlen, hj⟩ := loadN_spec hl
  obtain ⟨us, hu, hcs⟩ := h2.cells.list vs o hj
  refine ⟨us, hu, ?_⟩
  have hul := hu.length
  rw [← hlen, ← hul]
  exact run_loadCells_list w _ us fun j v hv => by rw [add_none, h2.cell?]; exact hcs j v hv

theorem aload_run (R : Rel P G B w0 ρ A w) {t : TypeId} {p v p' : Value} (h : aload P t p A = some v) (hp : VR ρ p p') :
    ∃ u, (Instr.loadAt t p').run P w = .ok u w ∧ VR ρ v u := by
  unfold aload at h
  split at h
  · rename_i b o
    obtain ⟨a', ha, rfl⟩ := hp
    split at h
    · rename_i c e sl wr hg
      have hs : ∀ a : Addr, (Instr.sureAddr (.pointer (some a))).run P w = .ok a w := fun _ => rfl
      split at h
      · rename_i hagg
        split at h
        · rename_i n hn
          split at h
          · rename_i vs hvs
            cases h
            obtain ⟨us, hu, hrun⟩ := cells_run R ha hg hvs
            refine ⟨.agg us.toArray, ?_, ⟨us.toArray, hu, rfl⟩⟩
            simp only [Instr.loadAt, Sem.run_bind, hs, Result.andThen_ok, loadVar, run_isAggT hagg, if_true, run_sizeT hn, hrun, Sem.run_pure]
          · cases h
        · cases h
      · rename_i hagg
        obtain ⟨bb, k, cs, lo, hi, h1, rfl, h2⟩ := ptr_at R ha hg
        obtain ⟨u, hu, hr⟩ := h2.cells o v h
        refine ⟨u, ?_, hr⟩
        have hc := h2.cell? o
        rw [hu] at hc
        simp [Instr.loadAt, hs, loadVar, run_isAggT hagg, hc]
      · cases h
    · cases h
  · cases h

/-! ### Writing -/
def setA : Array Value → Nat → List Value → Array Value
  | cs, _, [] => cs
  | cs, o, u :: r => setA (cs.setIfInBounds o u) (o + 1) r
theorem setA_size : ∀ (us : List Value) (cs : Array Value) (o : Nat), (setA cs o us).size = cs.size
  | [], _, _ => rfl
  | u :: r, cs, o => by simp [setA, setA_size r]
theorem setL_length : ∀ (vs : List Value) (c : List Value) (o : Nat), (setL c o vs).length = c.length
  | [], _, _ => rfl
  | v :: r, c, o => by simp [setL, setL_length r]
theorem setCells_heap (b : Nat) (e : TypeId) (fr : Nat × Nat) : ∀ (us : List Value) (o : Nat) (w : World) (cs : Array Value), w.heap[b]? = some (.cells cs e fr) →
    (w.setCells b o us).heap[b]? = some (.cells (setA cs o us) e fr) ∧ (∀ j, j ≠ b → (w.setCells b o us).heap[j]? = w.heap[j]?) ∧ (w.setCells b o us).heap.size = w.heap.size ∧
      (w.setCells b o us).os = w.os ∧ (w.setCells b o us).tape = w.tape ∧ (w.setCells b o us).output = w.output
  | [], o, w, cs, h => ⟨h, fun _ _ => rfl, rfl, rfl, rfl, rfl⟩
  | u :: r, o, w, cs, h => by
    have h1 : (w.setCell ⟨b, o, none⟩ u).heap[b]? = some (.cells (cs.setIfInBounds o u) e fr) := by
      show (w.heap.modify b _)[b]? = _
      obtain ⟨hlt, hk⟩ := Array.getElem?_eq_some_iff.1 h
      rw [Array.getElem?_eq_getElem (by rw [Array.size_modify]; exact hlt), Array.getElem_modify_self, hk]
      rfl
    obtain ⟨i1, i2, i3, i4, i5, i6⟩ := setCells_heap b e fr r (o + 1) (w.setCell ⟨b, o, none⟩ u) _ h1
    refine ⟨i1, fun j hj => (i2 j hj).trans (Below.heap_setCell _ _ _ _ hj), i3.trans (by simp [World.setCell]), i4, i5, i6⟩
theorem CellsR.set {c : List Value} {cs : Array Value} (h : CellsR ρ c cs) {o : Nat} (ho : o < cs.size) {v u : Value} (hv : VR ρ v u) : CellsR ρ (c.set o v) (cs.setIfInBounds o u) := by
  intro i x hx
  by_cases e : o = i
  · subst e
    rw [List.getElem?_set_self'] at hx
    cases hc : c[o]? with
    | none => rw [hc] at hx; simp at hx
    | some y =>
      rw [hc] at hx; simp at hx; subst hx
      exact ⟨u, Array.getElem?_setIfInBounds_self_of_lt ho, hv⟩
  · rw [List.getElem?_set_ne e] at hx
    obtain ⟨y, hy, hr⟩ := h i x hx
    exact ⟨y, by rw [Array.getElem?_setIfInBounds_ne e]; exact hy, hr⟩
theorem CellsR.setL : ∀ {vs us : List Value}, VRL ρ vs us → ∀ {c : List Value} {cs : Array Value} {o : Nat}, CellsR ρ c cs → o + us.length ≤ cs.size → CellsR ρ (setL c o vs) (setA cs o us)
  | [], _, h, c, cs, o, hc, _ => by rw [show _ = [] from h]; exact hc
  | v :: r, _, ⟨v', r', h1, h2, e⟩, c, cs, o, hc, ho => by
    subst e
    simp only [List.length_cons] at ho
    exact CellsR.setL h2 (hc.set (by omega) h1) (by simp; omega)

theorem aput_run (R : Rel P G B w0 ρ A w) {b o : Nat} {vs us : List Value} {A' : AH} {a' : Addr} (h : aput b o vs A = some A') (ha : AdR ρ ⟨b, o, none⟩ a') (hv : VRL ρ vs us) :
    ∃ w', (storeCells a' us).run P w = .ok () w' ∧ Rel P G B w0 ρ A' w' ∧ Keep A A' := by
  unfold aput at h
  split at h
  · rename_i c e sl hg
    split at h
    · rename_i hc
      cases h
      simp only [Bool.and_eq_true] at hc
      obtain ⟨hlen, hone⟩ := hc
      have hlen := Nat.le_of_ble_eq_true hlen
      obtain ⟨bb, k, cs, lo, hi, h1, rfl, h2⟩ := ptr_at R ha hg
      have hul := hv.length
      have hcl := h2.len
      have hrun := run_storeCells_cells (P := P) bb o us 0 w
        (fun j hj => by rw [h2.cell?]; simp; omega)
        (fun j hj => h2.frozen (by omega))
        (hv.oneC hone)
      obtain ⟨i1, i2, i3, i4, i5, i6⟩ := setCells_heap bb e (lo, hi) us o w cs h2.at_
      refine ⟨w.setCells bb o us, by simpa using hrun, ?_, Keep.put A (by have := R.id_lt hg; have := R.small; omega) _⟩
      refine R.turn hg h1 (h2.own rfl).1 i3 i4 i5 i6 i2 ⟨bb, k, setA cs o us, lo, hi, h1, ⟨i1, ?_, ?_, ?_, ?_, ?_⟩⟩
      · rw [setL_length, setA_size]; exact hcl
      · exact CellsR.setL hv h2.cells (by omega)
      · intro hs; rw [setL_length, setA_size]; exact h2.full hs
      · intro hs n hn; rw [setA_size]; exact h2.cap hs n hn
      · intro _; rw [setA_size]; exact h2.own rfl
    · cases h
  · cases h

theorem astore_run (R : Rel P G B w0 ρ A w) {t : TypeId} {p v p' v' : Value} {A' : AH} (h : astore P t p v A = some A') (hp : VR ρ p p') (hv : VR ρ v v') :
    ∃ w', (Instr.storeAt t p' v').run P w = .ok () w' ∧ Rel P G B w0 ρ A' w' ∧ Keep A A' := by
  unfold astore at h
  split at h
  · rename_i b o
    obtain ⟨a', ha, rfl⟩ := hp
    split at h
    · rename_i n hn
      split at h
      · rename_i hsz
        have hsz := Nat.eq_of_beq_eq_true hsz
        obtain ⟨w', hrun, h1, h2⟩ := aput_run R h ha hv.cells
        refine ⟨w', ?_, h1, h2⟩
        have hs : (Instr.sureAddr (.pointer (some a'))).run P w = .ok a' w := rfl
        have hl := hv.cells.length
        simp only [Array.length_toList] at hl
        have hne : ¬ v'.cells.size ≠ n := by omega
        simp only [Instr.storeAt, Sem.run_bind, hs, Result.andThen_ok, storeVar, run_sizeT hn, hne, if_false, hrun]
      · cases h
    · cases h
  · cases h
end
end Go.Ex
set_option linter.unusedVariables false
set_option linter.unusedSimpArgs false
namespace Go.Ex
open Go Go.RowKit

structure EnvOk (E : Env) : Prop where
  name : ∀ (g : Nat) (fn : Func), E.P.funcs[g]? = some fn → (fn.name == "runtime.NumGoroutine") = false
  mixed : E.P.follows .mixedOrders = true
  noesc : ∀ g, memF g E.noesc = true → ∀ v w, (callFunc g #[v]).run E.P w = .ok (.value v) w
  mnz : ∀ g fn rt e, memF g E.mnz = true → E.P.funcs[g]? = some fn → fn.resultTypes.toList.head? = some rt → E.P.underlying rt = some (.slice e) →
    ∀ (n : Int) w, 0 ≤ n → n ≤ 281474976710656 → ∃ cs d, n.toNat ≤ cs.size ∧ sizeT E.P e = some 1 ∧
      (callFunc g #[.int .i64 n]).run E.P w = .ok (.value (.slice (some ⟨w.heap.size, 0, none⟩) n.toNat cs.size)) { (w.alloc (.cells cs e (0, 0))) with drawn := d }
  clone : ∀ g, memF g E.clone = true → ∀ ty r es clock w, w.heap[r]? = some (.map es clock) →
    (callFunc g #[.iface ty (.map (some r))]).run E.P w = .ok (.value (.iface ty (.map (some w.heap.size)))) (w.alloc (.map es clock))

section
variable {E : Env} {B : Nat} {w0 : Base} {w : World} {ρ : Ren} {A : AH} {T : TT} {a : Act}

/-- What an operation comes to. -/
def Ends (P : Program) (G B : Nat) (w0 : Base) (ρ : Ren) (A A' : AH) (s : Sem Next) (w : World) (v : Value) : Prop :=
  ∃ ρ' w' n u, Ren.le ρ ρ' ∧ s.run P w = .ok n w' ∧ (n = Next.value u ∨ (n = Next.skip ∧ u = undef)) ∧ VR ρ' v u ∧ Rel P G B w0 ρ' A' w' ∧ Keep A A'

theorem Ends.same {P : Program} {G : Nat} (R : Rel P G B w0 ρ A w) {s : Sem Next} {v u : Value} (h : s.run P w = .ok (.value u) w) (hv : VR ρ v u) : Ends P G B w0 ρ A A s w v :=
  ⟨ρ, w, _, u, Ren.le_refl ρ, h, .inl rfl, hv, R, Keep.refl A⟩
theorem Ends.skip {P : Program} {G : Nat} {A' : AH} {s : Sem Next} {w' : World} (h : s.run P w = .ok .skip w') (R : Rel P G B w0 ρ A' w') (k : Keep A A') : Ends P G B w0 ρ A A' s w undef :=
  ⟨ρ, w', _, undef, Ren.le_refl ρ, h, .inr ⟨rfl, rfl⟩, undef_VR, R, k⟩

/-- The values of operands. -/
theorem eval_VR (R : Rel E.P E.G B w0 ρ A w) (hT : TTR ρ T a.tmps) (hok : T.ok) {x : Operand} (hx : okX E x = true) : VR ρ (evT T x) (a.eval x) := by
  cases x with
  | tmp k => exact hT.getD hok k
  | const v => exact VR.plain v hx
  | global g =>
    obtain ⟨k, hk⟩ := R.glob g (blt_true hx)
    exact ⟨⟨g, 0, none⟩, ⟨_, hk, by simp⟩, rfl⟩
  | func f => exact ⟨.func f, #[], #[], rfl, rfl, rfl, rfl⟩
theorem evO_spec {x : Operand} {v : Value} (h : evO E T x = some v) : okX E x = true ∧ v = evT T x := by
  cases x with
  | tmp k =>
    simp only [evO] at h
    refine ⟨rfl, ?_⟩
    simp only [evT, TT.get]
    split at h <;> (cases h; rename_i hg; simp [hg])
  | const v =>
    simp only [evO] at h
    split at h
    · rename_i hp; cases h; exact ⟨hp, rfl⟩
    · cases h
  | global g =>
    simp only [evO] at h
    split at h
    · rename_i hp; cases h; exact ⟨hp, rfl⟩
    · cases h
  | func f => cases h; exact ⟨rfl, rfl⟩
theorem evO_VR (R : Rel E.P E.G B w0 ρ A w) (hT : TTR ρ T a.tmps) (hok : T.ok) {x : Operand} {v : Value} (h : evO E T x = some v) : VR ρ v (a.eval x) := by
  obtain ⟨h1, rfl⟩ := evO_spec h
  exact eval_VR R hT hok h1
theorem evL_VR (R : Rel E.P E.G B w0 ρ A w) (hT : TTR ρ T a.tmps) (hok : T.ok) : ∀ {xs : List Operand} {l : List Value}, evL E T xs = some l → VRL ρ l (xs.map a.eval)
  | [], l, h => by cases h; rfl
  | x :: r, l, h => by
    simp only [evL] at h
    split at h
    · rename_i v hv
      split at h
      · rename_i l' hl
        cases h
        exact ⟨_, _, evO_VR R hT hok hv, evL_VR R hT hok hl, rfl⟩
      · cases h
    · cases h

/-! ### The commonest operations -/
theorem cls_mv {o : Op} {x : Operand} (h : cls o = .mv x) : o = .move x ∨ o = .assign x := by
  cases o with
  | move y => simp [cls] at h; exact .inl (by rw [h])
  | assign y => simp [cls] at h; exact .inr (by rw [h])
  | unOp u t y => cases u <;> simp [cls] at h
  | _ => simp [cls] at h
theorem unOp_cls {u : UnOp} {t : TypeId} {y : Operand} (k : K1) (h : cls (.unOp u t y) = k) : (u = .not ∧ k = .not y) ∨ k = .rest := by
  cases u <;> simp [cls] at h <;> first | exact .inl ⟨rfl, h.symm⟩ | exact .inr h.symm

theorem sound_mv (R : Rel E.P E.G B w0 ρ A w) (hT : TTR ρ T a.tmps) (hok : T.ok) {o : Oper} {x : Operand} (ho : cls o.op = .mv x) {r : AN × Option AH} (h : oMv E T x = some r) :
    ∃ v, r = (.val v, none) ∧ Ends E.P E.G B w0 ρ A A (execOp a.eval o) w v := by
  unfold oMv at h
  split at h
  · rename_i v hv
    cases h
    refine ⟨v, rfl, Ends.same R ?_ (evO_VR R hT hok hv)⟩
    rcases cls_mv ho with e | e <;> simp [execOp, e]
  · cases h

theorem sound_load (R : Rel E.P E.G B w0 ρ A w) (hT : TTR ρ T a.tmps) (hok : T.ok) {o : Oper} {t : TypeId} {x : Operand} (ho : o.op = .load t x) {r : AN × Option AH} (h : oLoad E T A t x = some r) :
    ∃ v, r = (.val v, none) ∧ Ends E.P E.G B w0 ρ A A (execOp a.eval o) w v := by
  unfold oLoad at h
  split at h
  · rename_i p hp
    split at h
    · rename_i v hv
      cases h
      obtain ⟨u, hu, hr⟩ := aload_run R hv (evO_VR R hT hok hp)
      exact ⟨v, rfl, Ends.same R (by simp [execOp, ho, hu]) hr⟩
    · cases h
  · cases h

theorem intBin_run {P : Program} {op : BinOp} {k : IntKind} {x y : Int} {v : Value} (h : intBin op k x y = some v) (t : TypeId) :
    (binOp op t (.int k x) (.int k y)).run P w = .ok v w ∧ plainV v = true := by
  cases op <;> simp [intBin] at h <;> subst h <;> simp [binOp, Op.intArith, Op.intCmp, plainV]
theorem eqGuard_int {P : Program} (op : BinOp) (t : TypeId) (x y : Operand) (j k : IntKind) (m n : Int) : (eqGuard op t x y (.int j m) (.int k n)).run P w = .ok () w := by
  unfold eqGuard
  split <;> rfl

theorem sound_fa (R : Rel E.P E.G B w0 ρ A w) {s : TypeId} {p v p' : Value} {f : Nat} (h : afieldAddr E.P s p f = some v) (hp : VR ρ p p') :
    ∃ u, (Instr.fieldAt s p' f).run E.P w = .ok u w ∧ VR ρ v u := by
  unfold afieldAddr at h
  split at h
  · rename_i fs a0 hu
    obtain ⟨a', ha, rfl⟩ := hp
    split at h
    · rename_i fd hfd
      split at h
      · rename_i n hn
        split at h
        · cases h
        · rename_i hnz
          cases h
          have hnz' : n ≠ 0 := fun e => hnz (by subst e; rfl)
          refine ⟨.pointer (some (a'.add fd.offset)), ?_, ⟨_, ?_, rfl⟩⟩
          · have hs : (Instr.sureAddr (.pointer (some a'))).run E.P w = .ok a' w := rfl
            simp [Instr.fieldAt, run_underlying hu, hfd, hs, fieldPlace, run_sizeT hn, hnz']
          · obtain ⟨x, hx, rfl⟩ := ha
            refine ⟨x, ?_, ?_⟩
            · rw [show (a0.add fd.offset).block = a0.block by unfold Addr.add; split <;> rfl]; exact hx
            · unfold Addr.add; split <;> simp [Nat.add_assoc]
      · cases h
    · cases h
  · cases h

theorem AdR.add {ρ : Ren} {x y : Addr} (h : AdR ρ x y) (n : Nat) : AdR ρ (x.add n) (y.add n) := by
  obtain ⟨q, hq, rfl⟩ := h
  refine ⟨q, ?_, ?_⟩
  · rw [show (x.add n).block = x.block by unfold Addr.add; split <;> rfl]; exact hq
  · unfold Addr.add; split <;> simp [Nat.add_assoc]

theorem natOf_spec {ρ : Ren} {v u : Value} {i : Nat} (h : natOf v = some i) (hv : VR ρ v u) : ∃ k n, v = .int k n ∧ u = .int k n ∧ 0 ≤ n ∧ i = n.toNat := by
  unfold natOf at h
  split at h
  · rename_i k n
    split at h
    · rename_i h0; cases h; exact ⟨k, n, rfl, hv, h0, rfl⟩
    · cases h
  · cases h

theorem sound_ia (R : Rel E.P E.G B w0 ρ A w) {t : TypeId} {x ix v x' ix' : Value} (h : aindexAddr E.P t x ix = some v) (hx : VR ρ x x') (hi : VR ρ ix ix') :
    ∃ u, (Instr.indexAt t x' ix').run E.P w = .ok u w ∧ VR ρ v u := by
  unfold aindexAddr at h
  split at h
  · rename_i i e a0 len c hn hu
    obtain ⟨k, n, rfl, rfl, h0, rfl⟩ := natOf_spec hn hi
    obtain ⟨a', c', ha, hc, rfl⟩ := hx
    split at h
    · rename_i size hsz
      split at h
      · rename_i hlt
        cases h
        have hlt := blt_true hlt
        refine ⟨_, ?_, ⟨_, ha.add _, rfl⟩⟩
        have hlt' : n < (len : Int) := by omega
        simp [Instr.indexAt, asIntOf, run_underlying hu, h0, hlt', run_sizeT hsz]
      · cases h
    · cases h
  · rename_i i n0 e a0 hn hu
    obtain ⟨k, n, rfl, rfl, h0, rfl⟩ := natOf_spec hn hi
    obtain ⟨a', ha, rfl⟩ := hx
    split at h
    · rename_i size hsz
      split at h
      · rename_i hlt
        cases h
        have hlt := blt_true hlt
        refine ⟨_, ?_, ⟨_, ha.add _, rfl⟩⟩
        have hlt' : n < (n0 : Int) := by omega
        have hs : (Instr.sureAddr (.pointer (some a'))).run E.P w = .ok a' w := rfl
        simp [Instr.indexAt, asIntOf, run_underlying hu, h0, hlt', run_sizeT hsz, hs]
      · cases h
    · cases h
  · cases h
end
end Go.Ex
set_option linter.unusedVariables false
set_option linter.unusedSimpArgs false
namespace Go.Ex
open Go Go.RowKit
section
variable {E : Env} {B : Nat} {w0 : Base} {w : World} {ρ : Ren} {A : AH} {T : TT} {a : Act} {P : Program}

theorem extract_toList (cs : Array Value) (o n : Nat) : (cs.extract o (o + n)).toList = (cs.toList.drop o).take n := by
  simp [Array.toList_extract, List.extract]

theorem apart_run {t : TypeId} {cs : List Value} {cs' : Array Value} {o : Nat} {v : Value} (h : apart P t cs o = some v) (hc : VRL ρ cs cs'.toList) :
    ∃ u, (part t cs' o).run P w = .ok u w ∧ VR ρ v u := by
  unfold apart at h
  split at h
  · rename_i ha
    split at h
    · rename_i n hn
      cases h
      refine ⟨.agg (cs'.extract o (o + n)), by simp [part, run_isAggT ha, run_sizeT hn], ⟨cs'.extract o (o + n), ?_, rfl⟩⟩
      show VRL ρ _ _
      rw [extract_toList]
      exact (hc.drop o).take n
    · cases h
  · rename_i ha
    obtain ⟨x, hx, hr⟩ := hc.get o v h
    refine ⟨x, ?_, hr⟩
    have : cs'[o]? = some x := by rw [← Array.getElem?_toList]; exact hx
    simp [part, run_isAggT ha, this]
  · cases h

theorem sound_field {s : TypeId} {x v x' : Value} {f : Nat} (h : afield P s x f = some v) (hx : VR ρ x x') : ∃ u, (Instr.field s x' f).run P w = .ok u w ∧ VR ρ v u := by
  unfold afield at h
  split at h
  · rename_i fs cs hu
    obtain ⟨cs', hc, rfl⟩ := hx
    split at h
    · rename_i fd hfd
      obtain ⟨u, hr, hv⟩ := apart_run (w := w) h hc
      exact ⟨u, by simp [Instr.field, run_underlying hu, hfd, asAgg, hr], hv⟩
    · cases h
  · cases h

theorem sound_index {t : TypeId} {x ix v x' ix' : Value} (h : aindex P t x ix = some v) (hx : VR ρ x x') (hi : VR ρ ix ix') : ∃ u, (Instr.index t x' ix').run P w = .ok u w ∧ VR ρ v u := by
  unfold aindex at h
  split at h
  · rename_i i n0 e cs hn hu
    obtain ⟨k, n, rfl, rfl, h0, rfl⟩ := natOf_spec hn hi
    obtain ⟨cs', hc, rfl⟩ := hx
    split at h
    · rename_i size hsz
      split at h
      · rename_i hlt
        have hlt := blt_true hlt
        have hlt' : n < (n0 : Int) := by omega
        obtain ⟨u, hr, hv⟩ := apart_run (w := w) h hc
        exact ⟨u, by simp [Instr.index, asIntOf, run_underlying hu, h0, hlt', run_sizeT hsz, hr], hv⟩
      · cases h
    · cases h
  · cases h

/-! ### Building -/
theorem foldl_setA : ∀ (us : List Value) (cs : Array Value) (o j : Nat),
    (us.zipIdx j).foldl (fun (cs : Array Value) (x : Value × Nat) => cs.setIfInBounds (o + x.2) x.1) cs = setA cs (o + j) us
  | [], cs, o, j => rfl
  | u :: r, cs, o, j => by
    simp only [List.zipIdx_cons, List.foldl_cons, setA]
    rw [foldl_setA r _ o (j + 1)]; rfl
theorem setA_toList : ∀ (us : List Value) (cs : Array Value) (o : Nat), (setA cs o us).toList = setL cs.toList o us
  | [], _, _ => rfl
  | u :: r, cs, o => by simp only [setA, setL]; rw [setA_toList r]; simp
theorem VRL.set : ∀ {c u : List Value}, VRL ρ c u → ∀ (o : Nat) {v x : Value}, VR ρ v x → VRL ρ (c.set o v) (u.set o x)
  | [], _, h, o, v, x, _ => by rw [show _ = [] from h]; simp [VRL]
  | a :: r, _, ⟨v', r', h1, h2, e⟩, 0, v, x, hv => by subst e; exact ⟨x, r', hv, h2, rfl⟩
  | a :: r, _, ⟨v', r', h1, h2, e⟩, o + 1, v, x, hv => by subst e; exact ⟨v', r'.set o x, h1, VRL.set h2 o hv, rfl⟩
theorem VRL.setL : ∀ {vs us : List Value}, VRL ρ vs us → ∀ {c u : List Value} (o : Nat), VRL ρ c u → VRL ρ (Go.Ex.setL c o vs) (Go.Ex.setL u o us)
  | [], _, h, c, u, o, hc => by rw [show _ = [] from h]; exact hc
  | v :: r, _, ⟨v', r', h1, h2, e⟩, c, u, o, hc => by subst e; exact VRL.setL h2 (o + 1) (hc.set o h1)

inductive PartsR (ρ : Ren) : List (Nat × Value) → List (Nat × Value) → Prop
  | nil : PartsR ρ [] []
  | cons {i : Nat} {v u : Value} {l l' : List (Nat × Value)} (h : VR ρ v u) (t : PartsR ρ l l') : PartsR ρ ((i, v) :: l) ((i, u) :: l')

theorem afill_run {place place' : Nat → Option (Nat × Nat)} (hp : ∀ i x, place i = some x → place' i = some x) : ∀ {parts parts' : List (Nat × Value)}, PartsR ρ parts parts' → ∀ {c : List Value} {cs : Array Value} {r : List Value},
    afill place c parts = some r → VRL ρ c cs.toList → ∃ rs : Array Value, Instr.fill place' cs parts' = some rs ∧ VRL ρ r rs.toList
  | _, _, .nil, c, cs, r, h, hc => by cases h; exact ⟨cs, rfl, hc⟩
  | (i, v) :: l, (_, u) :: l', .cons hv ht, c, cs, r, h, hc => by
    simp only [afill] at h
    split at h
    · cases h
    · rename_i off size hpl
      split at h
      · rename_i hsz
        simp only [Bool.and_eq_true] at hsz
        have hs := Nat.eq_of_beq_eq_true hsz.1
        have hle := Nat.le_of_ble_eq_true hsz.2
        have hul := hv.cells.length
        have hcl := hc.length
        simp only [Array.length_toList] at hul hcl
        have hc' : VRL ρ (setL c off v.cells.toList) (setA cs off u.cells.toList).toList := by rw [setA_toList]; exact VRL.setL hv.cells off hc
        obtain ⟨rs, h1, h2⟩ := afill_run hp ht h hc'
        refine ⟨rs, ?_, h2⟩
        simp only [Instr.fill, hp i _ hpl]
        rw [if_neg (by simp; omega)]
        have e : (u.cells.zipIdx.foldl (fun (cs : Array Value) (x : Value × Nat) => cs.setIfInBounds (off + x.2) x.1) cs) = setA cs off u.cells.toList := by
          rw [← Array.foldl_toList, Array.toList_zipIdx]; exact foldl_setA u.cells.toList cs off 0
        exact (congrArg (fun z => Instr.fill place' z l') e).trans h1
      · cases h

theorem fieldPlaces_get : ∀ {fs : List Field} {pl : List (Nat × Nat)}, fieldPlaces P fs = some pl →
    (fs.mapM (fun f => (sizeOf f.type >>= fun n => pure (f.offset, n) : Sem (Nat × Nat)))).run P w = .ok pl w
  | [], pl, h => by cases h; rfl
  | f :: r, pl, h => by
    simp only [fieldPlaces] at h
    split at h
    · rename_i n l hn hl
      cases h
      simp only [List.mapM_cons, Sem.run_bind, run_sizeT hn, Result.andThen_ok, Sem.run_pure, fieldPlaces_get hl]
    · cases h

theorem sound_build {t : TypeId} {parts parts' : List (Nat × Value)} {v : Value} (h : abuild P t parts = some v) (hp : PartsR ρ parts parts') :
    ∃ u, (Instr.build t parts'.toArray).run P w = .ok u w ∧ VR ρ v u := by
  unfold abuild at h
  split at h
  · rename_i z hz
    have hpz := (zeroT_spec hz).2
    have hzz : VRL ρ z.cells.toList z.cells.toList := plainL_VRL (plainV_cells hpz)
    split at h
    · rename_i fs hu
      split at h
      · rename_i pl hpl
        split at h
        · rename_i cs hcs
          cases h
          obtain ⟨rs, h1, h2⟩ := afill_run (ρ := ρ) (place' := fun i => pl[i]?) (fun i x hx => hx) hp hcs hzz
          refine ⟨.agg rs, ?_, ⟨rs, h2, rfl⟩⟩
          have hm : (fs.mapM (fun f => (sizeOf f.type >>= fun n => pure (f.offset, n) : Sem (Nat × Nat)))).run P w = .ok pl.toArray w := by
            rw [← Array.toArray_toList (xs := fs), List.mapM_toArray, Sem.run_map, fieldPlaces_get hpl]; rfl
          simp only [Instr.build, Sem.run_bind, run_zeroT hz, Result.andThen_ok, run_underlying hu, hm]
          simp [h1]
        · cases h
      · cases h
    · rename_i n e hu
      split at h
      · rename_i size hsz
        split at h
        · rename_i cs hcs
          cases h
          obtain ⟨rs, h1, h2⟩ := afill_run (ρ := ρ) (place' := fun i => some (i * size, size)) (fun i x hx => hx) hp hcs hzz
          refine ⟨.agg rs, ?_, ⟨rs, h2, rfl⟩⟩
          simp only [Instr.build, Sem.run_bind, run_zeroT hz, Result.andThen_ok, run_underlying hu, run_sizeT hsz]
          simp [h1]
        · cases h
      · cases h
    · cases h
  · cases h

/-! ### Comparisons where an address stands -/
theorem sound_eq {G : Nat} (R : Rel P G B w0 ρ A w) {t : TypeId} {x y x' y' : Value} {b : Bool} (h : aeq P t x y = some b) (hx : VR ρ x x') (hy : VR ρ y y') :
    (Op.equal t x' y').run P w = .ok b w := by
  have key : ∀ (d : Nat), (Op.equalIn (d + 1) t x' y').run P w = .ok b w := by
    intro d
    unfold aeq at h
    split at h
    · rename_i e b0 hu
      cases h; cases hx
      cases b0 with
      | none => cases hy; simp [Op.equalIn, run_underlying hu]
      | some b0 => obtain ⟨b', _, rfl⟩ := hy; simp [Op.equalIn, run_underlying hu]
    · rename_i e a0 hu
      cases h; cases hy
      obtain ⟨a', _, rfl⟩ := hx; simp [Op.equalIn, run_underlying hu]
    · rename_i e a0 b0 hu
      obtain ⟨a', ⟨p, hp, rfl⟩, rfl⟩ := hx
      obtain ⟨b', ⟨q, hq, rfl⟩, rfl⟩ := hy
      split at h
      · rename_i n hn
        split at h
        · rename_i hc
          simp only [Bool.and_eq_true, Bool.not_eq_true'] at hc
          obtain ⟨⟨⟨h1, h2⟩, h3⟩, h4⟩ := hc
          cases h
          have h2 := Nat.eq_of_beq_eq_true h2
          have hn0 : n ≠ 0 := fun e => by subst e; cases h1
          rw [h2] at hp
          rw [hp] at hq; cases hq
          have s1 : a0.spot = none := by simpa using h3
          have s2 : b0.spot = none := by simpa using h4
          have : ((⟨p.1, p.2.1 + a0.off, a0.spot⟩ : Addr) == ⟨p.1, p.2.1 + b0.off, b0.spot⟩) = Nat.beq a0.off b0.off := by
            rw [s1, s2]
            by_cases e : a0.off = b0.off
            · rw [e]; simp
            · have h1 : Nat.beq a0.off b0.off = false := by
                cases hb : Nat.beq a0.off b0.off with
                | false => rfl
                | true => exact absurd (Nat.eq_of_beq_eq_true hb) e
              rw [h1]
              simp
              omega
          simp [Op.equalIn, run_underlying hu, run_sizeT hn, hn0, sameAddr, this]
        · cases h
      · cases h
    · rename_i e n c b0 n' c' hu
      cases h
      obtain ⟨_, rfl⟩ := hx
      cases b0 with
      | none => obtain ⟨_, rfl⟩ := hy; simp [Op.equalIn, run_underlying hu]
      | some b0 => obtain ⟨b', d', _, _, rfl⟩ := hy; simp [Op.equalIn, run_underlying hu]
    · rename_i e a0 n c n' c' hu
      cases h
      obtain ⟨_, rfl⟩ := hy
      obtain ⟨b', d', _, _, rfl⟩ := hx; simp [Op.equalIn, run_underlying hu]
    · rename_i k e b0 hu
      cases h; cases hx
      cases b0 with
      | none => cases hy; simp [Op.equalIn, run_underlying hu]
      | some b0 => obtain ⟨b', _, rfl⟩ := hy; simp [Op.equalIn, run_underlying hu]
    · rename_i k e b0 hu
      cases h; cases hy
      obtain ⟨b', _, rfl⟩ := hx; simp [Op.equalIn, run_underlying hu]
    · rename_i ps rs v f first cap hu
      cases h; cases hx
      obtain ⟨f', a', c', _, _, _, rfl⟩ := hy; simp [Op.equalIn, run_underlying hu]
    · rename_i ps rs v f first cap hu
      cases h; cases hy
      obtain ⟨f', a', c', _, _, _, rfl⟩ := hx; simp [Op.equalIn, run_underlying hu]
    · rename_i ms t0 v0 hu
      cases h; cases hx
      obtain ⟨v', _, rfl⟩ := hy; simp [Op.equalIn, run_underlying hu]
    · rename_i ms t0 v0 hu
      cases h; cases hy
      obtain ⟨v', _, rfl⟩ := hx; simp [Op.equalIn, run_underlying hu]
    · cases h
  exact key 9999
end
end Go.Ex
set_option linter.unusedVariables false
set_option linter.unusedSimpArgs false
namespace Go.Ex
open Go Go.RowKit
def okN (A : AH) : Prop := A.next < 1099511627775
section
variable {E : Env} {B : Nat} {w0 : Base} {w : World} {ρ : Ren} {A : AH} {T : TT} {a : Act} {P : Program} {G : Nat}

theorem CellsR.of_VRL {vs us extra : List Value} (h : VRL ρ vs us) : CellsR ρ vs (us ++ extra).toArray := by
  intro i v hv
  obtain ⟨x, hx, hr⟩ := h.get i v hv
  refine ⟨x, ?_, hr⟩
  have hi : i < us.length := (List.getElem?_eq_some_iff.1 hx).1
  simp only [List.getElem?_toArray]
  rw [List.getElem?_append_left hi]; exact hx

theorem Rel.newCells (R : Rel P G B w0 ρ A w) {vs us extra : List Value} {e : TypeId} {sl : Bool} {k : Nat} (hn : okN (A.add (.cells vs e sl true))) (hv : VRL ρ vs us) (hfull : sl = false → extra = [])
    (hcap : sl = true → ∀ n, sizeT P e = some n → us.length + extra.length = k * n) :
    Rel P G B w0 (ρ.set A.next (w.heap.size, 0, k)) (A.add (.cells vs e sl true)) (w.alloc (.cells (us ++ extra).toArray e)) := by
  have hle := Ren.le_set (R.fresh A.next (Nat.le_refl _)) (w.heap.size, 0, k)
  refine R.add _ _ k hn ⟨w.heap.size, k, _, 0, 0, Ren.set_same _, ⟨heap_push_new _ _, ?_, ?_, ?_, ?_, ?_⟩⟩
  · rw [List.size_toArray, List.length_append, hv.length]; omega
  · exact (CellsR.of_VRL hv).mono hle
  · intro hs; rw [hfull hs, List.size_toArray, List.append_nil, hv.length]
  · intro hs n hn; rw [List.size_toArray, List.length_append]; exact hcap hs n hn
  · intro _; exact ⟨R.sz, fun o _ => by simp⟩

theorem ptr_new (k : Nat) : VR (ρ.set A.next (w.heap.size, 0, k)) (.pointer (some ⟨A.next, 0, none⟩)) (.pointer (some ⟨w.heap.size, 0, none⟩)) :=
  ⟨_, ⟨_, Ren.set_same _, by simp⟩, rfl⟩
theorem slice_new (k n c : Nat) (hc : isEx c = true) : VR (ρ.set A.next (w.heap.size, 0, k)) (.slice (some ⟨A.next, 0, none⟩) n c) (.slice (some ⟨w.heap.size, 0, none⟩) n c) :=
  ⟨_, c, ⟨_, Ren.set_same _, by simp⟩, .inl ⟨hc, rfl⟩, rfl⟩
theorem slice_newCap (k n : Nat) : VR (ρ.set A.next (w.heap.size, 0, k)) (.slice (some ⟨A.next, 0, none⟩) n (mkCap A.next 0)) (.slice (some ⟨w.heap.size, 0, none⟩) n k) := by
  have h1 := isEx_mk A.next 0
  have h2 := capB_mk (id := A.next) Ks_pos
  have h3 := capO_mk (id := A.next) Ks_pos
  refine ⟨_, k, ⟨_, Ren.set_same _, by simp⟩, .inr ⟨h1, (w.heap.size, 0, k), ?_, ?_, ?_⟩, rfl⟩
  · rw [h2]; exact Ren.set_same _
  · rw [h3]; exact Nat.zero_le _
  · rw [h3]; exact (Nat.sub_zero k).symm

theorem sound_alloc (R : Rel P G B w0 ρ A w) {o : Oper} {e : TypeId} (ho : o.op = .alloc e) {z : Value} (hz : zeroT P e = some z) (hn : okN (A.add (.cells z.cells.toList e false true))) (ev : Operand → Value) :
    Ends P G B w0 ρ A (A.add (.cells z.cells.toList e false true)) (execOp ev o) w (.pointer (some ⟨A.next, 0, none⟩)) := by
  have hzz : VRL ρ z.cells.toList z.cells.toList := plainL_VRL (plainV_cells (zeroT_spec hz).2)
  refine ⟨_, _, _, _, Ren.le_set (R.fresh A.next (Nat.le_refl _)) (w.heap.size, 0, 0), ?_, .inl rfl, ptr_new 0, R.newCells (extra := []) hn hzz (fun _ => rfl) (fun h => by cases h), Keep.add A R.small _⟩
  simp [execOp, ho, Instr.alloc, run_zeroT hz, newVar, newRow]

theorem sound_box (R : Rel P G B w0 ρ A w) {o : Oper} {e : TypeId} {x : Operand} (ho : o.op = .box e x) {v : Value} {ev : Operand → Value} (hv : VR ρ v (ev x)) (hn : okN (A.add (.cells v.cells.toList e false true))) :
    Ends P G B w0 ρ A (A.add (.cells v.cells.toList e false true)) (execOp ev o) w (.pointer (some ⟨A.next, 0, none⟩)) := by
  refine ⟨_, _, _, _, Ren.le_set (R.fresh A.next (Nat.le_refl _)) (w.heap.size, 0, 0), ?_, .inl rfl, ptr_new 0, R.newCells (extra := []) hn hv.cells (fun _ => rfl) (fun h => by cases h), Keep.add A R.small _⟩
  simp [execOp, ho, Instr.box, newVar, newRow]

theorem replZ_length (z : List Value) : ∀ n, (replZ z n).length = n * z.length
  | 0 => by simp [replZ]
  | n + 1 => by simp [replZ, replZ_length z n, Nat.succ_mul]; omega
theorem replZ_get (z : List Value) : ∀ (n i : Nat), i < n * z.length → (replZ z n)[i]? = z[i % z.length]?
  | 0, i, h => by simp at h
  | n + 1, i, h => by
    simp only [replZ]
    by_cases hi : i < z.length
    · rw [List.getElem?_append_left hi, Nat.mod_eq_of_lt hi]
    · have hi : z.length ≤ i := by omega
      rw [List.getElem?_append_right hi, replZ_get z n (i - z.length) (by rw [Nat.succ_mul] at h; omega)]
      rw [Nat.mod_eq_sub_mod hi]
theorem range_replZ (z : Array Value) (n : Nat) : ((Array.range (n * z.size)).map (z[· % z.size]!)) = (replZ z.toList n).toArray := by
  apply Array.ext'
  apply List.ext_getElem?
  intro i
  by_cases hi : i < n * z.size
  · rw [List.toList_toArray, replZ_get z.toList n i (by simpa using hi)]
    have hz : 0 < z.size := by
      rcases Nat.eq_zero_or_pos z.size with h | h
      · rw [h] at hi; simp at hi
      · exact h
    have hm := Nat.mod_lt i hz
    simp [hi, hm]
  · rw [List.toList_toArray]
    rw [List.getElem?_eq_none (by simp; omega), List.getElem?_eq_none (by rw [replZ_length]; simp; omega)]
theorem replZ_plain (z : List Value) (h : plainL z = true) : ∀ n, plainL (replZ z n) = true
  | 0 => rfl
  | n + 1 => by
    have app : ∀ (a b : List Value), plainL a = true → plainL b = true → plainL (a ++ b) = true := by
      intro a b
      induction a with
      | nil => intro _ h; exact h
      | cons x r ih => intro h1 h2; simp only [List.cons_append, plainL, Bool.and_eq_true] at *; exact ⟨h1.1, ih h1.2 h2⟩
    exact app _ _ h (replZ_plain z h n)

theorem sound_buildSlice (R : Rel P G B w0 ρ A w) {t : TypeId} {len : Nat} {parts parts' : List (Nat × Value)} {v : Value} {A' : AH} (h : abuildSlice P t len parts A = some (v, A')) (hn : okN A') (hp : PartsR ρ parts parts') :
    ∃ ρ' w' u, Ren.le ρ ρ' ∧ (Instr.buildSlice t len parts'.toArray).run P w = .ok u w' ∧ VR ρ' v u ∧ Rel P G B w0 ρ' A' w' ∧ Keep A A' := by
  unfold abuildSlice at h
  split at h
  · rename_i e hu
    split at h
    · rename_i size z hsz hz
      split at h
      · cases h
      · rename_i hc
        simp only [Bool.or_eq_true, Bool.not_eq_true', not_or, Bool.not_eq_false] at hc
        have h1 := Nat.le_of_ble_eq_true hc.1.1
        have h2 := Nat.eq_of_beq_eq_true hc.1.2
        have hpos := Nat.le_of_ble_eq_true hc.2
        have hzz : VRL ρ (replZ z.cells.toList len) (replZ z.cells.toList len) := plainL_VRL (replZ_plain _ (plainV_cells (zeroT_spec hz).2) len)
        split at h
        · rename_i cs hcs
          split at h
          · cases h
            obtain ⟨rs, r1, r2⟩ := afill_run (ρ := ρ) (cs := (replZ z.cells.toList len).toArray) (place' := fun i => some (i * size, size)) (fun i x hx => hx) hp hcs hzz
            have hlen : isEx len = true := isEx_of (by
              have := Nat.le_mul_of_pos_right len hpos; omega)
            refine ⟨_, _, _, Ren.le_set (R.fresh A.next (Nat.le_refl _)) (w.heap.size, 0, 0), ?_, slice_new 0 len len hlen, R.newCells (extra := []) hn r2 (fun _ => rfl) (fun h => by cases h), Keep.add A R.small _⟩
            have hnot : ¬ len * size > 2 ^ 24 := by omega
            have e1 : (if len * size = 0 then pure #[] else do pure (← zeroValue e).cells : Sem (Array Value)).run P w = .ok (if len * size = 0 then #[] else z.cells) w := by
              split <;> simp [run_zeroT hz]
            have hz2 : z.cells.size = size := h2
            by_cases h0 : len * size = 0
            · have hl0 : len = 0 := by
                rcases Nat.mul_eq_zero.1 h0 with h | h
                · exact h
                · omega
              subst hl0
              simp only [replZ] at r1
              have e0 : Array.range 0 = #[] := rfl
              simp [Instr.buildSlice, run_underlying hu, run_sizeT hsz, newRow, r1, e0]
            · have hr := range_replZ z.cells len
              rw [hz2] at hr
              simp only [Instr.buildSlice, Sem.run_bind, run_underlying hu, Result.andThen_ok, run_sizeT hsz, hnot, if_false, h0, run_zeroT hz, Sem.run_pure, hz2, hr, r1]
              simp [newRow]
          · cases h
        · cases h
    · cases h
  · cases h

theorem sound_makeSlice (R : Rel P G B w0 ρ A w) {t : TypeId} {len cap len' cap' v : Value} {A' : AH} (h : amakeSlice P t len cap A = some (v, A')) (hn : okN A') (hl : VR ρ len len') (hc : VR ρ cap cap') :
    ∃ ρ' w' u, Ren.le ρ ρ' ∧ (Instr.makeSlice t len' cap').run P w = .ok u w' ∧ VR ρ' v u ∧ Rel P G B w0 ρ' A' w' ∧ Keep A A' := by
  unfold amakeSlice at h
  split at h
  · rename_i e l c hu hln hcn
    obtain ⟨k1, n1, rfl, rfl, l0, rfl⟩ := natOf_spec hln hl
    obtain ⟨k2, n2, rfl, rfl, c0, rfl⟩ := natOf_spec hcn hc
    split at h
    · rename_i i z hi hz
      split at h
      · rename_i hcond
        simp only [Bool.and_eq_true] at hcond
        obtain ⟨⟨⟨⟨b1, b2⟩, b3⟩, b4⟩, b5⟩ := hcond
        have b1 := Nat.le_of_ble_eq_true b1
        have b2 := Nat.le_of_ble_eq_true b2
        have b3 := blt_true b3
        have b4 := Nat.eq_of_beq_eq_true b4
        cases h
        have hex : isEx n2.toNat = true := isEx_of (by omega)
        have hzz : VRL ρ (replZ z.cells.toList n2.toNat) (replZ z.cells.toList n2.toNat) := plainL_VRL (replZ_plain _ (plainV_cells (zeroT_spec hz).2) _)
        refine ⟨_, _, _, Ren.le_set (R.fresh A.next (Nat.le_refl _)) (w.heap.size, 0, 0), ?_, slice_new 0 n1.toNat n2.toNat hex, R.newCells (extra := []) hn hzz (fun _ => rfl) (fun h => by cases h), Keep.add A R.small _⟩
        have w1 : IntKind.i64.wrap n1 = n1 := IntWalk.i64_in n1 ⟨by omega, by omega⟩
        have w2 : IntKind.i64.wrap n2 = n2 := IntWalk.i64_in n2 ⟨by omega, by omega⟩
        have hsz : sizeT P e = some i.size := by simp [sizeT, hi]
        have hby : ((i.bytes * n2.toNat : Nat) : Int) ≤ 281474976710656 := by
          have : (140737488355328 : Int) ≤ 281474976710656 := by omega
          omega
        have hby2 : ¬ (2 ^ 48 : Int) < (i.bytes : Int) * n2 := by
          have e1 : ((i.bytes * n2.toNat : Nat) : Int) = (i.bytes : Int) * n2 := by
            rw [Int.natCast_mul, Int.toNat_of_nonneg c0]
          rw [← e1]; omega
        have hneg : ¬ n2 < 0 := by omega
        have hneg1 : ¬ n1 < 0 := by omega
        have hle : ¬ n2 < n1 := by omega
        have hr := range_replZ z.cells n2.toNat
        rw [b4] at hr
        have e1 : ∀ ww : World, (if n2.toNat * i.size = 0 then pure #[] else do pure (← zeroValue e).cells : Sem (Array Value)).run P ww = .ok (if n2.toNat * i.size = 0 then #[] else z.cells) ww := by
          intro ww
          split <;> simp [run_zeroT hz]
        have hcells : ∀ y : Array Value, y = (if n2.toNat * i.size = 0 then #[] else z.cells) → (Array.range (n2.toNat * i.size)).map (fun x => y[x % y.size]!) = (replZ z.cells.toList n2.toNat).toArray := by
          intro y hy
          by_cases h0 : n2.toNat * i.size = 0
          · rw [h0]
            have : replZ z.cells.toList n2.toNat = [] := by
              rw [← List.length_eq_zero_iff, replZ_length]; simpa [b4] using h0
            have e0 : Array.range 0 = #[] := rfl
            rw [this, e0]; simp
          · rw [if_neg h0] at hy; subst hy; rw [← b4] at hr ⊢; exact hr
        simp only [Instr.makeSlice, Sem.run_bind, run_underlying hu, Result.andThen_ok, asInt, asIntOf, Sem.run_pure, run_typeInfo _ hi, w1, w2]
        rw [if_neg (by simp [hneg, hneg1, hle]; omega)]
        by_cases h0 : n2.toNat * i.size = 0
        · have hc0 := hcells #[] (by rw [if_pos h0])
          simp only [Sem.run_bind, Sem.run_pure, Result.andThen_ok, run_askRoom, run_sizeT hsz, h0, if_true]
          rw [h0] at hc0
          rw [hc0]
          simp [newRow]
        · have hc0 := hcells z.cells (by rw [if_neg h0])
          simp only [Sem.run_bind, Sem.run_pure, Result.andThen_ok, run_askRoom, run_sizeT hsz, h0, if_false, run_zeroT hz]
          rw [hc0]
          simp [newRow]
      · cases h
    · cases h
  · cases h
end
end Go.Ex
