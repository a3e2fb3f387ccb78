/- Lemmas: an executor over the program's code and its soundness, under the conditions that each theorem names. -/
import Derived.Test.YtplphgmdjogloaaGreatDoorExB
set_option linter.unusedVariables false
set_option linter.unusedSimpArgs false
set_option linter.unusedVariables false
set_option linter.unusedSimpArgs false
namespace Go.Ex
open Go Go.RowKit
section
variable {E : Env} {B : Nat} {w0 : Base} {w : World} {ρ : Ren} {A : AH} {T : TT} {a : Act} {P : Program} {G : Nat}

/-- What an entry of the model comes to. -/
def EndsV (P : Program) (G B : Nat) (w0 : Base) (ρ : Ren) (A A' : AH) (s : Sem Value) (w : World) (v : Value) : Prop :=
  ∃ ρ' w' u, Ren.le ρ ρ' ∧ s.run P w = .ok u w' ∧ VR ρ' v u ∧ Rel P G B w0 ρ' A' w' ∧ Keep A A'
theorem EndsV.same (R : Rel P G B w0 ρ A w) {s : Sem Value} {v u : Value} (h : s.run P w = .ok u w) (hv : VR ρ v u) : EndsV P G B w0 ρ A A s w v :=
  ⟨ρ, w, u, Ren.le_refl ρ, h, hv, R, Keep.refl A⟩

theorem run_sliceBound {k : IntKind} {n : Int} {y : Nat} {code : BoundsCode} (h0 : 0 ≤ n) (h : n ≤ y) : (Instr.sliceBound (.int k n) y code).run P w = .ok n.toNat w := by
  simp [Instr.sliceBound, asIntOf, h0, h]

def OptR (ρ : Ren) (x x' : Option Value) : Prop := match x, x' with | none, none => True | some v, some u => VR ρ v u | _, _ => False
/-- A bound that may be left out. -/
theorem optNat_spec {x x' : Option Value} {d i : Nat} (h : optNat x d = some i) (hx : OptR ρ x x') :
    (x = none ∧ x' = none ∧ i = d) ∨ ∃ k n, x = some (.int k n) ∧ x' = some (.int k n) ∧ 0 ≤ n ∧ i = n.toNat := by
  cases x with
  | none => cases x' with
    | none => left; cases h; exact ⟨rfl, rfl, rfl⟩
    | some u => exact hx.elim
  | some v => cases x' with
    | none => exact hx.elim
    | some u =>
      obtain ⟨k, n, rfl, rfl, h0, rfl⟩ := natOf_spec h hx
      exact .inr ⟨k, n, rfl, rfl, h0, rfl⟩


theorem run_bounds {isS : Bool} {len cap l h m : Nat} {lo hi mx lo' hi' mx' : Option Value} (hlo : optNat lo 0 = some l) (hhi : optNat hi len = some h) (hmx : optNat mx cap = some m)
    (rlo : OptR ρ lo lo') (rhi : OptR ρ hi hi') (rmx : OptR ρ mx mx') (h1 : m ≤ cap) (h2 : h ≤ m) (h3 : l ≤ h) (h4 : mx.isSome = true → hi.isSome = true) :
    (Instr.sliceBounds isS len cap lo' hi' mx').run P w = .ok (l, h, m) w := by
  rcases optNat_spec hlo rlo with ⟨rfl, rfl, rfl⟩ | ⟨k1, n1, rfl, rfl, h01, rfl⟩ <;>
  rcases optNat_spec hmx rmx with ⟨rfl, rfl, rfl⟩ | ⟨k, n, rfl, rfl, h0, rfl⟩ <;>
  rcases optNat_spec hhi rhi with ⟨rfl, rfl, rfl⟩ | ⟨k2, n2, rfl, rfl, h02, rfl⟩ <;>
  first
  | (cases (h4 rfl); done)
  | (simp only [Instr.sliceBounds, Sem.run_bind, Sem.run_pure, Result.andThen_ok]
     repeat (first | rw [run_sliceBound (by assumption) (by omega)] | simp only [Result.andThen_ok, Sem.run_pure, Sem.run_bind]))

theorem isEx_le {c d : Nat} (h : isEx c = true) (hd : d ≤ c) : isEx d = true := by
  unfold isEx at *
  exact Nat.ble_eq_true_of_le (Nat.lt_of_le_of_lt hd (Nat.le_of_ble_eq_true h))

theorem CR.ex {c c' : Nat} (h : CR ρ c c') (he : isEx c = true) : c' = c := by
  rcases h with ⟨_, e⟩ | ⟨h, _⟩
  · exact e
  · rw [he] at h; cases h

/-- Behind a capacity that a block tells: how many elements lie there at least. -/
theorem known_cap (R : Rel P G B w0 ρ A w) {b o size sc c' : Nat} {e : TypeId} {c : List Value} {wr sl : Bool} (hg : A.get b = some (.cells c e sl wr)) (hsl : sl = true) (hs : sizeT P e = some size) (hex : isEx sc = false)
    (hb : capB sc = b) (ho : o = capO sc * size) (hc : CR ρ sc c') (hpos : 1 ≤ size) : ∃ x, ρ b = some x ∧ c' = x.2.2 - capO sc ∧ capO sc ≤ x.2.2 ∧ c.length ≤ x.2.2 * size := by
  rcases hc with ⟨h, _⟩ | ⟨_, x, hx, hle, e⟩
  · rw [hex] at h; cases h
  · rw [hb] at hx
    obtain ⟨bb, k, cs, lo, hi, h1, h2⟩ := R.objs b _ hg
    rw [h1] at hx; cases hx
    have := h2.cap hsl size hs
    have hl := h2.len
    exact ⟨_, h1, e, hle, by simp only; omega⟩
end
end Go.Ex
set_option linter.unusedVariables false
set_option linter.unusedSimpArgs false
namespace Go.Ex
open Go Go.RowKit
section
variable {E : Env} {B : Nat} {w0 : Base} {w : World} {ρ : Ren} {A : AH} {T : TT} {a : Act} {P : Program} {G : Nat}

/-! ### What is appended -/
theorem alen_spec {x x' : Value} {n : Nat} (h : alen x = some n) (hx : VR ρ x x') : Builtin.lenOf x' = Sem.pure n := by
  unfold alen at h
  split at h
  · rename_i b n' c
    cases h
    cases b with
    | none => obtain ⟨_, rfl⟩ := hx; rfl
    | some b => obtain ⟨a', c', _, _, rfl⟩ := hx; rfl
  · cases h; cases hx; rfl
  · cases h

theorem extract_zero_data (s : ByteArray) (n : Nat) : (s.extract 0 n).data.toList = s.data.toList.take n := by
  simp [ByteArray.extract, ByteArray.copySlice, Array.toList_extract, List.extract]

theorem aview_run (R : Rel P G B w0 ρ A w) {size n : Nat} {x x' : Value} {vs : List Value} (h : aview size x n A = some vs) (hx : VR ρ x x') :
    ∃ us, VRL ρ vs us ∧ (Builtin.firstCells size n x').run P w = .ok us.toArray w := by
  unfold aview at h
  split at h
  · cases h
    obtain ⟨_, rfl⟩ := hx
    exact ⟨[], rfl, run_firstCells_none w size n _ _⟩
  · rename_i b o _ _
    obtain ⟨a', c', ha, _, rfl⟩ := hx
    split at h
    · rename_i h0
      cases h
      have h0 := Nat.eq_of_beq_eq_true h0
      exact ⟨[], rfl, run_firstCells_some w size n a' _ _ [] (by simp [h0]) (by intro j v hv; simp at hv)⟩
    · split at h
      · rename_i c e sl wr hg
        obtain ⟨us, hu, hr⟩ := cells_run R ha hg h
        exact ⟨us, hu, hr⟩
      · cases h
  · rename_i s
    cases h; cases hx
    refine ⟨(s.data.toList.take n).map fun b => Value.int .u8 b.toNat, plainL_VRL ?_, ?_⟩
    · generalize s.data.toList.take n = l
      induction l with
      | nil => rfl
      | cons x r ih => simp [plainL, plainV, ih]
    · have : (Builtin.firstCells size n (.string s)) = pure ((s.extract 0 n).data.map fun b => Value.int .u8 b.toNat) := rfl
      rw [this, Sem.run_pure]
      congr 1
      apply Array.ext'
      simp only [Array.toList_map, extract_zero_data]
  · cases h

/-- What stands behind the elements of an append. -/
inductive News (P : Program) (e : TypeId) (i : TypeInfo) (z : Value) (xt : TypeId) (x : Value) (n : Nat) (us : List Value) (w : World) : Prop
  | zeros (k : IntKind) (j : IntKind) (l : Int) (h : P.underlying xt = some (.int k)) (hx : x = .int j l) (h0 : 0 ≤ l) (hn : n = l.toNat) (hu : us = replZ z.cells.toList n)
  | cells (d : TypeDesc) (h : P.underlying xt = some d) (hd : ∀ k, d ≠ .int k) (hl : Builtin.lenOf x = Sem.pure n) (hu : (Builtin.firstCells i.size n x).run P w = .ok us.toArray w)

theorem anews_spec (R : Rel P G B w0 ρ A w) {e : TypeId} {i : TypeInfo} {xt : TypeId} {x x' z : Value} {n : Nat} {vs : List Value} (hz : zeroT P e = some z) (h : anews P e i.size xt x A = some (n, vs)) (hx : VR ρ x x') :
    ∃ us, VRL ρ vs us ∧ ∀ (w' : World), Rel P G B w0 ρ A w' → News P e i z xt x' n us w' := by
  unfold anews at h
  split at h
  · rename_i k j l hu
    split at h
    · cases h
    · rename_i h0
      rw [hz] at h
      simp only [Option.some.injEq, Prod.mk.injEq] at h
      obtain ⟨rfl, rfl⟩ := h
      cases hx
      exact ⟨_, plainL_VRL (replZ_plain _ (plainV_cells (zeroT_spec hz).2) _), fun w' _ => .zeros k j l hu rfl (by omega) rfl rfl⟩
  · cases h
  · rename_i d h1 hu h2
    split at h
    · rename_i m hm
      split at h
      · rename_i ws hws
        simp only [Option.some.injEq, Prod.mk.injEq] at h
        obtain ⟨rfl, rfl⟩ := h
        obtain ⟨us, hv, hr⟩ := aview_run R hws hx
        refine ⟨us, hv, fun w' R' => .cells d hu (fun k e => h1 k e) (alen_spec hm hx) ?_⟩
        obtain ⟨us', hv', hr'⟩ := aview_run R' hws hx
        rw [VRL.func _ _ _ hv hv']; exact hr'
      · cases h
    · cases h
  · cases h

theorem zeroCells_eq (z : Array Value) (n : Nat) : Builtin.zeroCells z n = (replZ z.toList n).toArray := range_replZ z n

/-- Elements laid down in place. -/
def inPlace (P : Program) (base : Option Addr) (size sl n sc : Nat) (us : List Value) (w : World) : Result Value :=
  match base with
  | none => .ok (.slice none (sl + n) sc) w
  | some a => ((storeCells (a.add (sl * size)) us).run P w).andThen fun _ w' => .ok (.slice (some a) (sl + n) sc) w'

/-- There is room. -/
theorem run_append_in {e st xt ty : TypeId} {i : TypeInfo} {z x : Value} {n sl sc : Nat} {us : List Value} (ht : P.underlying st = some (.slice e)) (hi : P.info? e = some i) (hz : zeroT P e = some z) (base : Option Addr)
    (hs : News P e i z xt x n us w) (hbytes : (sl + n) * i.bytes ≤ 140737488355328) (hb : 1 ≤ i.bytes) (hsize : 1 ≤ i.size) (hzs : z.cells.size = i.size) (hroom : sl + n ≤ sc) :
    (Builtin.append_ #[st, xt] ty #[.slice base sl sc, x]).run P w = inPlace P base i.size sl n sc us w := by
  unfold inPlace
  have hsz : sizeT P e = some i.size := by simp [sizeT, hi]
  cases hs with
  | zeros k j l h hx h0 hn hu =>
    subst hx hn hu
    have hl1 : l.toNat ≤ (sl + l.toNat) * i.bytes := Nat.le_trans (Nat.le_add_left _ _) (Nat.le_mul_of_pos_right _ hb)
    have hw : IntKind.i64.wrap l = l := IntWalk.i64_in l ⟨by omega, by omega⟩
    have hneg : ¬ l < 0 := by omega
    have hbig : ¬ (281474976710656 : Int) < l * (i.bytes : Int) := by
      have e1 : ((l.toNat * i.bytes : Nat) : Int) = l * (i.bytes : Int) := by rw [Int.natCast_mul, Int.toNat_of_nonneg h0]
      have : l.toNat * i.bytes ≤ (sl + l.toNat) * i.bytes := Nat.mul_le_mul_right _ (Nat.le_add_left _ _)
      rw [← e1]; omega
    have hz0 : l.toNat * i.size = 0 → replZ z.cells.toList l.toNat = [] := by
      intro h; rw [← List.length_eq_zero_iff, replZ_length]; simpa [hzs] using h
    by_cases hzero : l.toNat * i.size = 0
    · have hh := hz0 hzero
      rw [hh]
      cases base with
      | none => simp [Builtin.append_, run_underlying ht, run_underlying h, run_sizeT hsz, asInt, asIntOf, hw, hneg, run_typeInfo _ hi, hbig, hroom, hzero, storeCells]
      | some a => simp [Builtin.append_, run_underlying ht, run_underlying h, run_sizeT hsz, asInt, asIntOf, hw, hneg, run_typeInfo _ hi, hbig, hroom, hzero, storeCells]
    · cases base with
      | none => simp [Builtin.append_, run_underlying ht, run_underlying h, run_sizeT hsz, asInt, asIntOf, hw, hneg, run_typeInfo _ hi, hbig, hroom, hzero, run_zeroT hz, zeroCells_eq]
      | some a => simp [Builtin.append_, run_underlying ht, run_underlying h, run_sizeT hsz, asInt, asIntOf, hw, hneg, run_typeInfo _ hi, hbig, hroom, hzero, run_zeroT hz, zeroCells_eq]
  | cells d h hd hl hu =>
    have hlr : (Builtin.lenOf x).run P w = .ok n w := by rw [hl]; rfl
    have hz' : (match d with | .int _ => true | _ => false) = false := by cases d <;> first | rfl | exact absurd rfl (hd _)
    cases base with
    | none => simp [Builtin.append_, run_underlying ht, run_underlying h, run_sizeT hsz, hz', hlr, hroom, hu]
    | some a => simp [Builtin.append_, run_underlying ht, run_underlying h, run_sizeT hsz, hz', hlr, hroom, hu]

/-- There is none. -/
theorem run_append_out {e st xt ty : TypeId} {i : TypeInfo} {z x : Value} {n sl sc : Nat} {us olds : List Value} (ht : P.underlying st = some (.slice e)) (hi : P.info? e = some i) (hz : zeroT P e = some z) (base : Option Addr)
    (hs : News P e i z xt x n us w) (hs2 : News P e i z xt x n us w.drew) (hold : (Builtin.firstCells i.size sl (.slice base sl sc)).run P w.drew = .ok olds.toArray w.drew)
    (hbytes : (sl + n) * i.bytes ≤ 140737488355328) (hb : 1 ≤ i.bytes) (hsize : 1 ≤ i.size) (hzs : z.cells.size = i.size) (hroom : sc < sl + n) :
    (Builtin.append_ #[st, xt] ty #[.slice base sl sc, x]).run P w =
      .ok (.slice (some ⟨w.heap.size, 0, none⟩) (sl + n) (grownCap w (sl + n) sc e)) (w.drew.alloc (.cells (olds ++ us ++ replZ z.cells.toList (grownCap w (sl + n) sc e - (sl + n))).toArray e)) := by
  have hsz : sizeT P e = some i.size := by simp [sizeT, hi]
  have hn : ¬ (sl + n ≤ sc) := by omega
  have hlen : sl + n ≤ (sl + n) * i.bytes := Nat.le_mul_of_pos_right _ hb
  have h63' : ¬ (9223372036854775807 < ((sl : Int) + (n : Int))) := by omega
  have hfit := growslice_fits hroom hbytes
  have h48' : ¬ (281474976710656 < Builtin.nextslicecap (sl + n) sc * i.bytes) := by omega
  have hq : (Question.appendCap (sl + n) sc e).forced = false := rfl
  cases hs with
  | zeros k j l h hx h0 hn hu =>
    subst hx hn hu
    have hl1 : l.toNat ≤ (sl + l.toNat) * i.bytes := Nat.le_trans (Nat.le_add_left _ _) (Nat.le_mul_of_pos_right _ hb)
    have hw : IntKind.i64.wrap l = l := IntWalk.i64_in l ⟨by omega, by omega⟩
    have hneg : ¬ l < 0 := by omega
    have hbig : ¬ (281474976710656 : Int) < l * (i.bytes : Int) := by
      have e1 : ((l.toNat * i.bytes : Nat) : Int) = l * (i.bytes : Int) := by rw [Int.natCast_mul, Int.toNat_of_nonneg h0]
      have : l.toNat * i.bytes ≤ (sl + l.toNat) * i.bytes := Nat.mul_le_mul_right _ (Nat.le_add_left _ _)
      rw [← e1]; omega
    have hz0 : l.toNat * i.size = 0 → replZ z.cells.toList l.toNat = [] := by
      intro h; rw [← List.length_eq_zero_iff, replZ_length]; simpa [hzs] using h
    have hmax : (max l 0) = l := by omega
    have h63'' : ¬ (9223372036854775807 < ((sl : Int) + l)) := by omega
    by_cases hzero : l.toNat * i.size = 0
    · have hh := hz0 hzero
      rw [hh]
      simp [Builtin.append_, run_underlying ht, run_underlying h, run_sizeT hsz, asInt, asIntOf, hw, hneg, run_typeInfo _ hi, hbig, hn, hzero, hmax, h63'', h48', hq, hold, run_zeroT hz, zeroCells_eq, newRow, grownCap]
    · simp [Builtin.append_, run_underlying ht, run_underlying h, run_sizeT hsz, asInt, asIntOf, hw, hneg, run_typeInfo _ hi, hbig, hn, hzero, hmax, h63'', h48', hq, hold, run_zeroT hz, zeroCells_eq, newRow, grownCap]
  | cells d h hd hl hu =>
    have hlr : (Builtin.lenOf x).run P w = .ok n w := by rw [hl]; rfl
    have hz' : (match d with | .int _ => true | _ => false) = false := by cases d <;> first | rfl | exact absurd rfl (hd _)
    have hu2 : (Builtin.firstCells i.size n x).run P w.drew = .ok us.toArray w.drew := by
      cases hs2 with
      | zeros k j l h' => rw [h] at h'; cases h'; exact absurd rfl (hd _)
      | cells d h hd hl hu => exact hu
    simp [Builtin.append_, run_underlying ht, run_underlying h, run_sizeT hsz, hz', hlr, hn, run_typeInfo _ hi, h63', h48', hq, hold, hu2, run_zeroT hz, zeroCells_eq, newRow, grownCap]
end
end Go.Ex
set_option linter.unusedVariables false
set_option linter.unusedSimpArgs false
namespace Go.Ex
open Go Go.RowKit
section
variable {E : Env} {B : Nat} {w0 : Base} {w : World} {ρ : Ren} {A : AH} {T : TT} {a : Act} {P : Program} {G : Nat}

theorem Rel.drop (R : Rel P G B w0 ρ A w) {b : Nat} (hb : b < 1099511627775) : Rel P G B w0 ρ (A.drop b) w := by
  have hget := AH.get_drop (A := A) (id := b) hb
  refine ⟨R.below, R.sz, R.G_next, ?_, ?_, R.fresh, R.glob, R.small, R.hid, fun id o x h hx => R.noimg id o x (by rw [hget] at h; split at h; cases h; exact h) hx⟩
  · intro id o h
    rw [hget] at h
    split at h
    · cases h
    · exact R.objs id o h
  · intro i j x y hi hj hx hy hB hxy
    rw [hget] at hi hj
    refine R.inj i j x y ?_ ?_ hx hy hB hxy
    · split at hi
      · cases hi
      · exact hi
    · split at hj
      · cases hj
      · exact hj

/-- **A BLOCK UNDER A NEW NAME**, its cells turned. -/
theorem Rel.moved (R : Rel P G B w0 ρ A w) {b bb k : Nat} {o o1 : AObj} (hid : A.get b = some o) (hb : ρ b = some (bb, 0, k)) (hB : B ≤ bb) {w' : World} (hsize : w'.heap.size = w.heap.size)
    (hos : w'.os = w.os) (htape : w'.tape = w.tape) (hout : w'.output = w.output) (hother : ∀ j, j ≠ bb → w'.heap[j]? = w.heap[j]?) (hn : A.next + 1 < 1099511627775)
    (ho : HasObj P B (ρ.set A.next (bb, 0, k)) w' A.next o1) : Rel P G B w0 (ρ.set A.next (bb, 0, k)) ((A.drop b).add o1) w' := by
  have hlt := R.id_lt hid
  have hsm := R.small
  have hle := Ren.le_set (R.fresh A.next (Nat.le_refl _)) (bb, 0, k)
  have hget : ∀ j, ((A.drop b).add o1).get j = if j = A.next then some o1 else if j = b then none else A.get j := by
    intro j
    rw [AH.get_add (A := A.drop b) (by simpa [AH.drop] using hsm)]
    rw [show (A.drop b).next = A.next from rfl, AH.get_drop (by omega)]
  have old : ∀ (i : Nat) (x : Nat × Nat × Nat), i ≠ A.next → (ρ.set A.next (bb, 0, k)) i = some x → ρ i = some x := by
    intro i x hne hx
    simpa only [Ren.set, if_neg hne] using hx
  refine ⟨R.below.trans ⟨hos, htape, hout, by omega, fun j hj => hother j (by omega)⟩, by rw [hsize]; exact R.sz, by have := R.G_next; simp [AH.add, AH.drop]; omega, ?_, ?_, ?_, ?_, by simpa [AH.add, AH.drop] using hn, fun j hj => ?_, fun j ob x h hx hj => ?_⟩
  · intro id ob h
    rw [hget] at h
    by_cases e : id = A.next
    · subst e; rw [if_pos rfl] at h; cases h; exact ho
    · rw [if_neg e] at h
      by_cases e2 : id = b
      · rw [if_pos e2] at h; cases h
      · rw [if_neg e2] at h
        refine (R.objs id ob h).mono hle fun b' k' hb' => hother b' fun e' => e2 ?_
        exact R.inj id b _ _ (by rw [h]; rfl) (by rw [hid]; rfl) hb' hb (by rw [e']; exact hB) e'
  · intro i j x y hi hj hx hy hBx hxy
    rw [hget] at hi hj
    have main : ∀ (i j : Nat) (x y : Nat × Nat × Nat), (if i = A.next then some o1 else if i = b then none else A.get i).isSome → i ≠ A.next → j = A.next → (ρ.set A.next (bb, 0, k)) i = some x → (ρ.set A.next (bb, 0, k)) j = some y → B ≤ x.1 → x.1 = y.1 → False := by
      intro i j x y hi hne he hx hy hBx hxy
      rw [if_neg hne] at hi
      subst he
      rw [Ren.set_same] at hy; cases hy
      by_cases e2 : i = b
      · rw [if_pos e2] at hi; cases hi
      · rw [if_neg e2] at hi
        exact e2 (R.inj i b _ _ hi (by rw [hid]; rfl) (old i x hne hx) hb hBx hxy)
    by_cases ei : i = A.next
    · by_cases ej : j = A.next
      · rw [ei, ej]
      · exact (main j i y x hj ej ei hy hx (by rw [← hxy]; exact hBx) hxy.symm).elim
    · by_cases ej : j = A.next
      · exact (main i j x y hi ei ej hx hy hBx hxy).elim
      · rw [if_neg ei] at hi
        rw [if_neg ej] at hj
        refine R.inj i j x y ?_ ?_ (old i x ei hx) (old j y ej hy) hBx hxy
        · split at hi
          · cases hi
          · exact hi
        · split at hj
          · cases hj
          · exact hj
  · intro id h
    have : A.next + 1 ≤ id := h
    simp only [Ren.set]
    rw [if_neg (by omega)]
    exact R.fresh id (by omega)
  · intro g hg
    obtain ⟨q, hq⟩ := R.glob g hg
    exact ⟨q, hle _ _ hq⟩
  · obtain ⟨h1, h2⟩ := R.hid j hj
    refine ⟨h1, (hother j fun e => ?_).trans h2⟩
    subst e
    exact R.noimg b o _ hid hb hj
  · rw [hget] at h
    by_cases e : j = A.next
    · subst e
      rw [Ren.set_same] at hx; cases hx
      exact R.noimg b o _ hid hb hj
    · rw [if_neg e] at h
      by_cases e2 : j = b
      · rw [if_pos e2] at h; cases h
      · rw [if_neg e2] at h
        exact R.noimg j ob x h (old j x e hx) hj
theorem base_VR {ρ : Ren} {base base' : Option Addr} {n m c c' : Nat} (h : VR ρ (.slice base n c) (.slice base' n c')) : VR ρ (.slice base m c) (.slice base' m c') := by
  cases base with
  | none => obtain ⟨h1, h2⟩ := h; cases h2; exact ⟨h1, rfl⟩
  | some a => obtain ⟨a', d, h1, h2, h3⟩ := h; cases h3; exact ⟨a', c', h1, h2, rfl⟩

/-- Elements in place. -/
theorem sound_place (R : Rel P G B w0 ρ A w) {size sl sc sc' n : Nat} {base base' : Option Addr} {vs us : List Value} {r : Value × Option AH} (h : aplace size base sl sc n vs A = some r) (hv : VRL ρ vs us)
    (hb : VR ρ (.slice base sl sc) (.slice base' sl sc')) {s : Sem Value}
    (hs : s.run P w = inPlace P base' size sl n sc' us w) : EndsV P G B w0 ρ A (orA A r.2) s w r.1 := by
  unfold aplace at h
  split at h
  · cases h
    obtain ⟨h1, h2⟩ := hb
    cases h2
    exact EndsV.same R hs ⟨h1, rfl⟩
  · rename_i b o
    have hb' := base_VR (m := sl + n) hb
    obtain ⟨a', c', ha, hc, hu⟩ := hb
    cases hu
    split at h
    · rename_i he
      cases h
      have : us = [] := by
        have := hv.length
        have hvs : vs = [] := by simpa using he
        subst hvs; exact List.eq_nil_of_length_eq_zero this
      subst this
      exact EndsV.same R (by rw [hs]; rfl) hb'
    · split at h
      · rename_i A' hA'
        cases h
        have ha' : AdR ρ ⟨b, o + sl * size, none⟩ (a'.add (sl * size)) := by have := ha.add (sl * size); rwa [add_none] at this
        obtain ⟨w', h1, h2, h3⟩ := aput_run R hA' ha' hv
        exact ⟨ρ, w', _, Ren.le_refl ρ, by rw [hs]; simp only [inPlace, h1, Result.andThen_ok], hb', h2, h3⟩
      · cases h
  · cases h

theorem sound_grown (R : Rel P G B w0 ρ A w) {e : TypeId} {need k : Nat} {cells us extra : List Value} {r : Value × Option AH} (h : agrown e need cells A = some r) (hn : okN (orA A r.2)) (hv : VRL ρ cells us)
    (hcap : ∀ n, sizeT P e = some n → us.length + extra.length = k * n) {s : Sem Value} {n : Nat}
    (hs : s.run P w = .ok (.slice (some ⟨w.heap.size, 0, none⟩) need k) ({ w with drawn := n }.alloc (.cells (us ++ extra).toArray e))) : EndsV P G B w0 ρ A (orA A r.2) s w r.1 := by
  unfold agrown at h
  split at h
  · cases h
    have R' := R.drewTo n
    exact ⟨_, _, _, Ren.le_set (R.fresh A.next (Nat.le_refl _)) (w.heap.size, 0, k), hs, slice_newCap k need, R'.newCells hn hv (fun h => by cases h) (fun _ => hcap), Keep.add A R.small _⟩
  · cases h

theorem agrown_orA {e : TypeId} {need : Nat} {cells : List Value} {A A0 : AH} {r : Value × Option AH} (h : agrown e need cells A = some r) : orA A0 r.2 = orA A r.2 := by
  unfold agrown at h
  split at h
  · cases h; rfl
  · cases h
theorem setA_before : ∀ (us : List Value) (cs : Array Value) (o j : Nat), j < o → (setA cs o us)[j]? = cs[j]?
  | [], _, _, _, _ => rfl
  | u :: r, cs, o, j, h => by
    simp only [setA]
    rw [setA_before r _ (o + 1) j (by omega), Array.getElem?_setIfInBounds_ne (by omega)]
theorem setA_in : ∀ (us : List Value) (cs : Array Value) (o j : Nat) (x : Value), us[j]? = some x → o + us.length ≤ cs.size → (setA cs o us)[o + j]? = some x
  | [], _, _, _, _, h, _ => by simp at h
  | u :: r, cs, o, 0, x, h, hl => by
    simp only [List.length_cons] at hl
    simp at h; subst h
    simp only [setA, Nat.add_zero]
    rw [setA_before r _ (o + 1) o (by omega), Array.getElem?_setIfInBounds_self_of_lt (by omega)]
  | u :: r, cs, o, j + 1, x, h, hl => by
    simp only [List.length_cons] at hl
    simp only [setA]
    rw [show o + (j + 1) = o + 1 + j by omega]
    exact setA_in r _ (o + 1) j x (by simpa using h) (by simp; omega)

theorem slice_capAt (id bb k n : Nat) : VR (ρ.set id (bb, 0, k)) (.slice (some ⟨id, 0, none⟩) n (mkCap id 0)) (.slice (some ⟨bb, 0, none⟩) n k) := by
  have h1 := isEx_mk id 0
  have h2 := capB_mk (id := id) Ks_pos
  have h3 := capO_mk (id := id) Ks_pos
  refine ⟨_, k, ⟨_, Ren.set_same _, by simp⟩, .inr ⟨h1, (bb, 0, k), ?_, ?_, ?_⟩, rfl⟩
  · rw [h2]; exact Ren.set_same _
  · rw [h3]; exact Nat.zero_le _
  · rw [h3]; exact (Nat.sub_zero k).symm

theorem sound_appendTo (R : Rel P G B w0 ρ A w) {st xt ty e : TypeId} {base : Option Addr} {sl sc n : Nat} {s' x' z : Value} {i : TypeInfo} {vs us : List Value} {r : Value × Option AH} (ht : P.underlying st = some (.slice e)) (hi : P.info? e = some i)
    (hz : zeroT P e = some z) (c2 : 1 ≤ i.bytes) (c3 : 1 ≤ i.size) (c4 : z.cells.size = i.size) (hbytes : (sl + n) * i.bytes ≤ 140737488355328) (hus : VRL ρ vs us) (hN : News P e i z xt x' n us w) (hN2 : News P e i z xt x' n us w.drew)
    (hnl : us.length = n * i.size) (h : aappendTo e i.size base sl sc n vs A = some r) (hn : okN (orA A r.2)) (hs' : VR ρ (.slice base sl sc) s') :
    EndsV P G B w0 ρ A (orA A r.2) (Builtin.append_ #[st, xt] ty #[s', x']) w r.1 := by
  have hsz : sizeT P e = some i.size := by simp [sizeT, hi]
  have hcapL : ∀ (us2 : List Value) (c : Nat), us2.length = (sl + n) * i.size → sl + n ≤ c → ∀ m, sizeT P e = some m → us2.length + (replZ z.cells.toList (c - (sl + n))).length = c * m := by
    intro us2 c h1 h2 m hm
    rw [hsz] at hm; cases hm
    rw [replZ_length, h1, Array.length_toList, c4, ← Nat.add_mul]
    congr 1; omega
  unfold aappendTo at h
  split at h
  · rename_i hex
    split at h
    · rename_i hroom
      have hroom := Nat.le_of_ble_eq_true hroom
      cases base with
      | none =>
        obtain ⟨q1, rfl⟩ := hs'
        exact sound_place R h hus ⟨q1, rfl⟩ (run_append_in ht hi hz none hN hbytes c2 c3 c4 hroom)
      | some a0 =>
        obtain ⟨a', c', q1, q2, rfl⟩ := hs'
        obtain rfl := q2.ex hex
        exact sound_place R h hus ⟨a', c', q1, q2, rfl⟩ (run_append_in ht hi hz (some a') hN hbytes c2 c3 c4 hroom)
    · rename_i hroom
      have hroom : ¬ sl + n ≤ sc := fun hh => by rw [Nat.ble_eq_true_of_le hh] at hroom; cases hroom
      split at h
      · rename_i old hold
        split at h
        · rename_i hle
          obtain ⟨base', rfl, hs2⟩ : ∃ base', s' = .slice base' sl sc ∧ VR ρ (.slice base sl sc) (.slice base' sl sc) := by
            cases base with
            | none => obtain ⟨q1, rfl⟩ := hs'; exact ⟨none, rfl, q1, rfl⟩
            | some a0 =>
              obtain ⟨a', c', q1, q2, rfl⟩ := hs'
              obtain rfl := q2.ex hex
              exact ⟨some a', rfl, a', _, q1, q2, rfl⟩
          obtain ⟨ou, hou, hor⟩ := aview_run (R.drewTo (w.drawn + 1)) hold hs2
          have hol : ou.length = sl * i.size := by
            rw [hou.length]; exact Nat.eq_of_beq_eq_true hle
          have hg := grownCap_ge w (sl + n) sc e
          refine sound_grown R h hn (hou.append hus) (extra := replZ z.cells.toList (grownCap w (sl + n) sc e - (sl + n))) (hcapL _ _ ?_ hg) (n := w.drawn + 1)
            (run_append_out ht hi hz base' hN hN2 hor hbytes c2 c3 c4 (by omega))
          rw [List.length_append, hol, hnl, Nat.add_mul]
        · cases h
      · cases h
  · rename_i hex
    split at h
    · rename_i b o
      obtain ⟨a', c', q1, q2, rfl⟩ := hs'
      split at h
      · rename_i c e' hg
        split at h
        · rename_i hc3
          simp only [Bool.and_eq_true] at hc3
          obtain ⟨⟨⟨d1, d2⟩, d3⟩, d4⟩ := hc3
          obtain rfl := Nat.eq_of_beq_eq_true d4
          obtain ⟨bb, k, cs, lo, hi', h1, rfl, h2⟩ := ptr_at R q1 hg
          have d1 := Nat.eq_of_beq_eq_true d1
          have d2 := Nat.eq_of_beq_eq_true d2
          have d3 := Nat.eq_of_beq_eq_true d3
          subst d3
          have hck : c' = k := by
            rcases q2 with ⟨q, _⟩ | ⟨_, y, hy, _, e1⟩
            · rw [hex] at q; cases q
            · rw [d1, h1] at hy; cases hy; rw [e1, d2]; simp
          subst hck
          have hcs := h2.cap rfl _ hsz
          have hcl := h2.len
          split at h
          · rename_i hin
            have hin := Nat.le_of_ble_eq_true hin
            have hroom : sl + n ≤ c' := Nat.le_of_mul_le_mul_right (show (sl + n) * i.size ≤ c' * i.size by omega) c3
            exact sound_place R h hus ⟨_, c', q1, q2, rfl⟩ (run_append_in ht hi hz _ hN hbytes c2 c3 c4 hroom)
          · split at h
            · rename_i hsl
              have hsl := Nat.le_of_ble_eq_true hsl
              have hcut : ∀ (j : Nat) (v : Value), (c.take (sl * i.size))[j]? = some v → c[0 + j]? = some v := by
                intro j v hv
                rw [List.getElem?_take] at hv
                split at hv
                · rwa [Nat.zero_add]
                · cases hv
              obtain ⟨ou, hou, hoc⟩ := h2.cells.list _ 0 hcut
              have hol : ou.length = sl * i.size := by rw [hou.length, List.length_take]; omega
              have hboth : (ou ++ us).length = (sl + n) * i.size := by rw [List.length_append, hol, hnl, Nat.add_mul]
              have hbid := R.id_lt hg
              have hsm := R.small
              have hown := h2.own rfl
              by_cases hroom : sl + n ≤ c'
              · -- in place
                have hrun := run_append_in (P := P) (ty := ty) ht hi hz (some ⟨bb, 0, none⟩) hN hbytes c2 c3 c4 hroom
                have hfit : sl * i.size + us.length ≤ cs.size := by
                  rw [hcs, hnl, ← Nat.add_mul]; exact Nat.mul_le_mul_right _ hroom
                unfold agrown at h
                split at h
                · rename_i hone
                  cases h
                  have hst := run_storeCells_cells (P := P) bb (sl * i.size) us 0 w
                    (fun j hj => by rw [h2.cell?]; simp; omega)
                    (fun j hj => h2.frozen (by omega))
                    (hus.oneC (by rw [List.all_append, Bool.and_eq_true] at hone; exact hone.2))
                  obtain ⟨i1, i2, i3, i4, i5, i6⟩ := setCells_heap bb e (lo, hi') us (sl * i.size) w cs h2.at_
                  have hle := Ren.le_set (R.fresh A.next (Nat.le_refl _)) (bb, 0, c')
                  refine ⟨ρ.set A.next (bb, 0, c'), w.setCells bb (sl * i.size) us, .slice (some ⟨bb, 0, none⟩) (sl + n) c', hle, ?_, ?_, ?_, ?_⟩
                  · rw [hrun]
                    rw [Nat.add_zero] at hst
                    simp only [inPlace, add_none, Nat.zero_add, hst, Result.andThen_ok]
                  · have hnx : (A.drop b).next = A.next := rfl
                    simp only [hnx]
                    exact slice_capAt _ _ _ _
                  · refine R.moved hg h1 hown.1 i3 i4 i5 i6 i2 (by simpa [okN, orA, AH.add, AH.drop] using hn) ⟨bb, c', _, lo, hi', Ren.set_same _, ⟨i1, ?_, ?_, (fun h => by cases h), (fun _ m hm => by rw [setA_size]; exact h2.cap rfl m hm), (fun _ => by rw [setA_size]; exact hown)⟩⟩
                    · rw [setA_size, hcs, List.length_append, List.length_take, ← hus.length, hnl]
                      have : (sl + n) * i.size ≤ c' * i.size := Nat.mul_le_mul_right _ hroom
                      rw [Nat.add_mul] at this; omega
                    · refine CellsR.mono hle ?_
                      intro j v hv
                      by_cases hj : j < sl * i.size
                      · rw [List.getElem?_append_left (by rw [List.length_take]; omega)] at hv
                        obtain ⟨u, hu, hr⟩ := h2.cells j v (by have := hcut j v hv; rwa [Nat.zero_add] at this)
                        exact ⟨u, by rw [setA_before _ _ _ _ hj]; exact hu, hr⟩
                      · rw [List.getElem?_append_right (by rw [List.length_take]; omega), List.length_take] at hv
                        obtain ⟨x, hx, hr⟩ := hus.get _ _ hv
                        refine ⟨x, ?_, hr⟩
                        rw [show min (sl * i.size) c.length = sl * i.size by omega] at hx
                        have := setA_in us cs (sl * i.size) (j - sl * i.size) x hx hfit
                        rwa [show sl * i.size + (j - sl * i.size) = j by omega] at this
                  · exact (Keep.drop A (by omega)).trans (Keep.add _ (by simpa [AH.drop] using hsm) _)
                · cases h
              · have hor : (Builtin.firstCells i.size sl (.slice (some ⟨bb, 0, none⟩) sl c')).run P w.drew = .ok ou.toArray w.drew :=
                  run_firstCells_some w.drew i.size sl ⟨bb, 0, none⟩ sl c' ou (by rw [hol]) (fun j v hv => by
                    rw [add_none]
                    have := hoc j v hv
                    have h3 := h2.cell? (0 + j)
                    rw [this] at h3; exact h3)
                have hg' := grownCap_ge w (sl + n) c' e
                have RD := R.drop (b := b) (by omega)
                obtain ⟨ρ', w', u, e1, e2, e3, e4, e5⟩ := sound_grown RD h (by rw [← agrown_orA h (A0 := A)]; exact hn) (hou.append hus) (extra := replZ z.cells.toList (grownCap w (sl + n) c' e - (sl + n))) (hcapL _ _ hboth hg') (n := w.drawn + 1)
                  (run_append_out (ty := ty) ht hi hz (some ⟨bb, 0, none⟩) hN hN2 hor hbytes c2 c3 c4 (by omega))
                refine ⟨ρ', w', u, e1, e2, e3, ?_, ?_⟩
                · have : orA A r.2 = orA (A.drop b) r.2 := agrown_orA h
                  rw [this]; exact e4
                · have : orA A r.2 = orA (A.drop b) r.2 := agrown_orA h
                  rw [this]; exact (Keep.drop A (by omega)).trans e5
            · cases h
        · cases h
      · cases h
    · cases h

theorem sound_append (R : Rel P G B w0 ρ A w) {argTypes : Array TypeId} {ty : TypeId} {args args' : List Value} {r : Value × Option AH} (h : aappend P argTypes args A = some r) (hn : okN (orA A r.2)) (ha : VRL ρ args args') :
    EndsV P G B w0 ρ A (orA A r.2) (Builtin.append_ argTypes ty args'.toArray) w r.1 := by
  unfold aappend at h
  split at h
  · rename_i st xt s x hst
    obtain ⟨s', r1, hs', ⟨x', r2, hx', hr2, rfl⟩, rfl⟩ := ha
    obtain rfl : r2 = [] := hr2
    obtain rfl : argTypes = #[st, xt] := by cases argTypes; simp_all
    split at h
    · rename_i e base sl sc ht
      split at h
      · rename_i i z hi hz
        split at h
        · rename_i n vs hnews
          split at h
          · rename_i hcond
            simp only [Bool.and_eq_true] at hcond
            obtain ⟨⟨⟨⟨c1, c2⟩, c3⟩, c4⟩, c5⟩ := hcond
            have c1 := Nat.le_of_ble_eq_true c1
            have c2 := Nat.le_of_ble_eq_true c2
            have c3 := Nat.le_of_ble_eq_true c3
            have c4 := Nat.eq_of_beq_eq_true c4
            have hbytes : (sl + n) * i.bytes ≤ 140737488355328 := by
              have : (3 * (sl + n) + 4000) * i.bytes = 3 * ((sl + n) * i.bytes) + 4000 * i.bytes := by rw [Nat.add_mul, Nat.mul_assoc]
              omega
            obtain ⟨us, hus, hnw⟩ := anews_spec R hz hnews hx'
            have hsz : sizeT P e = some i.size := by simp [sizeT, hi]
            have hN := hnw w R
            have hN2 := hnw w.drew (R.drewTo _)
            have hneed : sl + n ≤ (sl + n) * i.bytes := Nat.le_mul_of_pos_right _ c2
            have hnl : us.length = n * i.size := by rw [hus.length]; exact Nat.eq_of_beq_eq_true c5
            exact sound_appendTo R ht hi hz c2 c3 c4 hbytes hus hN hN2 hnl h hn hs'
          · cases h
        · cases h
      · cases h
    · cases h
  · cases h
end
end Go.Ex
set_option linter.unusedVariables false
set_option linter.unusedSimpArgs false
namespace Go.Ex
open Go Go.RowKit
section
variable {E : Env} {B : Nat} {w0 : Base} {w : World} {ρ : Ren} {A : AH} {T : TT} {a : Act} {P : Program} {G : Nat}

/-- A name for a place that is known already. -/
theorem Rel.skip (R : Rel P G B w0 ρ A w) (x : Nat × Nat × Nat) (hn : A.next + 1 < 1099511627775) : Rel P G B w0 (ρ.set A.next x) A.skip w := by
  have hle := Ren.le_set (R.fresh A.next (Nat.le_refl _)) x
  refine ⟨R.below, R.sz, by have := R.G_next; simp [AH.skip]; omega, fun id o h => (R.objs id o h).mono hle (fun _ _ _ => rfl), ?_, ?_, ?_, hn, R.hid, fun id o y h hy => R.noimg id o y h (by have := R.id_lt h; simpa only [Ren.set, if_neg (show ¬ id = A.next by omega)] using hy)⟩
  · intro i j y z hi hj hy hz hB hyz
    have old : ∀ (i : Nat) (y : Nat × Nat × Nat), (A.get i).isSome → (ρ.set A.next x) i = some y → ρ i = some y := by
      intro i y hs hy
      obtain ⟨o, ho⟩ := Option.isSome_iff_exists.1 hs
      have := R.id_lt ho
      simpa only [Ren.set, if_neg (show ¬ i = A.next by omega)] using hy
    exact R.inj i j y z hi hj (old i y hi hy) (old j z hj hz) hB hyz
  · intro id h
    have : A.next + 1 ≤ id := h
    simp only [Ren.set]
    rw [if_neg (by omega)]
    exact R.fresh id (by omega)
  · intro g hg
    obtain ⟨q, hq⟩ := R.glob g hg
    exact ⟨q, hle _ _ hq⟩
theorem Keep.skip (A : AH) : Keep A A.skip := ⟨Nat.le_succ _, Nat.le_refl _, fun _ _ _ => rfl⟩

theorem run_sliceAt_slice {t e : TypeId} (hu : P.underlying t = some (.slice e)) {size : Nat} (hsz : sizeT P e = some size) {base : Option Addr} {len cap l h m : Nat} {lo hi mx : Option Value}
    (hb : (Instr.sliceBounds true len cap lo hi mx).run P w = .ok (l, h, m) w) :
    (Instr.sliceAt t (.slice base len cap) lo hi mx).run P w = .ok (.slice (if m = l then base else base.map (·.add (l * size))) (h - l) (m - l)) w := by
  simp only [Instr.sliceAt, Instr.slice, Sem.run_bind, run_underlying hu, Result.andThen_ok, hb, run_sizeT hsz, Sem.run_pure]

theorem natOf_opt {v : Value} {m d : Nat} (h : natOf v = some m) : optNat (some v) d = some m := h

theorem sound_sliceIn (R : Rel P G B w0 ρ A w) {t e : TypeId} (hu : P.underlying t = some (.slice e)) {size b o len sc l h c' : Nat} (hsz : sizeT P e = some size) {a' : Addr} {lo hi mx lo' hi' mx' : Option Value} {r : Value × Option AH}
    (hr : asliceIn e size b o len sc l h mx A = some r) (hn : okN (orA A r.2)) (hex : isEx sc = false) (ha : AdR ρ ⟨b, o, none⟩ a') (hc : CR ρ sc c') (hlo : optNat lo 0 = some l) (hhi : optNat hi len = some h)
    (rlo : OptR ρ lo lo') (rhi : OptR ρ hi hi') (rmx : OptR ρ mx mx') (h4 : mx.isSome = true → hi.isSome = true) :
    EndsV P G B w0 ρ A (orA A r.2) (Instr.sliceAt t (.slice (some a') len c') lo' hi' mx') w r.1 := by
  unfold asliceIn at hr
  split at hr
  · cases hr
  · rename_i hcond
    simp only [Bool.and_eq_true] at hcond
    obtain ⟨⟨b1, b2⟩, b3⟩ := hcond
    have b1 := Nat.eq_of_beq_eq_true b1
    have b2 := Nat.le_of_ble_eq_true b2
    have b3 := Nat.le_of_ble_eq_true b3
    have ha0 := ha
    obtain ⟨x, hx, rfl⟩ := ha
    rw [show (⟨b, o, none⟩ : Addr).block = b from rfl] at hx
    obtain ⟨_, y, hy, hyle, rfl⟩ : isEx sc = false ∧ ∃ y, ρ (capB sc) = some y ∧ capO sc ≤ y.2.2 ∧ c' = y.2.2 - capO sc := by
      rcases hc with ⟨q, _⟩ | q
      · rw [hex] at q; cases q
      · exact q
    rw [b1, hx] at hy; cases hy
    have hcr : CR ρ sc (x.2.2 - capO sc) := .inr ⟨hex, x, by rw [b1]; exact hx, hyle, rfl⟩
    split at hr
    · rename_i mv
      split at hr
      · rename_i m hm
        split at hr
        · rename_i h0
          cases hr
          simp only [Bool.and_eq_true] at h0
          obtain ⟨h0, m0⟩ := h0
          obtain rfl := Nat.eq_of_beq_eq_true h0
          obtain rfl := Nat.eq_of_beq_eq_true m0
          obtain rfl : l = 0 := by omega
          have hb := run_bounds (P := P) (w := w) (isS := true) (cap := x.2.2 - capO sc) hlo hhi (natOf_opt hm) rlo rhi rmx (by omega) (by omega) b3 h4
          refine EndsV.same R (run_sliceAt_slice hu hsz hb) ⟨_, 0, ha0, .inl ⟨isEx_of (by omega), rfl⟩, ?_⟩
          simp
        · cases hr
      · cases hr
    · cases mx' with
      | some v => exact rmx.elim
      | none =>
        have hbd : h ≤ x.2.2 - capO sc → (Instr.sliceBounds true len (x.2.2 - capO sc) lo' hi' none).run P w = .ok (l, h, x.2.2 - capO sc) w := fun hle =>
          run_bounds (P := P) (w := w) (isS := true) (mx := none) (mx' := none) hlo hhi rfl rlo rhi trivial (Nat.le_refl _) hle b3 (fun h => by cases h)
        split at hr
        · split at hr
          · rename_i h0
            cases hr
            obtain rfl := Nat.eq_of_beq_eq_true h0
            obtain rfl : l = 0 := by omega
            refine EndsV.same R (run_sliceAt_slice hu hsz (hbd (by omega))) ⟨_, _, ha0, hcr, ?_⟩
            simp [add_none]
          · cases hr
        · rename_i known hk
          split at hr
          · cases hr
          · rename_i hcond
            simp only [Bool.and_eq_true] at hcond
            obtain ⟨⟨k1, k2⟩, k3⟩ := hcond
            have k1 := Nat.le_of_ble_eq_true k1
            have k2 := Nat.eq_of_beq_eq_true k2
            have k3 := blt_true k3
            obtain ⟨cl, wr, hg, rfl⟩ : ∃ cl wr, A.get b = some (.cells cl e true wr) ∧ known = cl.length := by
              unfold knownOf at hk
              split at hk
              · rename_i c e' wr hg
                split at hk
                · rename_i he
                  obtain rfl := Nat.eq_of_beq_eq_true he
                  cases hk
                  exact ⟨_, _, hg, rfl⟩
                · cases hk
              · cases hk
            obtain ⟨bb, k, cs, lo2, hi2, e1, e2⟩ := R.objs b _ hg
            rw [hx] at e1; cases e1
            have hcap := e2.cap rfl size hsz
            have hlen := e2.len
            have hoh : capO sc + h ≤ k := by
              refine Nat.le_of_mul_le_mul_right (show (capO sc + h) * size ≤ k * size from ?_) b2
              rw [Nat.add_mul, ← k2]; omega
            have hle : h ≤ k - capO sc := by omega
            have hrun := run_sliceAt_slice (base := some (⟨bb, 0 + o, none⟩ : Addr)) hu hsz (hbd hle)
            split at hr
            · rename_i h0
              cases hr
              obtain rfl := Nat.eq_of_beq_eq_true h0
              refine EndsV.same R hrun ⟨_, _, ha0, hcr, ?_⟩
              simp [add_none]
            · split at hr
              · rename_i hlt
                cases hr
                have hlt := blt_true hlt
                have hlk : capO sc + l < k := by
                  refine Nat.lt_of_mul_lt_mul_right (a := size) (show (capO sc + l) * size < k * size from ?_)
                  rw [Nat.add_mul, ← k2]; omega
                have hne : ¬ k - capO sc = l := by omega
                rw [if_neg hne] at hrun
                refine EndsV.same R hrun ?_
                have := ha0.add (l * size)
                rw [add_none] at this
                exact ⟨_, k - capO sc - l, this, .inr ⟨isEx_mk _ _, (bb, 0, k), by rw [capB_mk k3]; exact hx, by rw [capO_mk k3]; simp only; omega, by rw [capO_mk k3]; simp only; omega⟩, rfl⟩
              · split at hr
                · rename_i hhl
                  cases hr
                  obtain rfl := Nat.eq_of_beq_eq_true hhl
                  have hle2 := fun x => Ren.le_set (R.fresh A.next (Nat.le_refl _)) x
                  have hnn : A.next + 1 < 1099511627775 := hn
                  by_cases hkl : k - capO sc = h
                  · rw [if_pos hkl] at hrun
                    refine ⟨_, w, _, hle2 (bb, 0 + o, k - capO sc - h), hrun, ?_, R.skip _ hnn, Keep.skip A⟩
                    rw [Nat.sub_self]
                    exact ⟨_, _, ⟨_, Ren.set_same _, rfl⟩, .inr ⟨isEx_mk _ _, _, by rw [capB_mk Ks_pos]; exact Ren.set_same _, by rw [capO_mk Ks_pos]; exact Nat.zero_le _, rfl⟩, by rw [capO_mk Ks_pos]; simp⟩
                  · rw [if_neg hkl] at hrun
                    refine ⟨_, w, _, hle2 (bb, 0 + o + h * size, k - capO sc - h), hrun, ?_, R.skip _ hnn, Keep.skip A⟩
                    rw [Nat.sub_self]
                    exact ⟨_, _, ⟨_, Ren.set_same _, rfl⟩, .inr ⟨isEx_mk _ _, _, by rw [capB_mk Ks_pos]; exact Ren.set_same _, by rw [capO_mk Ks_pos]; exact Nat.zero_le _, rfl⟩, by rw [capO_mk Ks_pos]; simp [add_none]⟩
                · cases hr

theorem sound_slice (R : Rel P G B w0 ρ A w) {t : TypeId} {x x' : Value} {lo hi mx lo' hi' mx' : Option Value} {r : Value × Option AH} (hr : aslice P t x lo hi mx A = some r) (hn : okN (orA A r.2)) (hx : VR ρ x x')
    (rlo : OptR ρ lo lo') (rhi : OptR ρ hi hi') (rmx : OptR ρ mx mx') : EndsV P G B w0 ρ A (orA A r.2) (Instr.sliceAt t x' lo' hi' mx') w r.1 := by
  unfold aslice at hr
  split at hr
  · rename_i n e a0 hu
    obtain ⟨a', ha, rfl⟩ := hx
    split at hr
    · rename_i l h m size hlo hhi hmx hsz
      split at hr
      · rename_i hc
        cases hr
        simp only [Bool.and_eq_true, Bool.or_eq_true] at hc
        obtain ⟨⟨⟨⟨c1, c2⟩, c3⟩, c4⟩, c5⟩ := hc
        have c2 := Nat.le_of_ble_eq_true c2
        have c3 := Nat.le_of_ble_eq_true c3
        have c4 := Nat.le_of_ble_eq_true c4
        have hb := run_bounds (P := P) (w := w) (isS := false) hlo hhi hmx rlo rhi rmx c2 c3 c4 (fun hs => by
          rcases c5 with c5 | c5
          · exact c5
          · cases mx with
            | none => cases hs
            | some v => cases c5)
        have hs : (Instr.sureAddr (.pointer (some a'))).run P w = .ok a' w := rfl
        refine EndsV.same R (u := .slice (some (if m = l then a' else a'.add (l * size))) (h - l) (m - l)) ?_ ⟨_, _, ?_, .inl ⟨isEx_le c1 (by omega), rfl⟩, rfl⟩
        · simp only [Instr.sliceAt, Sem.run_bind, run_underlying hu, Result.andThen_ok, hs, hb, run_sizeT hsz, Sem.run_pure]
        · split
          · exact ha
          · exact ha.add _
      · cases hr
    · cases hr
  · rename_i e base len sc hu
    split at hr
    · rename_i l h size hlo hhi hsz
      split at hr
      · cases hr
      · rename_i c5
        have h4 : mx.isSome = true → hi.isSome = true := by
          intro hs
          simp only [Bool.or_eq_true] at c5
          rcases c5 with c5 | c5
          · exact c5
          · cases mx with
            | none => cases hs
            | some v => cases c5
        split at hr
        · rename_i hex
          split at hr
          · rename_i m hmx
            split at hr
            · rename_i hc
              cases hr
              simp only [Bool.and_eq_true] at hc
              obtain ⟨⟨c1, c2⟩, c3⟩ := hc
              have c1 := Nat.le_of_ble_eq_true c1
              have c2 := Nat.le_of_ble_eq_true c2
              have c3 := Nat.le_of_ble_eq_true c3
              have hb := run_bounds (P := P) (w := w) (isS := true) hlo hhi hmx rlo rhi rmx c1 c2 c3 h4
              have hml := isEx_le hex (show m - l ≤ sc by omega)
              cases base with
              | none =>
                obtain ⟨_, rfl⟩ := hx
                refine EndsV.same R (run_sliceAt_slice hu hsz hb) ?_
                split <;> exact ⟨hml, rfl⟩
              | some a0 =>
                obtain ⟨a', c', ha, hc, rfl⟩ := hx
                obtain rfl := hc.ex hex
                refine EndsV.same R (run_sliceAt_slice hu hsz hb) ?_
                split
                · exact ⟨_, _, ha, .inl ⟨hml, rfl⟩, rfl⟩
                · exact ⟨_, _, ha.add _, .inl ⟨hml, rfl⟩, rfl⟩
            · cases hr
          · cases hr
        · rename_i hex
          split at hr
          · rename_i b o
            obtain ⟨a', c', ha, hc, rfl⟩ := hx
            exact sound_sliceIn R hu hsz hr hn hex ha hc hlo hhi rlo rhi rmx h4
          · cases hr
    · cases hr
  · cases hr
end
end Go.Ex
set_option linter.unusedVariables false
set_option linter.unusedSimpArgs false
namespace Go.Ex
open Go Go.RowKit
section
variable {E : Env} {B : Nat} {w0 : Base} {w : World} {ρ : Ren} {A : AH} {T : TT} {a : Act} {P : Program} {G : Nat}

theorem intV (ρ : Ren) (n : Int) : VR ρ (goInt n) (goInt n) := rfl

theorem sound_copy (R : Rel P G B w0 ρ A w) {argTypes : Array TypeId} {ty : TypeId} {args args' : List Value} {r : Value × Option AH} (h : acopy P argTypes args A = some r) (ha : VRL ρ args args') :
    EndsV P G B w0 ρ A (orA A r.2) (Builtin.copy_ argTypes ty args'.toArray) w r.1 := by
  unfold acopy at h
  split at h
  · rename_i dt tl dst src hdt
    obtain ⟨d', r1, hd', ⟨s', r2, hs', hr2, rfl⟩, rfl⟩ := ha
    obtain rfl : r2 = [] := hr2
    have h0 : argTypes[0]? = some dt := by
      cases argTypes; simp_all
    split at h
    · rename_i e base dl dc hu
      split at h
      · rename_i size sl hsz hsl
        have hl := alen_spec hsl hs'
        have hlr : (Builtin.lenOf s').run P w = .ok sl w := by rw [hl]; rfl
        simp only at h
        split at h
        · rename_i vs hvs
          obtain ⟨us, hus, hcells⟩ := aview_run R hvs hs'
          have hcells' : (Builtin.firstCells size (Nat.min sl dl) s').run P w = .ok us.toArray w := hcells
          split at h
          · cases h
            obtain ⟨_, rfl⟩ := hd'
            exact EndsV.same R (by simp [Builtin.copy_, h0, run_underlying hu, hlr, run_sizeT hsz, hcells']) (intV ρ _)
          · rename_i b o
            obtain ⟨a', c', hA, _, rfl⟩ := hd'
            split at h
            · rename_i he
              cases h
              have hvs0 : vs = [] := by simpa using he
              subst hvs0
              have hus0 : us = [] := hus
              subst hus0
              exact EndsV.same R (by simp [Builtin.copy_, h0, run_underlying hu, hlr, run_sizeT hsz, hcells', storeCells]) (intV ρ _)
            · split at h
              · rename_i A' hA'
                cases h
                obtain ⟨w', h1, h2, h3⟩ := aput_run R hA' hA hus
                exact ⟨ρ, w', _, Ren.le_refl ρ, by simp [Builtin.copy_, h0, run_underlying hu, hlr, run_sizeT hsz, hcells', h1], intV ρ _, h2, h3⟩
              · cases h
          · cases h
        · cases h
      · cases h
    · cases h
  · cases h

theorem EntsR.length : ∀ {l : List AEnt} {l' : List MapEntry}, EntsR ρ l l' → l'.length = l.length
  | [], l', h => by
    have e : l' = [] := h
    rw [e]; rfl
  | _ :: _, _, ⟨_, _, _, h2, e⟩ => by subst e; simp [EntsR.length h2]
theorem run_getObj_map {r : Nat} {es : Array MapEntry} {clock : Nat} (h : w.heap[r]? = some (.map es clock)) : (getObj r).run P w = .ok (.map es clock) w := by
  simp [getObj, Sem.run, h]

theorem sound_len (R : Rel P G B w0 ρ A w) {argTypes : Array TypeId} {ty t : TypeId} {tl : List TypeId} {x x' v : Value} (ht : argTypes.toList = t :: tl) (h : alenB P t x A = some v) (hx : VR ρ x x') :
    EndsV P G B w0 ρ A A (Builtin.len_ argTypes ty #[x']) w v := by
  have h0 : argTypes[0]? = some t := by
    cases argTypes; simp_all
  unfold alenB at h
  split at h
  · rename_i n e hu
    cases h
    exact EndsV.same R (by simp [Builtin.len_, h0, run_underlying hu]) (intV ρ _)
  · rename_i e b n c hu
    cases h
    cases b with
    | none =>
      obtain ⟨_, rfl⟩ := hx
      exact EndsV.same R (by simp [Builtin.len_, h0, run_underlying hu]) (intV ρ _)
    | some b =>
      obtain ⟨a', c', _, _, rfl⟩ := hx
      exact EndsV.same R (by simp [Builtin.len_, h0, run_underlying hu]) (intV ρ _)
  · rename_i k e r hu
    split at h
    · rename_i es clock hg
      cases h
      obtain ⟨y, hy, rfl⟩ := hx
      obtain ⟨b, k', es', h1, h2, h3, h4⟩ := R.objs r _ hg
      rw [h1] at hy; cases hy
      have := h4.length
      simp only [Array.length_toList] at this
      exact EndsV.same R (by simp [Builtin.len_, h0, run_underlying hu, run_getObj_map h3, this]) (intV ρ _)
    · cases h
  · cases h

theorem tupV (ρ : Ren) : VR ρ (.tuple #[]) (.tuple #[]) := VR.plain _ rfl

theorem sound_clear (R : Rel P G B w0 ρ A w) {argTypes : Array TypeId} {ty t : TypeId} {tl : List TypeId} {x x' : Value} {r : Option AH} (ht : argTypes.toList = t :: tl) (h : aclear P t x A = some r) (hx : VR ρ x x') :
    EndsV P G B w0 ρ A (orA A r) (Builtin.clear_ argTypes ty #[x']) w (.tuple #[]) := by
  have h0 : argTypes[0]? = some t := by
    cases argTypes; simp_all
  unfold aclear at h
  split at h
  · rename_i e n c hu
    cases h
    obtain ⟨_, rfl⟩ := hx
    exact EndsV.same R (by simp [Builtin.clear_, h0, run_underlying hu]) (tupV ρ)
  · rename_i e b c _ hu
    cases h
    cases b with
    | none =>
      obtain ⟨_, rfl⟩ := hx
      exact EndsV.same R (by simp [Builtin.clear_, h0, run_underlying hu]) (tupV ρ)
    | some b =>
      obtain ⟨a', c', _, _, rfl⟩ := hx
      exact EndsV.same R (by simp [Builtin.clear_, h0, run_underlying hu]) (tupV ρ)
  · rename_i e b o n c hne hu
    obtain ⟨a', c', ha, _, rfl⟩ := hx
    split at h
    · rename_i z hz
      split at h
      · rename_i A' hA'
        cases h
        have hzz : VRL ρ (replZ z.cells.toList n) (replZ z.cells.toList n) := plainL_VRL (replZ_plain _ (plainV_cells (zeroT_spec hz).2) n)
        obtain ⟨w', h1, h2, h3⟩ := aput_run R hA' ha hzz
        cases n with
        | zero => exact (hne rfl).elim
        | succ n =>
          refine ⟨ρ, w', _, Ren.le_refl ρ, ?_, tupV ρ, h2, h3⟩
          simp [Builtin.clear_, h0, run_underlying hu, run_zeroT hz, zeroCells_eq, h1]
      · cases h
    · cases h
  · cases h

theorem sound_assert (R : Rel P G B w0 ρ A w) {x x' v : Value} {xt ty : TypeId} {ok : Bool} (h : atypeAssert P x ty ok = some v) (hx : VR ρ x x') : EndsV P G B w0 ρ A A (Instr.typeAssert x' xt ty ok) w v := by
  unfold atypeAssert at h
  split at h
  · cases h
  · rename_i d t u hne hd
    obtain ⟨u', hu', rfl⟩ := hx
    have hrun : (Instr.typeAssert (.iface t u') xt ty ok).run P w =
        (if t = ty then (pure (if ok then .tuple #[u', .bool true] else u') : Sem Value) else (if ok then (do pure (.tuple #[← zeroValue ty, .bool false])) else runtimePanic (.typeAssertion (some xt) (some t) ty ""))).run P w := by
      unfold Instr.typeAssert
      simp only [Sem.run_bind, run_underlying hd, Result.andThen_ok]
    split at h
    · rename_i he
      obtain rfl := Nat.eq_of_beq_eq_true he
      cases h
      refine EndsV.same R (u := if ok then .tuple #[u', .bool true] else u') (by rw [hrun]; simp) ?_
      cases ok with
      | true => exact ⟨#[u', .bool true], ⟨u', _, hu', ⟨_, _, rfl, rfl, rfl⟩, rfl⟩, rfl⟩
      | false => exact hu'
    · rename_i he
      have hne2 : ¬ t = ty := fun e => by subst e; exact he (Nat.beq_refl t)
      split at h
      · rename_i z hz
        cases h
        refine EndsV.same R (u := .tuple #[z, .bool false]) (by rw [hrun, if_neg hne2]; simp [run_zeroT hz]) ?_
        exact ⟨#[z, .bool false], ⟨z, _, VR.plain z (zeroT_spec hz).2, ⟨_, _, rfl, rfl, rfl⟩, rfl⟩, rfl⟩
      · cases h
  · cases h
end
end Go.Ex
