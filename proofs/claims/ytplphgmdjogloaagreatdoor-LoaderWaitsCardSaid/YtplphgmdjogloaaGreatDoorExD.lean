/- Lemmas: an executor over the program's code and its soundness, under the conditions that each theorem names. -/
import Derived.Test.YtplphgmdjogloaaGreatDoorExC
import Derived.Lib.UnsafeStr
import Derived.Laws.IdiomStrings
import Derived.Orders
set_option linter.unusedVariables false
set_option linter.unusedSimpArgs false
set_option linter.unusedVariables false
set_option linter.unusedSimpArgs false
namespace Go.Ex
open Go Go.RowKit
section
variable {E : Env} {B : Nat} {w0 : Base} {w : World} {ρ : Ren} {A : AH} {T : TT} {a : Act} {P : Program} {G : Nat}

theorem rowAt_mono (fits : TypeId → Bool) : ∀ (d : Nat) (e c c' off n : Nat), c ≤ c' → rowAt P fits d e c off n = true → rowAt P fits d e c' off n = true
  | 0, _, _, _, _, _, _, h => by simp [rowAt] at h
  | d + 1, e, c, c', off, n, hc, h => by
    simp only [rowAt] at h ⊢
    split at h
    · cases h
    · rename_i hs
      rw [if_neg hs]
      simp only [Bool.or_eq_true, Bool.and_eq_true, decide_eq_true_eq] at h ⊢
      rcases h with ⟨⟨h1, h2⟩, h3⟩ | ⟨h1, h2⟩
      · exact .inl ⟨⟨h1, by omega⟩, h3⟩
      · exact .inr ⟨by omega, h2⟩
theorem liesAt_mono : ∀ (d : Nat) (e c c' off u n : Nat), c ≤ c' → liesAt P d e c off u n = true → liesAt P d e c' off u n = true
  | 0, _, _, _, _, _, _, _, h => by simp [liesAt] at h
  | d + 1, e, c, c', off, u, n, hc, h => by
    simp only [liesAt, Bool.or_eq_true] at h ⊢
    rcases h with h | h
    · exact .inl (rowAt_mono _ _ _ _ _ _ _ hc h)
    · refine .inr ?_
      split at h
      · exact liesAt_mono d _ _ _ _ _ _ hc h
      · cases h

theorem shape_at {b k : Nat} {c : List Value} {e : TypeId} {sl wr : Bool} {cs : Array Value} {lo hi : Nat} (h : CellsAt P B ρ w b k c e sl wr cs lo hi) : w.shape? b = some (e, cs.size) := by
  simp [World.shape?, h.at_]

theorem bytesOfV_eq : ∀ {vs : List Value} {l : List UInt8}, bytesOfV vs = some l → vs = l.map (fun x => Value.int .u8 (x.toNat : Int))
  | [], l, h => by cases h; rfl
  | v :: r, l, h => by
    cases v with
    | int k n =>
      cases n with
      | ofNat n =>
        cases k with
        | u8 =>
          simp only [bytesOfV] at h
          split at h
          · rename_i hn
            have hn := blt_true hn
            split at h
            · rename_i l' hl
              cases h
              rw [bytesOfV_eq hl]
              simp only [List.map_cons]
              congr 2
              simp [UInt8.toNat_ofNat, Nat.mod_eq_of_lt hn]
            · cases h
          · cases h
        | _ => simp [bytesOfV] at h
      | negSucc n => cases k <;> simp [bytesOfV] at h
    | _ => simp [bytesOfV] at h
theorem plainL_bytes : ∀ (l : List UInt8), plainL (l.map fun x => Value.int .u8 (x.toNat : Int)) = true
  | [] => rfl
  | x :: r => by simp only [List.map_cons, plainL, plainV, plainL_bytes r, Bool.and_self]
theorem bytesOfV_VRL {vs us : List Value} {l : List UInt8} (h : bytesOfV vs = some l) (hv : VRL ρ vs us) : us = l.map (fun x => Value.int .u8 (x.toNat : Int)) := by
  rw [bytesOfV_eq h] at hv
  exact VRL.func _ _ _ hv (VRL.plain _ (plainL_bytes l))

theorem freeze_at {b k : Nat} {c : List Value} {e : TypeId} {sl wr : Bool} {cs : Array Value} {lo hi : Nat} (h : CellsAt P B ρ w b k c e sl wr cs lo hi) (o n : Nat) (hn : n ≠ 0) :
    (∃ lo' hi', (w.freeze ⟨b, o, none⟩ n).heap[b]? = some (.cells cs e (lo', hi'))) ∧ (∀ j, j ≠ b → (w.freeze ⟨b, o, none⟩ n).heap[j]? = w.heap[j]?) ∧ (w.freeze ⟨b, o, none⟩ n).heap.size = w.heap.size ∧
      (w.freeze ⟨b, o, none⟩ n).os = w.os ∧ (w.freeze ⟨b, o, none⟩ n).tape = w.tape ∧ (w.freeze ⟨b, o, none⟩ n).output = w.output := by
  unfold World.freeze
  rw [if_neg hn]
  obtain ⟨hlt, hk⟩ := Array.getElem?_eq_some_iff.1 h.at_
  refine ⟨⟨(if lo == hi then (o, o + n) else (min lo o, max hi (o + n))).1, (if lo == hi then (o, o + n) else (min lo o, max hi (o + n))).2, ?_⟩, fun j hj => ?_, by simp, rfl, rfl, rfl⟩
  · simp only
    rw [Array.getElem?_eq_getElem (by rw [Array.size_modify]; exact hlt), Array.getElem_modify_self, hk]
  · simp only
    rw [Array.getElem?_modify, if_neg (fun e => hj e.symm)]

theorem run_seenAt {a : Addr} {s : TypeId × Nat} (h : w.shape? a.block = some s) : (Conv.seenAt a).run P w = .ok a w := by
  simp [Conv.seenAt, viewAt, h]

theorem sound_convert (R : Rel P G B w0 ρ A w) {src dst : TypeId} {x x' : Value} {r : Value × Option AH} (h : aconvert P src dst x A = some r) (hn : okN (orA A r.2)) (hx : VR ρ x x') :
    EndsV P G B w0 ρ A (orA A r.2) (convert src dst x') w r.1 := by
  unfold aconvert at h
  split at h
  · rename_i e s hs hd
    cases hx
    split at h
    · rename_i he hsz
      cases h
      have hrun := run_bytes_of_string w src dst e s hs hd he
      generalize hk : grownCap w s.size 0 e = k at hrun
      have hge : s.size ≤ k := by rw [← hk]; exact grownCap_ge w s.size 0 e
      have hbs : (bytesRow s k).size = k := by
        simp only [bytesRow, Array.size_append, Array.size_map, Array.size_replicate]
        have : s.data.size = s.size := rfl
        omega
      have RD := R.drewTo (w.drawn + 1)
      have hle := Ren.le_set (R.fresh A.next (Nat.le_refl _)) (w.heap.size, 0, k)
      refine ⟨_, _, _, hle, hrun, slice_newCap k s.size, RD.add _ _ k hn ⟨w.heap.size, k, _, _, _, Ren.set_same _, ⟨heap_push_new _ _, ?_, ?_, (fun h => by cases h), ?_, ?_⟩⟩, Keep.add A R.small _⟩
      · rw [hbs]; simpa using hge
      · intro i v hv
        rw [List.getElem?_map] at hv
        cases hb : s.data.toList[i]? with
        | none => rw [hb] at hv; cases hv
        | some b =>
          rw [hb] at hv; cases hv
          refine ⟨_, ?_, rfl⟩
          have hi : i < s.data.size := by
            have := (List.getElem?_eq_some_iff.1 hb).1
            simpa using this
          rw [bytesRow, Array.getElem?_append_left (by simpa using hi), Array.getElem?_map]
          rw [Array.getElem?_toList] at hb
          rw [hb]; rfl
      · intro _ n hn'
        rw [hsz] at hn'; cases hn'
        rw [hbs, Nat.mul_one]
      · intro _
        refine ⟨R.sz, fun o ho => ?_⟩
        rw [Bool.and_eq_false_iff]; left
        rw [decide_eq_false_iff_not]
        omega
    · cases h
  · rename_i u b o hs hd
    split at h
    · rename_i c e sl wr n hg hsz
      split at h
      · rename_i hc
        cases h
        simp only [Bool.and_eq_true, Bool.not_eq_true'] at hc
        obtain ⟨hc1, hc2⟩ := hc
        have hc1 := blt_true hc1
        have hn0 : ¬ n = 0 := fun e => by subst e; cases hc2
        have hx0 := hx
        obtain ⟨a', ha, rfl⟩ := hx
        obtain ⟨bb, k, cs, lo, hi, h1, rfl, h2⟩ := ptr_at R ha hg
        have hsh := shape_at h2
        have hlen := h2.len
        have hoo : ¬ cs.size ≤ o := by omega
        refine EndsV.same R ?_ hx0
        simp [convert, run_underlying hs, run_underlying hd, Conv.unsafePointer, run_seenAt (show w.shape? (⟨bb, o, none⟩ : Addr).block = _ from hsh), cellsIn, hsh, hoo, run_sizeT hsz, hn0]
      · cases h
    · cases h
  · rename_i u b o hs hd
    split at h
    · rename_i c e sl wr n hg hsz
      split at h
      · rename_i hc
        cases h
        have hx0 := hx
        obtain ⟨a', ha, rfl⟩ := hx
        obtain ⟨bb, k, cs, lo, hi, h1, rfl, h2⟩ := ptr_at R ha hg
        have hsh := shape_at h2
        have hl := liesAt_mono (P := P) _ _ _ _ _ _ _ (Nat.div_le_div_right (c := P.cellsOf e) h2.len) hc
        refine EndsV.same R ?_ hx0
        simp [convert, run_underlying hs, run_underlying hd, Conv.unsafePointer, run_seenAt (show w.shape? (⟨bb, o, none⟩ : Addr).block = _ from hsh), variablesAt, hsh, run_sizeT hsz, hl]
      · cases h
    · cases h
  · rename_i e0 e b o n c hs hd
    split at h
    · rename_i cc et sl hsd he hg
      cases h
      obtain rfl := Nat.eq_of_beq_eq_true hsd
      obtain rfl : e0 = e := by rw [hs] at hd; cases hd; rfl
      have hx0 := hx
      obtain ⟨a', c', ha, hc, rfl⟩ := hx
      obtain ⟨bb, k, cs, lo, hi, h1, rfl, h2⟩ := ptr_at R ha hg
      have hsh := shape_at h2
      obtain ⟨⟨lo', hi', f1⟩, f2, f3, f4, f5, f6⟩ := freeze_at h2 cs.size 1 (by simp)
      refine ⟨ρ, w.freeze ⟨bb, cs.size, none⟩ 1, _, Ren.le_refl ρ, ?_, hx0, R.turn hg h1 (h2.own rfl).1 f3 f4 f5 f6 f2 ⟨bb, k, cs, lo', hi', h1, ⟨f1, h2.len, h2.cells, h2.full, h2.cap, (fun h => by cases h)⟩⟩, Keep.put A (by have := R.id_lt hg; have := R.small; omega) _⟩
      simp [convert, run_underlying hs, run_underlying hd, run_underlying he, markStringish, hsh]
    · cases h
  · rename_i e a0 n c hs hd
    split at h
    · rename_i vs he hvs
      split at h
      · rename_i l hl
        cases h
        obtain ⟨us, hus, hr⟩ := aview_run R hvs hx
        obtain ⟨a', c', ha, hc, rfl⟩ := hx
        have hue := bytesOfV_VRL hl hus
        have hr' : (loadCells a' n).run P w = .ok us.toArray w := by
          simpa [Builtin.firstCells] using hr
        refine EndsV.same R ?_ rfl
        rw [run_convert_bytes_string w src dst e (some a') n c' hs he hd]
        have e2 : us = (l.map (fun b => (b.toNat : Int))).map (Value.int .u8) := by rw [hue, List.map_map]; rfl
        rw [e2] at hr'
        rw [run_bytesToString w a' n c' _ hr', foldl_push_byteCells]
        have he0 : ByteArray.empty.data = #[] := rfl
        rw [he0]; simp
      · cases h
    · cases h
  · cases h

theorem sound_sliceData (R : Rel P G B w0 ρ A w) {argTypes : Array TypeId} {ty b p m n : Nat} {x' v : Value} (h : asliceData P b p n A = some v) (hx : VR ρ (.slice (some ⟨b, p, none⟩) m n) x') :
    EndsV P G B w0 ρ A A (Builtin.unsafeSliceData_ argTypes ty #[x']) w v := by
  obtain ⟨a', c', ha, hc, rfl⟩ := hx
  have key : c' ≠ 0 → (Builtin.unsafeSliceData_ argTypes ty #[.slice (some a') m c']).run P w = .ok (.pointer (some a')) w := fun h0 => Lib.run_unsafeSliceData_row w argTypes ty a' m c' h0
  unfold asliceData at h
  split at h
  · rename_i hex
    split at h
    · rename_i h1
      cases h
      obtain rfl := hc.ex hex
      exact EndsV.same R (key (by have := Nat.le_of_ble_eq_true h1; omega)) ⟨a', ha, rfl⟩
    · cases h
  · rename_i hex
    split at h
    · rename_i c0 cr e wr hg
      split at h
      · rename_i hcond
        cases h
        simp only [Bool.and_eq_true] at hcond
        obtain ⟨⟨h1, h2⟩, h3⟩ := hcond
        have h1 := Nat.eq_of_beq_eq_true h1
        have h2 := Nat.eq_of_beq_eq_true h2
        obtain ⟨sz, hsz⟩ := Option.isSome_iff_exists.1 h3
        obtain ⟨bb, k, cs, lo, hi, e1, rfl, e2⟩ := ptr_at R ha hg
        have hcap := e2.cap rfl sz hsz
        have hlen := e2.len
        refine EndsV.same R (key ?_) ⟨_, ha, rfl⟩
        rcases hc with ⟨q, _⟩ | ⟨_, y, hy, _, rfl⟩
        · rw [hex] at q; cases q
        · rw [h1, e1] at hy; cases hy
          intro h0
          rw [h2] at h0
          simp only [Nat.sub_zero] at h0
          subst h0
          simp at hcap hlen
          rw [hcap] at hlen
          simp at hlen
      · cases h
    · cases h

theorem sound_unsafeString (R : Rel P G B w0 ρ A w) {argTypes : Array TypeId} {ty : TypeId} {p p' : Value} {k : IntKind} {i : Int} {r : Value × Option AH} (h0 : 0 ≤ i) (h : aunsafeString P argTypes p i.toNat A = some r) (hp : VR ρ p p') :
    EndsV P G B w0 ρ A (orA A r.2) (Builtin.unsafeString_ argTypes ty #[p', .int k i]) w r.1 := by
  unfold aunsafeString at h
  split at h
  · rename_i pt tl b o hpt
    have hat : argTypes[0]? = some pt := by cases argTypes; simp_all
    obtain ⟨a', ha, rfl⟩ := hp
    split at h
    · rename_i u c e sl hu hg
      obtain ⟨bb, kk, cs, lo, hi, e1, rfl, e2⟩ := ptr_at R ha hg
      split at h
      · rename_i hc
        simp only [Bool.and_eq_true] at hc
        obtain ⟨⟨c1, c2⟩, c3⟩ := hc
        have c1 := Nat.le_of_ble_eq_true c1
        have c2 := blt_true c2
        have hl := liesAt_mono (P := P) _ _ _ _ _ _ _ (Nat.div_le_div_right (c := P.cellsOf e) e2.len) c3
        split at h
        · rename_i vs hvs
          split at h
          · rename_i l hbl
            cases h
            obtain ⟨_, _, hlen, hj⟩ := loadN_spec hvs
            obtain ⟨us, hu2, hcs⟩ := e2.cells.list vs o hj
            have hue := bytesOfV_VRL hbl hu2
            have hll : l.length = i.toNat := by
              have := hu2.length
              rw [hue, List.length_map, hlen] at this; exact this
            have hlb := Lib.run_loadBytes (P := P) w l ⟨bb, o, none⟩ .empty (fun j x hx => by
              rw [add_none, e2.cell?]
              exact hcs j _ (by rw [hue, List.getElem?_map, hx]; rfl))
            rw [hll] at hlb
            have hsh := shape_at e2
            have hfz : (w.freeze ⟨bb, o, none⟩ i.toNat).heap[bb]? = some (.cells cs e (if lo == hi then (o, o + i.toNat) else (min lo o, max hi (o + i.toNat)))) := by
              unfold World.freeze
              rw [if_neg (by omega)]
              obtain ⟨hlt, hk⟩ := Array.getElem?_eq_some_iff.1 e2.at_
              simp only
              rw [Array.getElem?_eq_getElem (by rw [Array.size_modify]; exact hlt), Array.getElem_modify_self, hk]
            have hot : ∀ j, j ≠ bb → (w.freeze ⟨bb, o, none⟩ i.toNat).heap[j]? = w.heap[j]? := by
              intro j hj
              unfold World.freeze
              rw [if_neg (by omega)]
              simp only
              rw [Array.getElem?_modify]
              rw [if_neg (fun e => hj e.symm)]
            have hsz : (w.freeze ⟨bb, o, none⟩ i.toNat).heap.size = w.heap.size := by
              unfold World.freeze
              rw [if_neg (by omega)]; simp
            have hrest : (w.freeze ⟨bb, o, none⟩ i.toNat).os = w.os ∧ (w.freeze ⟨bb, o, none⟩ i.toNat).tape = w.tape ∧ (w.freeze ⟨bb, o, none⟩ i.toNat).output = w.output := by
              unfold World.freeze
              rw [if_neg (by omega)]; exact ⟨rfl, rfl, rfl⟩
            refine ⟨ρ, w.freeze ⟨bb, o, none⟩ i.toNat, .string ⟨l.toArray⟩, Ren.le_refl ρ, ?_, rfl, R.turn hg e1 (e2.own rfl).1 hsz hrest.1 hrest.2.1 hrest.2.2 hot ⟨bb, kk, cs, _, _, e1, ⟨hfz, e2.len, e2.cells, e2.full, e2.cap, fun h => by cases h⟩⟩, Keep.put A (by have := R.id_lt hg; have := R.small; omega) _⟩
            have hneg : ¬ i < 0 := by omega
            have hmax : IntKind.i64.max = 9223372036854775807 := rfl
            have hbig : ¬ (9223372036854775807 : Int) < i := by omega
            have hz : ¬ i = 0 := by omega
            have he0 : ByteArray.empty.data = #[] := rfl
            have hdef : Builtin.unsafeString_ argTypes ty #[.pointer (some ⟨bb, o, none⟩), .int k i] =
                (do
                  let n ← asInt (.int k i)
                  let some pt := argTypes[0]? | stuck "unsafe.String: no argument types"
                  if n < 0 then runtimePanic (.error "unsafe.String: len out of range")
                  if n > IntKind.i64.max then unsupported (.unsafePointer "String: a length above the largest int")
                  if n = 0 then pure (.string .empty)
                  else if ← variablesAt ⟨bb, o, none⟩ (← elemOf pt) n.toNat then do
                    let s ← loadBytes ⟨bb, o, none⟩ .empty n.toNat
                    freeze ⟨bb, o, none⟩ n.toNat
                    pure (.string s)
                  else unsupported (.unsafePointer "String: not so many bytes at ptr")) := rfl
            rw [hdef]
            simp [asInt, asIntOf, hat, hneg, hmax, hbig, hz, elemOf, run_underlying hu, variablesAt, hsh, hl, hlb, he0]
          · cases h
        · cases h
      · cases h
    · cases h
  · cases h
end
end Go.Ex
set_option linter.unusedVariables false
set_option linter.unusedSimpArgs false
namespace Go.Ex
open Go Go.RowKit
section
variable {E : Env} {B : Nat} {w0 : Base} {w : World} {ρ : Ren} {A : AH} {T : TT} {a : Act} {P : Program} {G : Nat}

/-- A block's object, turned. -/
theorem run_setObj' {r : Nat} {o o' : Obj} (h : w.heap[r]? = some o) (hne : ∀ c e f, o ≠ .cells c e f) : (setObj r o').run P w = .ok () { w with heap := w.heap.setIfInBounds r o' } := by
  simp only [setObj, Sem.run, h]
theorem Rel.setObj (R : Rel P G B w0 ρ A w) {id b k : Nat} {o o1 : AObj} {x x' : Obj} (hid : A.get id = some o) (hb : ρ id = some (b, 0, k)) (hB : B ≤ b) (hx : w.heap[b]? = some x)
    (ho : HasObj P B ρ { w with heap := w.heap.setIfInBounds b x' } id o1) : Rel P G B w0 ρ (A.put id o1) { w with heap := w.heap.setIfInBounds b x' } ∧ Keep A (A.put id o1) :=
  ⟨R.turn hid hb hB (by simp) rfl rfl rfl (fun j hj => by simp only; rw [Array.getElem?_setIfInBounds_ne (fun e => hj e.symm)]) ho,
    Keep.put A (by have := R.id_lt hid; have := R.small; omega) _⟩
theorem heap_set {b : Nat} {x x' : Obj} (hx : w.heap[b]? = some x) : ({ w with heap := w.heap.setIfInBounds b x' } : World).heap[b]? = some x' :=
  Array.getElem?_setIfInBounds_self_of_lt (Array.getElem?_eq_some_iff.1 hx).1

/-! ### Keys -/
theorem checkKey_spec {empty : Bool} {kt : TypeId} {k : Value} (h : okKey P empty kt k = true) : (Instr.checkKey empty 10000 kt k).run P w = .ok () w ∧ ∃ d, P.underlying kt = some d := by
  unfold okKey at h
  split at h
  · rename_i u hu
    have hr := pev_run _ _ hu w
    refine ⟨by cases u; exact hr, ?_⟩
    generalize 10000 = n at hr
    cases n with
    | zero => cases hr
    | succ n =>
      cases hk : P.underlying kt with
      | some d => exact ⟨d, rfl⟩
      | none =>
        simp only [Instr.checkKey, Sem.run_bind] at hr
        simp [underlying, hk] at hr
  · cases h

theorem sameNow_run {d : TypeDesc} {kt : TypeId} {x y : Value} {b : Bool} (hd : P.underlying kt = some d) (h : Instr.sameNow d x y = some b) : (Op.equal kt x y).run P w = .ok b w := by
  have key : ∀ n, (Op.equalIn (n + 1) kt x y).run P w = .ok b w := by
    intro n
    unfold Instr.sameNow at h
    split at h
    · split at h
      · rename_i hk
        cases h
        simp [Op.equalIn, run_underlying hd, hk]
      · cases h
    · cases h; simp [Op.equalIn, run_underlying hd]
    · cases h; simp [Op.equalIn, run_underlying hd]
    · cases h
  exact key 9999

theorem findNow_run {d : TypeDesc} {kt : TypeId} {k : Value} (hd : P.underlying kt = some d) : ∀ (es : List MapEntry) (i : Nat) (r : Option (Nat × Value)), Instr.findNow d k es i = some r → (Instr.findAsking kt k es i).run P w = .ok r w
  | [], i, r, h => by cases h; rfl
  | e :: es, i, r, h => by
    simp only [Instr.findNow] at h
    split at h
    · rename_i hs
      cases h
      simp [Instr.findAsking, sameNow_run hd hs]
    · rename_i hs
      simp [Instr.findAsking, sameNow_run hd hs, findNow_run hd es (i + 1) r h]
    · cases h
theorem findKey_run {d : TypeDesc} {kt : TypeId} {k : Value} (hd : P.underlying kt = some d) (es : List MapEntry) : (Instr.findKey kt k es).run P w = (Instr.findAsking kt k es).run P w := by
  simp only [Instr.findKey, Sem.run_bind, run_underlying hd, Result.andThen_ok]
  split
  · rename_i r hr
    rw [findNow_run hd es 0 r hr]; rfl
  · rfl

/-- What a key leads to. -/
inductive FoundR (ρ : Ren) : Option (Nat × Value) → Option (Nat × Value) → Prop
  | none : FoundR ρ none none
  | some (i : Nat) {v u : Value} (h : VR ρ v u) : FoundR ρ (some (i, v)) (some (i, u))

theorem aKey_run {kt : TypeId} {k : Value} : ∀ {es : List AEnt} {es' : List MapEntry} {i : Nat} {r : Option (Nat × Value)}, es.all (fun e => plainV e.key) = true → EntsR ρ es es' → aKey P kt k es i = some r →
    ∃ r', (Instr.findAsking kt k es' i).run P w = .ok r' w ∧ FoundR ρ r r'
  | [], es', i, r, _, h, hr => by
    obtain rfl : es' = [] := h
    cases hr
    exact ⟨none, rfl, .none⟩
  | e :: es, _, i, r, hp, ⟨e', r', ⟨h1, h2, h3⟩, hes, rfl⟩, hr => by
    simp only [List.all_cons, Bool.and_eq_true] at hp
    have hk := VR.of_plain hp.1 h1
    simp only [aKey] at hr
    split at hr
    · rename_i he
      cases hr
      have := pev_run _ _ he w
      exact ⟨some (i, e'.val), by simp [Instr.findAsking, hk, this], .some i h2⟩
    · rename_i he
      have := pev_run _ _ he w
      obtain ⟨q, hq, hf⟩ := aKey_run hp.2 hes hr
      exact ⟨q, by simp [Instr.findAsking, hk, this, hq], hf⟩
    · cases hr

theorem aFind_run {kt : TypeId} {d : TypeDesc} {k k' : Value} {es : List AEnt} {es' : List MapEntry} {r : Option (Nat × Value)} (hd : P.underlying kt = some d) (hk : VR ρ k k') (he : EntsR ρ es es') (h : aFind P kt k es = some r) :
    ∃ r', (Instr.findKey kt k' es').run P w = .ok r' w ∧ FoundR ρ r r' := by
  unfold aFind at h
  split at h
  · rename_i hc
    simp only [Bool.and_eq_true] at hc
    obtain rfl := VR.of_plain hc.1 hk
    rw [findKey_run hd]
    exact aKey_run hc.2 he h
  · cases h

/-- A map's entries. -/
theorem aEnts_spec (R : Rel P G B w0 ρ A w) {x x' : Value} {es : List AEnt} {clock : Nat} {r : Option Nat} (h : aEnts x A = some (es, clock, r)) (hx : VR ρ x x') :
    (x' = .map none ∧ es = [] ∧ r = none) ∨ ∃ id b k es', r = some id ∧ x' = .map (some b) ∧ A.get id = some (.map es clock) ∧ ρ id = some (b, 0, k) ∧ B ≤ b ∧ w.heap[b]? = some (.map es' clock) ∧ EntsR ρ es es'.toList := by
  unfold aEnts at h
  split at h
  · cases h; cases hx; exact .inl ⟨rfl, rfl, rfl⟩
  · rename_i id
    split at h
    · rename_i es0 c0 hg
      cases h
      obtain ⟨y, hy, rfl⟩ := hx
      obtain ⟨b, k, es', h1, h2, h3, h4⟩ := R.objs id _ hg
      rw [h1] at hy; cases hy
      exact .inr ⟨id, b, k, es', rfl, rfl, hg, h1, h2, h3, h4⟩
    · cases h
  · cases h

theorem isEmpty_EntsR {es : List AEnt} {es' : Array MapEntry} (h : EntsR ρ es es'.toList) : es'.isEmpty = es.isEmpty := by
  have := h.length
  cases es' with
  | mk l => cases es <;> cases l <;> simp_all

theorem sound_lookup (R : Rel P G B w0 ρ A w) {t : TypeId} {x k x' k' v : Value} {ok : Bool} (h : alookup P t x k ok A = some v) (hx : VR ρ x x') (hk : VR ρ k k') : EndsV P G B w0 ρ A A (Instr.lookup t x' k' ok) w v := by
  unfold alookup at h
  split at h
  · rename_i kt et es clock r hu hes
    split at h
    · cases h
    · rename_i hc
      simp only [Bool.or_eq_true, Bool.not_eq_true', not_or, Bool.not_eq_false] at hc
      obtain ⟨hpk, hok⟩ := hc
      obtain rfl := VR.of_plain hpk hk
      obtain ⟨hck, d, hd⟩ := checkKey_spec (w := w) hok
      have pick : ∀ {v u : Value} {b : Bool}, VR ρ v u → VR ρ (if ok then .tuple #[v, .bool b] else v) (if ok then .tuple #[u, .bool b] else u) := by
        intro v u b hv
        cases ok with
        | true => exact ⟨#[u, .bool b], ⟨u, _, hv, ⟨_, _, rfl, rfl, rfl⟩, rfl⟩, rfl⟩
        | false => exact hv
      rcases aEnts_spec R hes hx with ⟨rfl, rfl, _⟩ | ⟨id, b, k2, es', _, rfl, _, _, _, h3, h4⟩
      · split at h
        · rename_i i u hf
          unfold aFind at hf
          split at hf
          · cases hf
          · cases hf
        · split at h
          · rename_i z hz
            cases h
            refine EndsV.same R ?_ (pick (VR.plain z (zeroT_spec hz).2))
            have hf : (Instr.findKey kt k' []).run P w = .ok none w := by rw [findKey_run hd]; rfl
            simp only [List.isEmpty_nil] at hck
            simp [Instr.lookup, run_underlying hu, hck, hf, run_zeroT hz]
          · cases h
        · cases h
      · have hemp := isEmpty_EntsR h4
        rw [← hemp] at hck
        split at h
        · rename_i i u hf
          cases h
          obtain ⟨r', hr, hfr⟩ := aFind_run (w := w) hd (VR.plain k' hpk) h4 hf
          cases hfr with
          | some _ hv =>
            refine EndsV.same R ?_ (pick hv)
            simp [Instr.lookup, run_underlying hu, run_getObj_map h3, hck, hr]
        · rename_i hf
          split at h
          · rename_i z hz
            cases h
            obtain ⟨r', hr, hfr⟩ := aFind_run (w := w) hd (VR.plain k' hpk) h4 hf
            cases hfr with
            | none =>
              refine EndsV.same R ?_ (pick (VR.plain z (zeroT_spec hz).2))
              simp [Instr.lookup, run_underlying hu, run_getObj_map h3, hck, hr, run_zeroT hz]
          · cases h
        · cases h
  · cases h

theorem EntsR.get : ∀ {l : List AEnt} {l' : List MapEntry}, EntsR ρ l l' → ∀ (i : Nat) (e : AEnt), l[i]? = some e → ∃ e', l'[i]? = some e' ∧ EntR ρ e e'
  | [], _, _, i, e, hi => by simp at hi
  | a :: r, _, ⟨e', r', h1, h2, h3⟩, 0, e, hi => by subst h3; simp at hi; subst hi; exact ⟨e', by simp, h1⟩
  | a :: r, _, ⟨e', r', h1, h2, h3⟩, i + 1, e, hi => by subst h3; simp at hi; simpa using EntsR.get h2 i e hi
theorem EntsR.append : ∀ {l : List AEnt} {l' : List MapEntry}, EntsR ρ l l' → ∀ {m : List AEnt} {m' : List MapEntry}, EntsR ρ m m' → EntsR ρ (l ++ m) (l' ++ m')
  | [], l', h, _, _, k => by
    obtain rfl : l' = [] := h
    exact k
  | a :: r, _, ⟨e', r', h1, h2, h3⟩, _, _, k => by subst h3; exact ⟨e', _, h1, EntsR.append h2 k, rfl⟩
theorem EntsR.modify {f : MapEntry → MapEntry} {x : AEnt} (hf : ∀ e e', EntR ρ e e' → EntR ρ { x with born := e.born } (f e')) : ∀ {l : List AEnt} {l' : List MapEntry}, EntsR ρ l l' → ∀ (i : Nat), EntsR ρ (modEnt l i x) (l'.modify i f)
  | [], l', h, i => by
    obtain rfl : l' = [] := h
    cases i <;> exact rfl
  | a :: r, _, ⟨e', r', h1, h2, h3⟩, 0 => by subst h3; exact ⟨f e', r', hf a e' h1, h2, by simp⟩
  | a :: r, _, ⟨e', r', h1, h2, h3⟩, i + 1 => by subst h3; exact ⟨e', _, h1, EntsR.modify hf h2 i, by simp⟩
theorem EntsR.dropAt : ∀ {l : List AEnt} {l' : List MapEntry}, EntsR ρ l l' → ∀ (i : Nat), EntsR ρ (Go.Ex.dropAt l i) (l'.eraseIdx i)
  | [], l', h, i => by
    obtain rfl : l' = [] := h
    cases i <;> exact rfl
  | a :: r, _, ⟨e', r', h1, h2, h3⟩, 0 => by subst h3; simpa [Go.Ex.dropAt] using h2
  | a :: r, _, ⟨e', r', h1, h2, h3⟩, i + 1 => by subst h3; exact ⟨e', _, h1, EntsR.dropAt h2 i, by simp⟩

theorem sound_mapUpdate (R : Rel P G B w0 ρ A w) {t : TypeId} {m k v m' k' v' : Value} {A' : AH} (h : amapUpdate P t m k v A = some A') (hm : VR ρ m m') (hk : VR ρ k k') (hv : VR ρ v v') :
    ∃ w', (Instr.mapUpdate t m' k' v').run P w = .ok () w' ∧ Rel P G B w0 ρ A' w' ∧ Keep A A' := by
  unfold amapUpdate at h
  split at h
  · rename_i kt et es clock r hu hes
    split at h
    · cases h
    · rename_i hc
      simp only [Bool.or_eq_true, Bool.not_eq_true', not_or, Bool.not_eq_false] at hc
      obtain ⟨hpk, hok⟩ := hc
      have hke := VR.of_plain hpk hk
      obtain ⟨hck, d, hd⟩ := checkKey_spec (w := w) hok
      rcases aEnts_spec R hes hm with ⟨_, _, h0⟩ | ⟨id, b, k2, es', h0, rfl, hg, hb, hB, h3, h4⟩
      · cases h0
      · cases h0
        split at h
        · rename_i i u hf
          split at h
          · rename_i e0 he0
            split at h
            · rename_i hs
              cases h
              obtain ⟨r', hr, hfr⟩ := aFind_run (w := w) hd hk h4 hf
              cases hfr with
              | some _ hvv =>
                obtain ⟨e1, he1, h5, h6, h7⟩ := h4.get i e0 he0
                have hpe : plainV e0.key = true := by
                  unfold aFind at hf
                  split at hf
                  · rename_i hc2
                    simp only [Bool.and_eq_true, List.all_eq_true] at hc2
                    exact hc2.2 e0 (List.mem_of_getElem? he0)
                  · cases hf
                have hke0 := VR.of_plain hpe h5
                have hstay : (Instr.keyThatStays (((es'[i]?).map (·.key)).getD k') k').run P w = .ok k' w := by
                  rw [Array.getElem?_toList] at he1
                  rw [he1]
                  simp only [Option.map_some, Option.getD_some, Instr.keyThatStays, hke0, hke]
                  rw [if_pos hs]; rfl
                have hO := R.setObj (x' := .map (es'.modify i fun e => { e with key := k', val := v' }) clock) (o1 := .map (modEnt es i { key := k, val := v, born := 0 }) clock) hg hb hB h3
                  ⟨b, k2, _, hb, hB, heap_set h3, by rw [Array.toList_modify]; exact h4.modify (f := fun e => { e with key := k', val := v' }) (x := { key := k, val := v, born := 0 }) (fun e e' he => ⟨hk, hv, he.2.2⟩) i⟩
                refine ⟨_, ?_, hO.1, hO.2⟩
                subst hke
                simp [Instr.mapUpdate, run_underlying hu, run_getObj_map h3, hck, hr, hstay, run_setObj' h3 (fun _ _ _ => by simp)]
            · cases h
          · cases h
        · rename_i hf
          cases h
          obtain ⟨r', hr, hfr⟩ := aFind_run (w := w) hd hk h4 hf
          cases hfr with
          | none =>
            have hO := R.setObj (x' := .map (es'.push { key := k', val := v', born := clock }) (clock + 1)) (o1 := .map (es ++ [{ key := k, val := v, born := clock }]) (clock + 1)) hg hb hB h3
              ⟨b, k2, _, hb, hB, heap_set h3, by rw [Array.toList_push]; exact h4.append ⟨_, [], ⟨hk, hv, rfl⟩, rfl, rfl⟩⟩
            refine ⟨_, ?_, hO.1, hO.2⟩
            subst hke
            simp [Instr.mapUpdate, run_underlying hu, run_getObj_map h3, hck, hr, run_setObj' h3 (fun _ _ _ => by simp)]
        · cases h
  · cases h

theorem sound_delete (R : Rel P G B w0 ρ A w) {argTypes : Array TypeId} {ty t : TypeId} {tl : List TypeId} {m k m' k' : Value} {r : Option AH} (ht : argTypes.toList = t :: tl) (h : adelete P t m k A = some r) (hm : VR ρ m m') (hk : VR ρ k k') :
    EndsV P G B w0 ρ A (orA A r) (Builtin.delete_ argTypes ty #[m', k']) w (.tuple #[]) := by
  have h0 : argTypes[0]? = some t := by
    cases argTypes; simp_all
  unfold adelete at h
  split at h
  · rename_i kt et es clock r1 hu hes
    split at h
    · cases h
    · rename_i hc
      simp only [Bool.or_eq_true, Bool.not_eq_true', not_or, Bool.not_eq_false] at hc
      obtain ⟨hpk, hok⟩ := hc
      have hke := VR.of_plain hpk hk
      obtain ⟨hck, d, hd⟩ := checkKey_spec (w := w) hok
      rcases aEnts_spec R hes hm with ⟨rfl, rfl, rfl⟩ | ⟨id, b, k2, es', rfl, rfl, hg, hb, hB, h3, h4⟩
      · simp only at h
        cases h
        subst hke
        simp only [List.isEmpty_nil] at hck
        exact EndsV.same R (by simp [Builtin.delete_, h0, run_underlying hu, hck]) (tupV ρ)
      · have hemp := isEmpty_EntsR h4
        rw [← hemp] at hck
        simp only at h
        split at h
        · rename_i i u hf
          cases h
          obtain ⟨r', hr, hfr⟩ := aFind_run (w := w) hd hk h4 hf
          cases hfr with
          | some _ hvv =>
            have hO := R.setObj (x' := .map (es'.eraseIdxIfInBounds i) clock) (o1 := .map (Go.Ex.dropAt es i) clock) hg hb hB h3
              ⟨b, k2, _, hb, hB, heap_set h3, by rw [Array.toList_eraseIdxIfInBounds]; exact h4.dropAt i⟩
            refine ⟨ρ, _, _, Ren.le_refl ρ, ?_, tupV ρ, hO.1, hO.2⟩
            subst hke
            simp [Builtin.delete_, h0, run_underlying hu, run_getObj_map h3, hck, hr, run_setObj' h3 (fun _ _ _ => by simp)]
        · rename_i hf
          cases h
          obtain ⟨r', hr, hfr⟩ := aFind_run (w := w) hd hk h4 hf
          cases hfr with
          | none =>
            have hsame : ({ w with heap := w.heap.setIfInBounds b (.map es' clock) } : World) = w := by
              have : w.heap.setIfInBounds b (.map es' clock) = w.heap := by
                apply Array.ext_getElem?
                intro j
                by_cases hj : b = j
                · subst hj
                  rw [Array.getElem?_setIfInBounds_self_of_lt (Array.getElem?_eq_some_iff.1 h3).1, h3]
                · rw [Array.getElem?_setIfInBounds_ne hj]
              rw [this]
            subst hke
            refine EndsV.same R ?_ (tupV ρ)
            simp [Builtin.delete_, h0, run_underlying hu, run_getObj_map h3, hck, hr, run_setObj' h3 (fun _ _ _ => by simp), hsame]
        · cases h
  · cases h
end
end Go.Ex
set_option linter.unusedVariables false
set_option linter.unusedSimpArgs false
namespace Go.Ex
open Go Go.RowKit
section
variable {E : Env} {B : Nat} {w0 : Base} {w : World} {ρ : Ren} {A : AH} {T : TT} {a : Act} {P : Program} {G : Nat}

theorem sound_range (R : Rel P G B w0 ρ A w) {t : TypeId} {x x' v : Value} {A' : AH} (h : arange P t x A = some (v, A')) (hn : okN A') (hx : VR ρ x x') :
    EndsV P G B w0 ρ A A' (Instr.range t x') w v := by
  have hle := Ren.le_set (R.fresh A.next (Nat.le_refl _)) (w.heap.size, 0, 0)
  unfold arange at h
  split at h
  · rename_i s hu
    cases h; cases hx
    refine ⟨_, _, _, hle, ?_, ptr_new 0, R.add _ (.stringIter s 0) 0 hn ⟨w.heap.size, 0, Ren.set_same _, R.sz, heap_push_new _ _⟩, Keep.add A R.small _⟩
    simp [Instr.range, run_underlying hu]
  · rename_i k e hu
    cases h; cases hx
    refine ⟨_, _, _, hle, ?_, ptr_new 0, R.add _ (.mapIter none 0 #[] 0) 0 hn ⟨w.heap.size, 0, Ren.set_same _, R.sz, heap_push_new _ _⟩, Keep.add A R.small _⟩
    simp [Instr.range, run_underlying hu]
  · rename_i k e m hu
    obtain ⟨y, hy, rfl⟩ := hx
    split at h
    · rename_i es clock hg
      cases h
      obtain ⟨b, k', es', h1, h2, h3, h4⟩ := R.objs m _ hg
      rw [h1] at hy; cases hy
      refine ⟨_, _, _, hle, ?_, ptr_new 0, R.add _ (.mapIter (some b) clock #[] clock) 0 hn ⟨w.heap.size, 0, (b, 0, k'), Ren.set_same _, R.sz, hle _ _ h1, heap_push_new _ _⟩, Keep.add A R.small _⟩
      simp [Instr.range, run_underlying hu, run_getObj_map h3]
    · cases h
  · cases h

theorem run_getObj {r : Nat} {o : Obj} (h : w.heap[r]? = some o) (hne : ∀ c e f, o ≠ .cells c e f) : (getObj r).run P w = .ok o w := by
  simp only [getObj, Sem.run, h]

theorem EntsR.filter {p : AEnt → Bool} {q : MapEntry → Bool} (hpq : ∀ e e', EntR ρ e e' → q e' = p e) : ∀ {l : List AEnt} {l' : List MapEntry}, EntsR ρ l l' → EntsR ρ (l.filter p) (l'.filter q)
  | [], l', h => by
    obtain rfl : l' = [] := h
    exact rfl
  | a :: r, _, ⟨e', r', h1, h2, h3⟩ => by
    subst h3
    have := hpq a e' h1
    by_cases hp : p a = true
    · rw [List.filter_cons_of_pos hp, List.filter_cons_of_pos (by rw [this]; exact hp)]
      exact ⟨e', _, h1, EntsR.filter hpq h2, rfl⟩
    · rw [List.filter_cons_of_neg hp, List.filter_cons_of_neg (by rw [this]; exact hp)]
      exact EntsR.filter hpq h2
theorem EntsR.all {p : AEnt → Bool} {q : MapEntry → Bool} (hpq : ∀ e e', EntR ρ e e' → q e' = p e) : ∀ {l : List AEnt} {l' : List MapEntry}, EntsR ρ l l' → l'.all q = l.all p
  | [], l', h => by
    obtain rfl : l' = [] := h
    rfl
  | a :: r, _, ⟨e', r', h1, h2, h3⟩ => by
    subst h3
    simp only [List.all_cons, hpq a e' h1, EntsR.all hpq h2]

theorem sound_next (R : Rel P G B w0 ρ A w) {it it' : Value} {isS : Bool} {ty : TypeId} {r : Value × Option AH} (h : anext it isS A = some r) (hi : VR ρ it it') :
    EndsV P G B w0 ρ A (orA A r.2) (Instr.next it' isS ty) w r.1 := by
  unfold anext at h
  split at h
  · rename_i id
    obtain ⟨a', ⟨y, hy, rfl⟩, rfl⟩ := hi
    rw [show (⟨id, 0, none⟩ : Addr).block = id from rfl] at hy
    have over : VR ρ (.tuple #[.bool false]) (.tuple #[.bool false]) := VR.plain _ rfl
    split at h
    · -- a string
      rename_i s pos hg
      obtain ⟨b, k, h1, h2, h3⟩ := R.objs id _ hg
      rw [h1] at hy; cases hy
      have hget := run_getObj (P := P) h3 (fun _ _ _ => by simp)
      split at h
      · rename_i hlt
        have hlt := blt_true hlt
        cases h
        have hO := R.setObj (x' := .stringIter s (pos + (Utf8.decode s pos).2)) (o1 := .obj (.stringIter s (pos + (Utf8.decode s pos).2))) hg h1 h2 h3 ⟨b, k, h1, h2, heap_set h3⟩
        refine ⟨ρ, _, _, Ren.le_refl ρ, ?_, VR.plain _ rfl, hO.1, hO.2⟩
        simp [Instr.next, hget, hlt, run_setObj' h3 (fun _ _ _ => by simp)]
      · rename_i hge
        cases h
        have hge : ¬ pos < s.size := fun h => by
          rw [show Nat.blt pos s.size = true from Nat.ble_eq_true_of_le h] at hge; exact hge rfl
        exact EndsV.same R (by simp [Instr.next, hget, hge]) over
    · rename_i x1 x2 x3 hg
      cases h
      obtain ⟨b, k, h1, h2, h3⟩ := R.objs id _ hg
      rw [h1] at hy; cases hy
      have hget := run_getObj (P := P) h3 (fun _ _ _ => by simp)
      exact EndsV.same R (by simp [Instr.next, hget]) over
    · rename_i m since seen last hg
      obtain ⟨b, k, q, h1, h2, h3, h4⟩ := R.objs id _ hg
      rw [h1] at hy; cases hy
      have hget := run_getObj (P := P) h4 (fun _ _ _ => by simp)
      split at h
      · rename_i es clock hgm
        obtain ⟨b2, k2, es', g1, g2, g3, g4⟩ := R.objs m _ hgm
        rw [g1] at h3; cases h3
        have hgetm := run_getObj_map (P := P) g3
        split at h
        · cases h
        · rename_i hc
          have hall : (es'.all fun e => decide (e.born ≥ last)) = es.all (fun e => Nat.ble last e.born) := by
            rw [← Array.all_toList]
            refine EntsR.all (fun e e' he => ?_) g4
            rw [he.2.2]
            cases hb : Nat.ble last e.born with
            | true => simpa using Nat.le_of_ble_eq_true hb
            | false =>
              rw [decide_eq_false_iff_not]
              intro hle
              rw [Nat.ble_eq_true_of_le hle] at hb; cases hb
          have hemp := isEmpty_EntsR g4
          have hc' : ¬ ((!seen.isEmpty && !es'.isEmpty && es'.all (fun e => decide (e.born ≥ last))) = true) := by rw [hemp, hall]; exact hc
          have hleft : EntsR ρ (es.filter fun e => !seen.contains e.born) (es'.filter fun e => !seen.contains e.born).toList := by
            rw [Array.toList_filter]
            exact EntsR.filter (fun e e' he => by rw [he.2.2]) g4
          split at h
          · rename_i hfil
            cases h
            rw [hfil] at hleft
            have hnil : (es'.filter fun e => !seen.contains e.born) = #[] := by
              apply Array.ext'
              exact hleft
            refine EndsV.same R ?_ over
            simp only [Instr.next, Sem.run_bind, hget, Result.andThen_ok, hgetm]
            rw [if_neg hc']
            simp only [hnil]
            simp [Question.forced]
          · rename_i e0 hfil
            split at h
            · rename_i hold
              have hold := blt_true hold
              cases h
              rw [hfil] at hleft
              obtain ⟨e1, r1, he1, hr1, hl1⟩ := hleft
              obtain rfl : r1 = [] := hr1
              have hone : (es'.filter fun e => !seen.contains e.born) = #[e1] := by
                apply Array.ext'
                exact hl1
              have hborn := he1.2.2
              have hlt1 : e1.born < since := by omega
              have hO := R.setObj (x' := .mapIter (some b2) since (seen.push e1.born) clock) (o1 := .obj (.mapIter (some m) since (seen.push e0.born) clock)) hg h1 h2 h4 ⟨b, k, (b2, 0, k2), h1, h2, g1, by rw [hborn]; exact heap_set h4⟩
              refine ⟨ρ, _, .tuple #[.bool true, e1.key, e1.val], Ren.le_refl ρ, ?_, ⟨_, ⟨_, _, rfl, ⟨_, _, he1.1, ⟨_, _, he1.2.1, rfl, rfl⟩, rfl⟩, rfl⟩, rfl⟩, hO.1, hO.2⟩
              simp only [Instr.next, Sem.run_bind, hget, Result.andThen_ok, hgetm]
              rw [if_neg hc']
              have hnl : ¬ since ≤ e1.born := by omega
              simp only [hone]
              simp [hlt1, hnl, Question.forced, run_setObj' h4 (fun _ _ _ => by simp)]
            · cases h
          · cases h
      · cases h
    · cases h
  · cases h
end
end Go.Ex
set_option linter.unusedVariables false
set_option linter.unusedSimpArgs false
namespace Go.Ex
open Go Go.RowKit
section
variable {E : Env} {B : Nat} {w0 : Base} {w : World} {ρ : Ren} {A : AH} {T : TT} {a : Act} {P : Program} {G : Nat}

/-- What the model's answer to an operation stands for. -/
def OpOk (P : Program) (G B : Nat) (w0 : Base) (ρ : Ren) (A : AH) (s : Sem Next) (w : World) : AN × Option AH → Prop
  | (.val v, A1) => okN (orA A A1) → Ends P G B w0 ρ A (orA A A1) s w v
  | (.enter g l, A1) => A1 = none ∧ ∃ us, VRL ρ l us ∧ s.run P w = .ok (.enter g us.toArray) w
  | (.round l args, A1) => A1 = none ∧ ∃ x us, ρ l = some x ∧ VRL ρ args us ∧ s.run P w = (Instr.yield x.1 us.toArray).run P w

theorem OpOk.same {s : Sem Next} {v : Value} (h : Ends P G B w0 ρ A A s w v) : OpOk P G B w0 ρ A s w (.val v, none) := fun _ => h

/-- A value's term, as an operation. -/
theorem Ends.ofV {A' : AH} {s : Sem Value} {v : Value} (h : EndsV P G B w0 ρ A A' s w v) : Ends P G B w0 ρ A A' (do pure (.value (← s))) w v := by
  obtain ⟨ρ', w', u, h1, h2, h3, h4, h5⟩ := h
  exact ⟨ρ', w', _, u, h1, by rw [Sem.run_bind, h2]; rfl, .inl rfl, h3, h4, h5⟩
theorem OpOk.asVO {r : Option (Value × Option AH)} {s : Sem Value} {q : AN × Option AH} (h : Go.Ex.asVO r = some q) (k : ∀ x, r = some x → okN (orA A x.2) → EndsV P G B w0 ρ A (orA A x.2) s w x.1) : OpOk P G B w0 ρ A (do pure (.value (← s))) w q := by
  cases r with
  | none => cases h
  | some x =>
    obtain ⟨v, A1⟩ := x
    cases h
    exact fun hn => Ends.ofV (k _ rfl hn)
theorem OpOk.asV {r : Option Value} {s : Sem Value} {q : AN × Option AH} (h : Go.Ex.asV r = some q) (k : ∀ x, r = some x → EndsV P G B w0 ρ A A s w x) : OpOk P G B w0 ρ A (do pure (.value (← s))) w q := by
  cases r with
  | none => cases h
  | some x => cases h; exact fun hn => Ends.ofV (k _ rfl)
theorem OpOk.asVA {r : Option (Value × AH)} {s : Sem Value} {q : AN × Option AH} (h : Go.Ex.asVA r = some q) (k : ∀ x, r = some x → okN x.2 → EndsV P G B w0 ρ A x.2 s w x.1) : OpOk P G B w0 ρ A (do pure (.value (← s))) w q := by
  cases r with
  | none => cases h
  | some x => obtain ⟨v, A1⟩ := x; cases h; exact fun hn => Ends.ofV (k _ rfl hn)
theorem OpOk.asU {r : Option AH} {s : Sem Unit} {q : AN × Option AH} (h : Go.Ex.asU r = some q) (k : ∀ A', r = some A' → ∃ w', s.run P w = .ok () w' ∧ Rel P G B w0 ρ A' w' ∧ Keep A A') : OpOk P G B w0 ρ A (do s; pure .skip) w q := by
  cases r with
  | none => cases h
  | some A' =>
    cases h
    obtain ⟨w', h1, h2, h3⟩ := k A' rfl
    exact fun hn => Ends.skip (w' := w') (by rw [Sem.run_bind, h1]; rfl) h2 h3
theorem OpOk.asUO {r : Option (Option AH)} {s : Sem Value} {v : Value} {q : AN × Option AH} (h : Go.Ex.asUO r v = some q) (k : ∀ x, r = some x → EndsV P G B w0 ρ A (orA A x) s w v) : OpOk P G B w0 ρ A (do pure (.value (← s))) w q := by
  cases r with
  | none => cases h
  | some x => cases h; exact fun hn => Ends.ofV (k _ rfl)
/-- A value that comes with nothing changed. -/
theorem EndsV.ofRun (R : Rel P G B w0 ρ A w) {s : Sem Value} {v : Value} (h : ∃ u, s.run P w = .ok u w ∧ VR ρ v u) : EndsV P G B w0 ρ A A s w v := by
  obtain ⟨u, h1, h2⟩ := h
  exact EndsV.same R h1 h2

theorem VRL.toArray {l u : List Value} (h : VRL ρ l u) : VRA ρ ⟨l⟩ u.toArray := h
theorem mapR {f g : Operand → Value} : ∀ (l : List Operand), (∀ x ∈ l, VR ρ (f x) (g x)) → VRL ρ (l.map f) (l.map g) := fun l h => VRL.map f g l h

theorem sound_callB (R : Rel P G B w0 ρ A w) {b : Builtin} {ats : Array TypeId} {ty : TypeId} {cs : Array Bool} {args args' : List Value} {q : AN × Option AH} (h : acallB P b ats args A = some q) (ha : VRL ρ args args') :
    OpOk P G B w0 ρ A (builtin b ats ty cs args'.toArray) w q := by
  unfold acallB at h
  split at h
  · exact OpOk.asVO h fun x hx hn => sound_append R hx hn ha
  · exact OpOk.asVO h fun x hx _ => sound_copy R hx ha
  · obtain ⟨x', r, hx, hr, rfl⟩ := ha
    obtain rfl : r = [] := hr
    split at h
    · rename_i hat
      exact OpOk.asV h fun x hx' => sound_len R hat hx' hx
    · cases h
  · rename_i x
    obtain ⟨x', r, hx, hr, rfl⟩ := ha
    obtain rfl : r = [] := hr
    refine OpOk.asV (s := Builtin.cap_ ats ty #[x']) h fun v hv => ?_
    unfold acapB at hv
    split at hv
    · rename_i tt tl base n c hat
      have h0 : ats[0]? = some tt := by cases ats; simp_all
      split at hv
      · rename_i e hu hex
        cases hv
        cases base with
        | none =>
          obtain ⟨_, rfl⟩ := hx
          exact EndsV.same R (by simp [Builtin.cap_, h0, run_underlying hu]) (intV ρ _)
        | some a0 =>
          obtain ⟨a', c', _, hc, rfl⟩ := hx
          obtain rfl := hc.ex hex
          exact EndsV.same R (by simp [Builtin.cap_, h0, run_underlying hu]) (intV ρ _)
      · cases hv
    · cases hv
  · obtain ⟨x', r, hx, hr, rfl⟩ := ha
    obtain rfl : r = [] := hr
    cases h
    obtain ⟨_, rfl⟩ := hx
    exact OpOk.same (Ends.ofV (EndsV.same R (Lib.run_unsafeSliceData_nil w ats ty _ _) rfl))
  · obtain ⟨x', r, hx, hr, rfl⟩ := ha
    obtain rfl : r = [] := hr
    exact OpOk.asV h fun v hv => sound_sliceData R hv hx
  · obtain ⟨x', r, hx, ⟨y', r2, hy, hr, rfl⟩, rfl⟩ := ha
    obtain rfl : r2 = [] := hr
    split at h
    · rename_i h0
      cases hy
      exact OpOk.asVO h fun x hx' _ => sound_unsafeString R h0 hx' hx
    · cases h
  · obtain ⟨x', r, hx, ⟨y', r2, hy, hr, rfl⟩, rfl⟩ := ha
    obtain rfl : r2 = [] := hr
    split at h
    · rename_i hat
      exact OpOk.asUO h fun x hx' => sound_delete R hat hx' hx hy
    · cases h
  · obtain ⟨x', r, hx, hr, rfl⟩ := ha
    obtain rfl : r = [] := hr
    split at h
    · rename_i hat
      exact OpOk.asUO h fun x hx' => sound_clear R hat hx' hx
    · cases h
  · cases h

theorem callFunc_body {g : Nat} {fn : Func} {c : Code} (hE : EnvOk E) (hg : E.P.funcs[g]? = some fn) (hb : fn.body = some c) (args : Array Value) : (callFunc g args).run E.P w = .ok (.enter g args) w := by
  have hname := hE.name g fn hg
  unfold callFunc
  simp only [Sem.run_bind, run_program, Result.andThen_ok, hg, hname, hb, Option.isNone_some]
  rfl

theorem one_of {l u : List Value} {v : Value} (h : VRL ρ [v] u) : ∃ x, u = [x] ∧ VR ρ v x := by
  obtain ⟨x, r, h1, h2, rfl⟩ := h
  obtain rfl : r = [] := h2
  exact ⟨x, rfl, h1⟩

theorem sound_callF (R : Rel E.P E.G B w0 ρ A w) (hE : EnvOk E) {g : Nat} {full us : List Value} {q : AN × Option AH} (h : acallF E g full A = some q) (hv : VRL ρ full us) : OpOk E.P E.G B w0 ρ A (callFunc g us.toArray) w q := by
  unfold acallF at h
  split at h
  · rename_i fn hg
    split at h
    · rename_i c hb
      cases h
      exact ⟨rfl, us, hv, callFunc_body hE hg hb _⟩
    · split at h
      · rename_i hm
        split at h
        · rename_i v
          cases h
          obtain ⟨x, rfl, hx⟩ := one_of (l := []) hv
          exact OpOk.same (Ends.same R (hE.noesc g hm x w) hx)
        · cases h
      · split at h
        · rename_i hm
          split at h
          · rename_i n rt tl hrt
            obtain ⟨x, rfl, hx⟩ := one_of (l := []) hv
            cases hx
            split at h
            · rename_i e hu
              split at h
              · rename_i hc
                simp only [Bool.and_eq_true, decide_eq_true_eq] at hc
                cases h
                intro hn
                obtain ⟨cs, d, h1, h2, h3⟩ := hE.mnz g fn rt e hm hg (by rw [hrt]; rfl) hu n w hc.1 hc.2
                have RD := R.drewTo d
                refine ⟨_, _, _, _, Ren.le_set (R.fresh A.next (Nat.le_refl _)) (w.heap.size, 0, cs.size), h3, .inl rfl, slice_newCap cs.size n.toNat,
                  RD.add _ (.cells cs e (0, 0)) cs.size hn ⟨w.heap.size, cs.size, cs, 0, 0, Ren.set_same _, ⟨heap_push_new _ _, by simp, fun i v hv => by simp at hv, (fun h => by cases h), ?_, ?_⟩⟩, Keep.add A R.small _⟩
                · intro _ m hm'
                  rw [h2] at hm'; cases hm'; simp
                · intro _; exact ⟨R.sz, fun o _ => by simp⟩
              · cases h
            · cases h
          · cases h
        · split at h
          · rename_i hm
            split at h
            · rename_i ty r
              obtain ⟨x, rfl, hx⟩ := one_of (l := []) hv
              obtain ⟨y, hy, rfl⟩ := hx
              obtain ⟨z, hz, rfl⟩ := hy
              split at h
              · rename_i es clock hgr
                cases h
                intro hn
                obtain ⟨b, k, es', h1, h2, h3, h4⟩ := R.objs r _ hgr
                rw [h1] at hz; cases hz
                have hle := Ren.le_set (R.fresh A.next (Nat.le_refl _)) (w.heap.size, 0, 0)
                refine ⟨_, _, _, _, hle, hE.clone g hm ty b es' clock w h3, .inl rfl, ⟨_, ⟨_, Ren.set_same _, rfl⟩, rfl⟩,
                  R.add _ (.map es' clock) 0 hn ⟨w.heap.size, 0, es', Ren.set_same _, R.sz, heap_push_new _ _, h4.mono hle⟩, Keep.add A R.small _⟩
              · cases h
            · cases h
          · cases h
  · cases h

theorem sound_call (R : Rel E.P E.G B w0 ρ A w) (hE : EnvOk E) {o : Oper} {c : Call} (ho : o.op = .call c) (hop : ∀ x ∈ c.operands.toList, VR ρ (evT T x) (a.eval x)) {q : AN × Option AH} (h : acall E c T A = some q) :
    OpOk E.P E.G B w0 ρ A (execOp a.eval o) w q := by
  have hargs : VRL ρ (c.args.toList.map (evT T)) (c.args.toList.map a.eval) := mapR _ fun x hx => hop x (by
    unfold Call.operands
    cases hc : c.callee <;> simp_all)
  have harr : c.args.map a.eval = (c.args.toList.map a.eval).toArray := by
    apply Array.ext'; simp
  unfold acall at h
  split at h
  · rename_i b hb
    have hx : execOp a.eval o = builtin b c.argTypes o.type (c.args.map fun | .const _ => true | _ => false) (c.args.toList.map a.eval).toArray := by
      rw [← harr]
      unfold execOp
      simp only [ho, resolve, hb]
      rfl
    rw [hx]
    exact sound_callB R h hargs
  · rename_i f hf
    have hfo := hop f (by unfold Call.operands; simp [hf])
    unfold acallV at h
    split at h
    · rename_i g first captured hfv
      rw [hfv] at hfo
      obtain ⟨fn', f', c', h1, h2, h3, he⟩ := hfo
      obtain rfl : fn' = .func g := h1
      have hx : execOp a.eval o = callFunc g (f'.toList ++ c.args.toList.map a.eval ++ c'.toList).toArray := by
        unfold execOp
        simp only [ho, resolve, hf, he, Deferred.ofValue]
        show invoke (.fn (.func g) c') (f' ++ c.args.map a.eval) = _
        simp only [invoke]
        congr 1
        apply Array.ext'; simp
      rw [hx]
      exact sound_callF R hE h ((VRL.append (VRL.append h2 hargs) h3))
    · rename_i l first captured hfv
      rw [hfv] at hfo
      obtain ⟨fn', f', c', ⟨x, hxx, h1⟩, h2, h3, he⟩ := hfo
      cases h
      refine ⟨rfl, x, f'.toList ++ c.args.toList.map a.eval, hxx, VRL.append h2 hargs, ?_⟩
      have hx : execOp a.eval o = Instr.yield x.1 (f'.toList ++ c.args.toList.map a.eval).toArray := by
        unfold execOp
        simp only [ho, resolve, hf, he, Deferred.ofValue, h1]
        show invoke (.fn (.yield x.1) c') (f' ++ c.args.map a.eval) = _
        simp only [invoke]
        congr 1
        apply Array.ext'; simp
      rw [hx]
    · cases h
  · cases h

theorem eq_shapes {t : TypeId} {x y x' y' : Value} {b : Bool} (h : aeq P t x y = some b) (hx : VR ρ x x') (hy : VR ρ y y') :
    (∀ (op : BinOp) (p q : Operand), eqGuard op t p q x' y' = Sem.pure ()) ∧ binOp .eql t x' y' = (do pure (.bool (← Op.equal t x' y'))) ∧ binOp .neq t x' y' = (do pure (.bool (!(← Op.equal t x' y')))) := by
  have fin : ∀ {u v : Value}, (∀ op p q, eqGuard op t p q u v = Sem.pure ()) → binOp .eql t u v = (do pure (.bool (← Op.equal t u v))) → binOp .neq t u v = (do pure (.bool (!(← Op.equal t u v)))) →
    (∀ (op : BinOp) (p q : Operand), eqGuard op t p q u v = Sem.pure ()) ∧ binOp .eql t u v = (do pure (.bool (← Op.equal t u v))) ∧ binOp .neq t u v = (do pure (.bool (!(← Op.equal t u v)))) := fun h1 h2 h3 => ⟨h1, h2, h3⟩
  have g : ∀ {u v : Value}, (∀ op p q, eqGuard op t p q u v = (if !(op matches .eql | .neq) then Sem.pure () else Sem.pure ())) → (∀ (op : BinOp) (p q : Operand), eqGuard op t p q u v = Sem.pure ()) := fun h op p q => by rw [h]; split <;> rfl
  unfold aeq at h
  split at h
  · rename_i e b0 hu
    cases hx
    cases b0 with
    | none => cases hy; exact fin (g fun op p q => rfl) rfl rfl
    | some b0 => obtain ⟨b', _, rfl⟩ := hy; exact fin (g fun op p q => rfl) rfl rfl
  · obtain ⟨b', _, rfl⟩ := hx; cases hy; exact fin (g fun op p q => rfl) rfl rfl
  · obtain ⟨b', _, rfl⟩ := hx; obtain ⟨c', _, rfl⟩ := hy; exact fin (g fun op p q => rfl) rfl rfl
  · rename_i e n c b0 n' c' hu
    obtain ⟨_, rfl⟩ := hx
    cases b0 with
    | none => obtain ⟨_, rfl⟩ := hy; exact fin (g fun op p q => rfl) rfl rfl
    | some b0 => obtain ⟨b', d', _, _, rfl⟩ := hy; exact fin (g fun op p q => rfl) rfl rfl
  · obtain ⟨b', d', _, _, rfl⟩ := hx; obtain ⟨_, rfl⟩ := hy; exact fin (g fun op p q => rfl) rfl rfl
  · rename_i k e b0 hu
    cases hx
    cases b0 with
    | none => cases hy; exact fin (g fun op p q => rfl) rfl rfl
    | some b0 => obtain ⟨b', _, rfl⟩ := hy; exact fin (g fun op p q => rfl) rfl rfl
  · obtain ⟨b', _, rfl⟩ := hx; cases hy; exact fin (g fun op p q => rfl) rfl rfl
  · cases hx; obtain ⟨f', a', c', _, _, _, rfl⟩ := hy; exact fin (g fun op p q => rfl) rfl rfl
  · cases hy; obtain ⟨f', a', c', _, _, _, rfl⟩ := hx; exact fin (g fun op p q => rfl) rfl rfl
  · cases hx; obtain ⟨v', _, rfl⟩ := hy; exact fin (g fun op p q => rfl) rfl rfl
  · cases hy; obtain ⟨v', _, rfl⟩ := hx; exact fin (g fun op p q => rfl) rfl rfl
  · cases h
end
end Go.Ex
set_option linter.unusedVariables false
set_option linter.unusedSimpArgs false
namespace Go.Ex
open Go Go.RowKit
section
variable {E : Env} {B : Nat} {w0 : Base} {w : World} {ρ : Ren} {A : AH} {T : TT} {a : Act} {P : Program} {G : Nat}

theorem partsR {f g : Operand → Value} : ∀ (l : List (Nat × Operand)), (∀ x ∈ l, VR ρ (f x.2) (g x.2)) → PartsR ρ (l.map fun p => (p.1, f p.2)) (l.map fun p => (p.1, g p.2))
  | [], _ => .nil
  | p :: r, h => .cons (h p (by simp)) (partsR r fun x hx => h x (by simp [hx]))
theorem optR {f g : Operand → Value} (x : Option Operand) (h : ∀ y, x = some y → VR ρ (f y) (g y)) : OptR ρ (x.map f) (x.map g) := by
  cases x with
  | none => trivial
  | some y => exact h y rfl

theorem sound_spec (R : Rel E.P E.G B w0 ρ A w) (hE : EnvOk E) {o : Oper} (hv : ∀ x, x ∈ o.op.operands.toList → VR ρ (evT T x) (a.eval x)) {q : AN × Option AH} (h : aspec E o T A = some q) :
    OpOk E.P E.G B w0 ρ A (execOp a.eval o) w q := by
  unfold aspec at h
  split at h
  · rename_i x ho
    cases h
    exact OpOk.same (Ends.same R (by simp [execOp, ho]) (hv x (by simp [ho, Op.operands])))
  · rename_i x ho
    cases h
    exact OpOk.same (Ends.same R (by simp [execOp, ho]) (hv x (by simp [ho, Op.operands])))
  · rename_i c x y ho
    have hc := hv c (by simp [ho, Op.operands])
    split at h
    · rename_i hb
      cases h
      rw [hb] at hc
      have hc : a.eval c = .bool true := hc
      exact OpOk.same (Ends.same R (u := a.eval x) (by simp [execOp, ho, hc, asBool]) (hv x (by simp [ho, Op.operands])))
    · rename_i hb
      cases h
      rw [hb] at hc
      have hc : a.eval c = .bool false := hc
      exact OpOk.same (Ends.same R (u := a.eval y) (by simp [execOp, ho, hc, asBool]) (hv y (by simp [ho, Op.operands])))
    · cases h
  · rename_i e ho
    split at h
    · rename_i z hz
      split at h
      · cases h
        exact fun hn => sound_alloc R ho hz hn _
      · cases h
    · cases h
  · rename_i e x ho
    split at h
    · cases h
      exact fun hn => sound_box R ho (hv x (by simp [ho, Op.operands])) hn
    · cases h
  · rename_i ty parts ho
    have e1 : execOp a.eval o = (do pure (.value (← Instr.build ty (parts.toList.map fun p => (p.1, a.eval p.2)).toArray))) := by
      unfold execOp; simp only [ho]
      have : (parts.map fun x => (x.1, a.eval x.2)) = (parts.toList.map fun p => (p.1, a.eval p.2)).toArray := by apply Array.ext'; simp
      rw [← this]
    rw [e1]
    refine OpOk.asV h fun v hvv => EndsV.ofRun R (sound_build hvv (partsR _ fun x hx => hv x.2 ?_))
    rw [ho]; simp only [Op.operands]
    exact List.mem_map.2 ⟨x, hx, rfl⟩
  · rename_i ty n parts ho
    have e1 : execOp a.eval o = (do pure (.value (← Instr.buildSlice ty n (parts.toList.map fun p => (p.1, a.eval p.2)).toArray))) := by
      unfold execOp; simp only [ho]
      have : (parts.map fun x => (x.1, a.eval x.2)) = (parts.toList.map fun p => (p.1, a.eval p.2)).toArray := by apply Array.ext'; simp
      rw [← this]
    rw [e1]
    refine OpOk.asVA h fun x hx hn => sound_buildSlice R hx hn (partsR _ fun x hx => hv x.2 ?_)
    rw [ho]; simp only [Op.operands]
    exact List.mem_map.2 ⟨x, hx, rfl⟩
  · rename_i ty x ho
    have e1 : execOp a.eval o = (do pure (.value (← Instr.loadAt ty (a.eval x)))) := by unfold execOp; simp only [ho]
    rw [e1]
    exact OpOk.asV h fun v hvv => EndsV.ofRun R (aload_run R hvv (hv x (by simp [ho, Op.operands])))
  · rename_i ty x v ho
    have e1 : execOp a.eval o = (do Instr.storeAt ty (a.eval x) (a.eval v); pure .skip) := by unfold execOp; simp only [ho]
    rw [e1]
    exact OpOk.asU h fun A' hA => astore_run R hA (hv x (by simp [ho, Op.operands])) (hv v (by simp [ho, Op.operands]))
  · rename_i x ho
    have hx := hv x (by simp [ho, Op.operands])
    split at h
    · rename_i a0 he
      cases h
      rw [he] at hx
      have hx0 := hx
      obtain ⟨a', _, hx⟩ := hx
      refine OpOk.same (Ends.same R (u := a.eval x) ?_ hx0)
      simp [execOp, ho, hx]
    · rename_i f0 p c he
      cases h
      rw [he] at hx
      have hx0 := hx
      obtain ⟨fn', f', c', h1, _, _, hx⟩ := hx
      obtain rfl : fn' = .func f0 := h1
      refine OpOk.same (Ends.same R (u := a.eval x) ?_ hx0)
      simp [execOp, ho, hx]
    · rename_i f0 p c he
      cases h
      rw [he] at hx
      have hx0 := hx
      obtain ⟨fn', f', c', ⟨y, _, h1⟩, _, _, hx⟩ := hx
      subst h1
      refine OpOk.same (Ends.same R (u := a.eval x) ?_ hx0)
      simp [execOp, ho, hx]
    · rename_i t0 u0 he
      cases h
      rw [he] at hx
      have hx0 := hx
      obtain ⟨v', _, hx⟩ := hx
      refine OpOk.same (Ends.same R (u := a.eval x) ?_ hx0)
      simp [execOp, ho, hx]
    · cases h
  · rename_i op ty x y s ho
    have hx := hv x (by simp [ho, Op.operands])
    have hy := hv y (by simp [ho, Op.operands])
    split at h
    · split at h
      · rename_i b hb
        cases h
        obtain ⟨h1, h2, h3⟩ := eq_shapes hb hx hy
        refine OpOk.same (Ends.same R (u := .bool b) ?_ rfl)
        simp [execOp, ho, h1, h2, sound_eq R hb hx hy]
      · cases h
    · split at h
      · rename_i b hb
        cases h
        obtain ⟨h1, h2, h3⟩ := eq_shapes hb hx hy
        refine OpOk.same (Ends.same R (u := .bool !b) ?_ rfl)
        simp [execOp, ho, h1, h3, sound_eq R hb hx hy]
      · cases h
    · cases h
  · rename_i s d x ho
    have e1 : execOp a.eval o = (do pure (.value (← convert s d (a.eval x)))) := by unfold execOp; simp only [ho]
    rw [e1]
    exact OpOk.asVO h fun r hr hn => sound_convert R hr hn (hv x (by simp [ho, Op.operands]))
  · rename_i ty x ho
    have hx := hv x (by simp [ho, Op.operands])
    split at h
    · cases h
    · rename_i d hu hne
      cases h
      refine OpOk.same (Ends.same R (u := .iface ty (a.eval x)) ?_ ⟨_, hx, rfl⟩)
      cases d <;> first | exact (hne _ rfl).elim | exact (hu _ rfl).elim | simp_all [execOp, Instr.makeInterface, underlying]
    · cases h
  · rename_i f first captured ho
    cases h
    have h1 := mapR (ρ := ρ) (f := evT T) (g := a.eval) first.toList (fun x hx => hv x (by rw [ho]; simp [Op.operands]; left; simpa using hx))
    have h2 := mapR (ρ := ρ) (f := evT T) (g := a.eval) captured.toList (fun x hx => hv x (by rw [ho]; simp [Op.operands]; right; simpa using hx))
    refine OpOk.same (Ends.same R (u := .func (.func f) (first.map a.eval) (captured.map a.eval)) (by simp [execOp, ho, Instr.makeFunc]) ⟨_, _, _, rfl, ?_, ?_, rfl⟩)
    · show VRL ρ _ _; rw [Array.toList_map]; exact h1
    · show VRL ρ _ _; rw [Array.toList_map]; exact h2
  · rename_i ty ho
    cases h
    intro hn
    have hle := Ren.le_set (R.fresh A.next (Nat.le_refl _)) (w.heap.size, 0, 0)
    refine ⟨_, _, _, _, hle, ?_, .inl rfl, ⟨_, Ren.set_same _, rfl⟩, R.add _ (.map #[] 0) 0 hn ⟨w.heap.size, 0, #[], Ren.set_same _, R.sz, heap_push_new _ _, rfl⟩, Keep.add A R.small _⟩
    simp [execOp, ho, Instr.makeMap]
  · rename_i ty l c ho
    have e1 : execOp a.eval o = (do pure (.value (← Instr.makeSlice ty (a.eval l) (a.eval c)))) := by unfold execOp; simp only [ho]
    rw [e1]
    exact OpOk.asVA h fun x hx hn => sound_makeSlice R hx hn (hv l (by simp [ho, Op.operands])) (hv c (by simp [ho, Op.operands]))
  · rename_i ty x lo hi mx ho
    have e1 : execOp a.eval o = (do pure (.value (← Instr.sliceAt ty (a.eval x) (lo.map a.eval) (hi.map a.eval) (mx.map a.eval)))) := by unfold execOp; simp only [ho]
    rw [e1]
    refine OpOk.asVO h fun r hr hn => sound_slice R hr hn (hv x (by simp [ho, Op.operands])) (optR lo ?_) (optR hi ?_) (optR mx ?_) <;>
      (intro y hy; refine hv y ?_; rw [ho]; simp [Op.operands, hy])
  · rename_i s x f ho
    have e1 : execOp a.eval o = (do pure (.value (← Instr.fieldAt s (a.eval x) f))) := by unfold execOp; simp only [ho]
    rw [e1]
    exact OpOk.asV h fun v hvv => EndsV.ofRun R (sound_fa R hvv (hv x (by simp [ho, Op.operands])))
  · rename_i s x f ho
    have e1 : execOp a.eval o = (do pure (.value (← Instr.field s (a.eval x) f))) := by unfold execOp; simp only [ho]
    rw [e1]
    exact OpOk.asV h fun v hvv => EndsV.ofRun R (sound_field hvv (hv x (by simp [ho, Op.operands])))
  · rename_i ty x i ho
    have e1 : execOp a.eval o = (do pure (.value (← Instr.indexAt ty (a.eval x) (a.eval i)))) := by unfold execOp; simp only [ho]
    rw [e1]
    exact OpOk.asV h fun v hvv => EndsV.ofRun R (sound_ia R hvv (hv x (by simp [ho, Op.operands])) (hv i (by simp [ho, Op.operands])))
  · rename_i ty x i ho
    have e1 : execOp a.eval o = (do pure (.value (← Instr.index ty (a.eval x) (a.eval i)))) := by unfold execOp; simp only [ho]
    rw [e1]
    exact OpOk.asV h fun v hvv => EndsV.ofRun R (sound_index hvv (hv x (by simp [ho, Op.operands])) (hv i (by simp [ho, Op.operands])))
  · rename_i ty x k ok ho
    have e1 : execOp a.eval o = (do pure (.value (← Instr.lookup ty (a.eval x) (a.eval k) ok))) := by unfold execOp; simp only [ho]
    rw [e1]
    exact OpOk.asV h fun v hvv => sound_lookup R hvv (hv x (by simp [ho, Op.operands])) (hv k (by simp [ho, Op.operands]))
  · rename_i ty m k v ho
    have e1 : execOp a.eval o = (do Instr.mapUpdate ty (a.eval m) (a.eval k) (a.eval v); pure .skip) := by unfold execOp; simp only [ho]
    rw [e1]
    exact OpOk.asU h fun A' hA => sound_mapUpdate R hA (hv m (by simp [ho, Op.operands])) (hv k (by simp [ho, Op.operands])) (hv v (by simp [ho, Op.operands]))
  · rename_i ty m k v ho
    have e1 : execOp a.eval o = (do Instr.mapUpdate ty (a.eval m) (a.eval k) (a.eval v); pure .skip) := by unfold execOp; simp only [ho]
    rw [e1]
    exact OpOk.asU h fun A' hA => sound_mapUpdate R hA (hv m (by simp [ho, Op.operands])) (hv k (by simp [ho, Op.operands])) (hv v (by simp [ho, Op.operands]))
  · rename_i ty x ho
    have e1 : execOp a.eval o = (do pure (.value (← Instr.range ty (a.eval x)))) := by unfold execOp; simp only [ho]
    rw [e1]
    exact OpOk.asVA h fun r hr hn => sound_range R hr hn (hv x (by simp [ho, Op.operands]))
  · rename_i it s ho
    have e1 : execOp a.eval o = (do pure (.value (← Instr.next (a.eval it) s o.type))) := by unfold execOp; simp only [ho]
    rw [e1]
    exact OpOk.asVO h fun r hr hn => sound_next R hr (hv it (by simp [ho, Op.operands]))
  · rename_i x xt ty ok ho
    have e1 : execOp a.eval o = (do pure (.value (← Instr.typeAssert (a.eval x) xt ty ok))) := by unfold execOp; simp only [ho]
    rw [e1]
    exact OpOk.asV h fun v hvv => sound_assert R hvv (hv x (by simp [ho, Op.operands]))
  · rename_i x i ho
    have hx := hv x (by simp [ho, Op.operands])
    have e1 : execOp a.eval o = (do pure (.value (← Instr.extract (a.eval x) i))) := by unfold execOp; simp only [ho]
    rw [e1]
    split at h
    · rename_i vs he
      rw [he] at hx
      obtain ⟨cs, hc, hx⟩ := hx
      rw [hx]
      refine OpOk.asV h fun v hvv => ?_
      obtain ⟨u, hu, hr⟩ := VRL.get hc i v hvv
      have hu' : cs[i]? = some u := by rw [← Array.getElem?_toList]; exact hu
      exact EndsV.same R (by simp [Instr.extract, hu']) hr
    · cases h
  · rename_i c ho
    exact sound_call R hE ho (fun x hx => hv x (by rw [ho]; exact hx)) h
  · cases h

theorem plainA_VRL {l : Array Value} (h : plainA l = true) : VRL ρ l.toList l.toList := by
  cases l; exact VRL.plain _ h

theorem sound_rest (R : Rel E.P E.G B w0 ρ A w) (hE : EnvOk E) {o : Oper} (hop : ∀ x ∈ o.op.operands.toList, okX E x = true → VR ρ (evT T x) (a.eval x)) {q : AN × Option AH} (h : arest E o T A = some q) :
    OpOk E.P E.G B w0 ρ A (execOp a.eval o) w q := by
  unfold arest at h
  split at h
  · cases h
  · rename_i hall
    simp only [Bool.not_eq_true, Bool.not_eq_false'] at hall
    have hall : ∀ x ∈ o.op.operands.toList, okX E x = true := List.all_eq_true.1 hall
    split at h
    · rename_i hp
      simp only [Bool.and_eq_true] at hp
      obtain ⟨hp1, hp2⟩ := hp
      split at h
      · rename_i r hr
        cases h
        have hcong : execOp a.eval o = execOp (evT T) o := by
          refine execOp_congr o ?_ ?_
          · intro cs b he
            unfold isPlainOp at hp1
            rw [he] at hp1; cases hp1
          · intro x hx
            have hx : x ∈ o.op.operands.toList := by simpa using hx
            exact VR.of_plain (List.all_eq_true.1 hp2 x hx) (hop x hx (hall x hx))
        rw [hcong]
        unfold asPlain at hr
        split at hr
        · rename_i v hv
          split at hr
          · rename_i hpv
            cases hr
            exact OpOk.same (Ends.same R (pev_run _ _ hv w) (VR.plain v hpv))
          · cases hr
        · rename_i hv
          cases hr
          exact OpOk.same (Ends.skip (pev_run _ _ hv w) R (Keep.refl A))
        · rename_i f args hv
          split at hr
          · rename_i hpa
            cases hr
            exact ⟨rfl, args.toList, plainA_VRL hpa, pev_run _ _ hv w⟩
          · cases hr
        · cases hr
      · exact sound_spec R hE (fun x hx => hop x hx (hall x hx)) h
    · exact sound_spec R hE (fun x hx => hop x hx (hall x hx)) h
end
end Go.Ex
set_option linter.unusedVariables false
set_option linter.unusedSimpArgs false
namespace Go.Ex
open Go Go.RowKit
section
variable {E : Env} {B : Nat} {w0 : Base} {w : World} {ρ : Ren} {A : AH} {T : TT} {a : Act} {P : Program} {G : Nat}

theorem evO_V {o : Oper} (hop : ∀ x ∈ o.op.operands.toList, okX E x = true → VR ρ (evT T x) (a.eval x)) {x : Operand} (hm : x ∈ o.op.operands.toList) {v : Value} (h : evO E T x = some v) : VR ρ v (a.eval x) := by
  obtain ⟨h1, rfl⟩ := evO_spec h
  exact hop x hm h1
theorem evL_V {o : Oper} (hop : ∀ x ∈ o.op.operands.toList, okX E x = true → VR ρ (evT T x) (a.eval x)) : ∀ {xs : List Operand} {l : List Value}, (∀ x ∈ xs, x ∈ o.op.operands.toList) → evL E T xs = some l → VRL ρ l (xs.map a.eval)
  | [], l, _, h => by cases h; rfl
  | x :: r, l, hm, h => by
    simp only [evL] at h
    split at h
    · rename_i v hv
      split at h
      · rename_i l' hl
        cases h
        exact ⟨_, _, evO_V hop (hm x (by simp)) hv, evL_V hop (fun y hy => hm y (by simp [hy])) hl, rfl⟩
      · cases h
    · cases h

theorem sound_bin (R : Rel E.P E.G B w0 ρ A w) (hE : EnvOk E) {o : Oper} (hop : ∀ x ∈ o.op.operands.toList, okX E x = true → VR ρ (evT T x) (a.eval x)) {op : BinOp} {ty : TypeId} {x y : Operand} {s : Option Nat} (ho : ∃ sp, o.op = .binOp op ty x y sp) {q : AN × Option AH} (h : oBin E o T A op x y = some q) :
    OpOk E.P E.G B w0 ρ A (execOp a.eval o) w q := by
  unfold oBin at h
  split at h
  · rename_i j m hx
    split at h
    · rename_i k n hy
      obtain ⟨sp, ho⟩ := ho
      split at h
      · rename_i hjk
        obtain rfl : j = k := of_decide_eq_true hjk
        split at h
        · rename_i r hr
          cases h
          unfold oBin2 at hr
          split at hr
          · rename_i v hv
            cases hr
            have hx' : a.eval x = .int j m := evO_V hop (by simp [ho, Op.operands]) hx
            have hy' : a.eval y = .int j n := evO_V hop (by simp [ho, Op.operands]) hy
            obtain ⟨h1, h2⟩ := intBin_run (P := E.P) (w := w) hv ty
            exact OpOk.same (Ends.same R (by simp [execOp, ho, hx', hy', eqGuard_int, h1]) (VR.plain v h2))
          · cases hr
        · exact sound_rest R hE hop h
      · exact sound_rest R hE hop h
    · exact sound_rest R hE hop h
  · exact sound_rest R hE hop h

theorem sound_op (R : Rel E.P E.G B w0 ρ A w) (hE : EnvOk E) {o : Oper} (hop0 : ∀ x ∈ o.op.operands.toList, okX E x = true → VR ρ (evT T x) (a.eval x)) {q : AN × Option AH} (h : aop E o T A = some q) :
    OpOk E.P E.G B w0 ρ A (execOp a.eval o) w q := by
  unfold aop at h
  split at h
  · rename_i x hc
    unfold oMv at h
    split at h
    · rename_i v hv
      cases h
      rcases cls_mv hc with e | e <;> exact OpOk.same (Ends.same R (u := a.eval x) (by simp [execOp, e]) (evO_V hop0 (by simp [e, Op.operands]) hv))
    · cases h
  · rename_i t x hc
    have ho : o.op = .load t x := by
      cases hop : o.op with
      | unOp u t y => rw [hop] at hc; cases u <;> simp [cls] at hc
      | load t' x' => rw [hop] at hc; simp [cls] at hc; rw [hc.1, hc.2]
      | _ => rw [hop] at hc; simp [cls] at hc
    unfold oLoad at h
    split at h
    · rename_i p hp
      split at h
      · rename_i v hv
        cases h
        obtain ⟨u, hu, hr⟩ := aload_run R hv (evO_V hop0 (by simp [ho, Op.operands]) hp)
        exact OpOk.same (Ends.same R (by simp [execOp, ho, hu]) hr)
      · cases h
    · cases h
  · rename_i op x y hc
    cases hop : o.op with
    | unOp u t y => rw [hop] at hc; cases u <;> simp [cls] at hc
    | binOp op' ty x' y' s => rw [hop] at hc; simp [cls] at hc; obtain ⟨rfl, rfl, rfl⟩ := hc; exact sound_bin (s := none) R hE hop0 ⟨_, hop⟩ h
    | _ => rw [hop] at hc; simp [cls] at hc
  · rename_i c hc
    have ho : o.op = .call c := by
      cases hop : o.op with
      | unOp u t y => rw [hop] at hc; cases u <;> simp [cls] at hc
      | call c' => rw [hop] at hc; simp [cls] at hc; rw [hc]
      | _ => rw [hop] at hc; simp [cls] at hc
    unfold oCall at h
    split at h
    · rename_i g hg
      unfold oCallF at h
      split at h
      · rename_i fn hfn
        split at h
        · rename_i body hb
          split at h
          · rename_i l hl
            cases h
            refine ⟨rfl, _, evL_V hop0 (fun x hx => by rw [ho]; unfold Op.operands Call.operands; simp [hx]) hl, ?_⟩
            have hx : execOp a.eval o = callFunc g (c.args.map a.eval ++ #[]) := by
              unfold execOp
              simp only [ho, resolve, hg, Act.eval, Deferred.ofValue]
              show invoke (.fn (.func g) #[]) (#[] ++ c.args.map a.eval) = _
              simp only [invoke, Array.empty_append]
            rw [hx, callFunc_body hE hfn hb]
            congr 2
            apply Array.ext'; simp
          · cases h
        · exact sound_rest R hE hop0 h
      · cases h
    · exact sound_rest R hE hop0 h
  · rename_i s x f hc
    have ho : o.op = .fieldAddr s x f := by
      cases hop : o.op with
      | unOp u t y => rw [hop] at hc; cases u <;> simp [cls] at hc
      | fieldAddr s' x' f' => rw [hop] at hc; simp [cls] at hc; obtain ⟨rfl, rfl, rfl⟩ := hc; rfl
      | _ => rw [hop] at hc; simp [cls] at hc
    unfold oFa at h
    split at h
    · rename_i p hp
      have e1 : execOp a.eval o = (do pure (.value (← Instr.fieldAt s (a.eval x) f))) := by unfold execOp; simp only [ho]
      rw [e1]
      exact OpOk.asV h fun v hvv => EndsV.ofRun R (sound_fa R hvv (evO_V hop0 (by simp [ho, Op.operands]) hp))
    · cases h
  · rename_i c x y hc
    have ho : o.op = .pick c x y := by
      cases hop : o.op with
      | unOp u t y => rw [hop] at hc; cases u <;> simp [cls] at hc
      | pick c' x' y' => rw [hop] at hc; simp [cls] at hc; obtain ⟨rfl, rfl, rfl⟩ := hc; rfl
      | _ => rw [hop] at hc; simp [cls] at hc
    have go : ∀ {z : Operand} {b : Bool}, z ∈ o.op.operands.toList → (oMv E T z = some q) → a.eval c = .bool b → (a.eval (if b then x else y) = a.eval z) → OpOk E.P E.G B w0 ρ A (execOp a.eval o) w q := by
      intro z b hm hz hcb hsel
      unfold oMv at hz
      split at hz
      · rename_i v hv
        cases hz
        refine OpOk.same (Ends.same R (u := a.eval z) ?_ (evO_V hop0 hm hv))
        rw [← hsel]
        cases b <;> simp [execOp, ho, hcb, asBool]
      · cases hz
    unfold oPick at h
    split at h
    · rename_i hb
      exact go (b := true) (by simp [ho, Op.operands]) h (evO_V hop0 (by simp [ho, Op.operands]) hb) rfl
    · rename_i hb
      exact go (b := false) (by simp [ho, Op.operands]) h (evO_V hop0 (by simp [ho, Op.operands]) hb) rfl
    · cases h
  · rename_i x hc
    have ho : o.op = .nilCheck x := by
      cases hop : o.op with
      | unOp u t y => rw [hop] at hc; cases u <;> simp [cls] at hc
      | nilCheck x' => rw [hop] at hc; simp [cls] at hc; rw [hc]
      | _ => rw [hop] at hc; simp [cls] at hc
    unfold oNc at h
    split at h
    · rename_i a0 hx
      cases h
      have hx' := evO_V hop0 (by simp [ho, Op.operands]) hx
      have hx0 := hx'
      obtain ⟨a', _, hx'⟩ := hx'
      exact OpOk.same (Ends.same R (u := a.eval x) (by simp [execOp, ho, hx']) hx0)
    · exact sound_rest R hE hop0 h
    · cases h
  · rename_i t x v hc
    have ho : o.op = .store t x v := by
      cases hop : o.op with
      | unOp u t y => rw [hop] at hc; cases u <;> simp [cls] at hc
      | store t' x' v' => rw [hop] at hc; simp [cls] at hc; obtain ⟨rfl, rfl, rfl⟩ := hc; rfl
      | _ => rw [hop] at hc; simp [cls] at hc
    unfold oStore at h
    split at h
    · rename_i p hp
      split at h
      · rename_i u hu
        have e1 : execOp a.eval o = (do Instr.storeAt t (a.eval x) (a.eval v); pure .skip) := by unfold execOp; simp only [ho]
        rw [e1]
        exact OpOk.asU h fun A' hA => astore_run R hA (evO_V hop0 (by simp [ho, Op.operands]) hp) (evO_V hop0 (by simp [ho, Op.operands]) hu)
      · cases h
    · cases h
  · rename_i x i hc
    have ho : o.op = .extract x i := by
      cases hop : o.op with
      | unOp u t y => rw [hop] at hc; cases u <;> simp [cls] at hc
      | extract x' i' => rw [hop] at hc; simp [cls] at hc; obtain ⟨rfl, rfl⟩ := hc; rfl
      | _ => rw [hop] at hc; simp [cls] at hc
    unfold oExt at h
    split at h
    · rename_i vs hx
      have hx' := evO_V hop0 (by simp [ho, Op.operands]) hx
      obtain ⟨cs, hcs, hx'⟩ := hx'
      have e1 : execOp a.eval o = (do pure (.value (← Instr.extract (.tuple cs) i))) := by unfold execOp; simp only [ho, hx']
      rw [e1]
      refine OpOk.asV h fun v hvv => ?_
      obtain ⟨u, hu, hr⟩ := VRL.get hcs i v hvv
      have hu' : cs[i]? = some u := by rw [← Array.getElem?_toList]; exact hu
      exact EndsV.same R (by simp [Instr.extract, hu']) hr
    · cases h
  · rename_i t x i hc
    have ho : o.op = .indexAddr t x i := by
      cases hop : o.op with
      | unOp u t y => rw [hop] at hc; cases u <;> simp [cls] at hc
      | indexAddr t' x' i' => rw [hop] at hc; simp [cls] at hc; obtain ⟨rfl, rfl, rfl⟩ := hc; rfl
      | _ => rw [hop] at hc; simp [cls] at hc
    unfold oIa at h
    split at h
    · rename_i p hp
      split at h
      · rename_i u hu
        have e1 : execOp a.eval o = (do pure (.value (← Instr.indexAt t (a.eval x) (a.eval i)))) := by unfold execOp; simp only [ho]
        rw [e1]
        exact OpOk.asV h fun v hvv => EndsV.ofRun R (sound_ia R hvv (evO_V hop0 (by simp [ho, Op.operands]) hp) (evO_V hop0 (by simp [ho, Op.operands]) hu))
      · cases h
    · cases h
  · rename_i x hc
    have ho : ∃ ty, o.op = .unOp .not ty x := by
      cases hop : o.op with
      | unOp u t y => rw [hop] at hc; cases u <;> simp [cls] at hc; subst hc; exact ⟨t, rfl⟩
      | _ => rw [hop] at hc; simp [cls] at hc
    obtain ⟨ty, ho⟩ := ho
    unfold oNot at h
    split at h
    · rename_i hx
      cases h
      have hx' : a.eval x = .bool true := evO_V hop0 (by simp [ho, Op.operands]) hx
      exact OpOk.same (Ends.same R (u := .bool false) (by simp [execOp, ho, hx', Op.unary]) rfl)
    · rename_i hx
      cases h
      have hx' : a.eval x = .bool false := evO_V hop0 (by simp [ho, Op.operands]) hx
      exact OpOk.same (Ends.same R (u := .bool true) (by simp [execOp, ho, hx', Op.unary]) rfl)
    · cases h
  · exact sound_rest R hE hop0 h
end
end Go.Ex
set_option linter.unusedVariables false
set_option linter.unusedSimpArgs false
namespace Go.Ex
open Go Go.RowKit
section
variable {E : Env} {B : Nat} {w0 : Base} {w w' : World} {ρ ρ' : Ren} {A A' : AH} {T T' : TT} {a : Act} {P : Program} {G : Nat}

/-! ### Back to the elder names -/
theorem EntsR.func : ∀ {l : List AEnt} {x y : List MapEntry}, EntsR ρ l x → EntsR ρ l y → x = y
  | [], x, y, h, k => by
    obtain rfl : x = [] := h
    obtain rfl : y = [] := k
    rfl
  | e :: r, _, _, ⟨e1, r1, ⟨h1, h2, h3⟩, h4, rfl⟩, ⟨e2, r2, ⟨k1, k2, k3⟩, k4, rfl⟩ => by
    have := EntsR.func h4 k4
    cases e1; cases e2
    simp only at *
    rw [VR.func _ _ _ h1 k1, VR.func _ _ _ h2 k2, h3, k3, this]
theorem TTR.func {x y : Array Value} (h : TTR ρ T x) (k : TTR ρ T y) : x = y := by
  apply Array.ext
  · rw [h.1, k.1]
  · intro i h1 h2
    have hi : i < T.n := by rw [← h.1]; exact h1
    obtain ⟨u, hu, hr⟩ := h.2 i hi
    obtain ⟨v, hv, kr⟩ := k.2 i hi
    rw [Array.getElem?_eq_getElem h1] at hu
    rw [Array.getElem?_eq_getElem h2] at hv
    cases hu; cases hv
    exact VR.func _ _ _ hr kr

theorem HasObj.back (hle : Ren.le ρ ρ') {id : Nat} {o : AObj} (h : HasObj P B ρ w id o) (h' : HasObj P B ρ' w' id o) : HasObj P B ρ w' id o := by
  have same : ∀ {b k b' k' : Nat}, ρ id = some (b, 0, k) → ρ' id = some (b', 0, k') → b' = b ∧ k' = k := by
    intro b k b' k' h1 h2
    have := hle _ _ h1
    rw [h2] at this; cases this; exact ⟨rfl, rfl⟩
  cases o with
  | cells c e sl wr =>
    obtain ⟨b, k, cs, lo, hi, h1, h2⟩ := h
    obtain ⟨b', k', cs', lo', hi', g1, g2⟩ := h'
    obtain ⟨rfl, rfl⟩ := same h1 g1
    refine ⟨b', k', cs', lo', hi', h1, ⟨g2.at_, g2.len, ?_, g2.full, g2.cap, g2.own⟩⟩
    intro i v hv
    obtain ⟨u, hu, hr⟩ := h2.cells i v hv
    obtain ⟨u', hu', hr'⟩ := g2.cells i v hv
    have := VR.func _ _ _ (hr.mono hle) hr'
    subst this
    exact ⟨u, hu', hr⟩
  | map es clock =>
    obtain ⟨b, k, es1, h1, h2, h3, h4⟩ := h
    obtain ⟨b', k', es2, g1, g2, g3, g4⟩ := h'
    obtain ⟨rfl, rfl⟩ := same h1 g1
    have := EntsR.func (h4.mono hle) g4
    exact ⟨b', k', es2, h1, g2, g3, by rw [← this]; exact h4⟩
  | loop r T =>
    obtain ⟨b, k, r1, q, h1, h2, h3, h4, h5, h6, h7, h8, h9, h10, h11, h12⟩ := h
    obtain ⟨b', k', r2, q', g1, g2, g3, g4, g5, g6, g7, g8, g9, g10, g11, g12⟩ := h'
    obtain ⟨rfl, rfl⟩ := same h1 g1
    have ht := TTR.func (h9.mono hle) g9
    have hq := hle _ _ h11
    rw [g11] at hq; cases hq
    exact ⟨b', k', r2, q, h1, g2, g3, g4, g5, g6, g7, g8, by rw [← ht]; exact h9, h10, h11, g12⟩
  | obj o =>
    match o, h, h' with
    | .stringIter s p, ⟨b, k, h1, h2, h3⟩, ⟨b', k', g1, g2, g3⟩ => obtain ⟨rfl, rfl⟩ := same h1 g1; exact ⟨b', k', h1, g2, g3⟩
    | .mapIter none x y z, ⟨b, k, h1, h2, h3⟩, ⟨b', k', g1, g2, g3⟩ => obtain ⟨rfl, rfl⟩ := same h1 g1; exact ⟨b', k', h1, g2, g3⟩
    | .mapIter (some m) x y z, ⟨b, k, q, h1, h2, h3, h4⟩, ⟨b', k', q', g1, g2, g3, g4⟩ =>
      obtain ⟨rfl, rfl⟩ := same h1 g1
      have hq := hle _ _ h3
      rw [g3] at hq; cases hq
      exact ⟨b', k', q, h1, g2, h3, g4⟩
    | .deferred none, ⟨b, k, h1, h2, h3⟩, ⟨b', k', g1, g2, g3⟩ => obtain ⟨rfl, rfl⟩ := same h1 g1; exact ⟨b', k', h1, g2, g3⟩
    | .deferred (some []), ⟨b, k, h1, h2, h3⟩, ⟨b', k', g1, g2, g3⟩ => obtain ⟨rfl, rfl⟩ := same h1 g1; exact ⟨b', k', h1, g2, g3⟩

theorem Rel.back (R : Rel P G B w0 ρ A w) (R' : Rel P G B w0 ρ' A' w') (hle : Ren.le ρ ρ') (hs : ∀ id, id < A.next → A'.get id = A.get id) : Rel P G B w0 ρ A w' :=
  ⟨R'.below, R'.sz, R.G_next, fun id o h => (R.objs id o h).back hle (R'.objs id o (by rw [hs id (R.id_lt h)]; exact h)), R.inj, R.fresh, R.glob, R.small, R'.hid, R.noimg⟩
theorem Rel.lowTo (R : Rel P G B w0 ρ A w) (n : Nat) : Rel P G B w0 ρ { A with low := n } w :=
  ⟨R.below, R.sz, R.G_next, R.objs, R.inj, R.fresh, R.glob, R.small, R.hid, R.noimg⟩

/-! ### What the runs stand for -/
/-- The fence: all are let in. -/
def WF (ro : Option Nat) : Fence := { fn := fun _ => True, depth := none, alive := false, round := ro }
theorem WF_none : WF none = Fence.wide := rfl

def exO : AX → Exit
  | .normal => .normal
  | .ret => .ret
  | .exit id => .exit id

inductive DsR (ρ : Ren) : List Nat → List Deferred → Prop
  | nil : DsR ρ [] []
  | cons {D : Nat} {x : Nat × Nat × Nat} {ds : List Nat} {r : List Deferred} (h : ρ D = some x) (t : DsR ρ ds r) : DsR ρ (D :: ds) ({ target := .collected x.1, args := #[] } :: r)
theorem DsR.mono (h : Ren.le ρ ρ') {ds : List Nat} {r : List Deferred} (k : DsR ρ ds r) : DsR ρ' ds r := by
  induction k with
  | nil => exact .nil
  | cons hx _ ih => exact .cons (h _ _ hx) ih

def RoR (ρ : Ren) : Option Nat → Option Nat → Prop
  | none, ro => ro = none
  | some l, ro => ∃ x, ρ l = some x ∧ ro = some x.1
theorem RoR.mono (h : Ren.le ρ ρ') {ro ro' : Option Nat} (k : RoR ρ ro ro') : RoR ρ' ro ro' := by
  cases ro with
  | none => exact k
  | some l => obtain ⟨x, hx, e⟩ := k; exact ⟨x, h _ _ hx, e⟩

def TaskOk (E : Env) (B : Nat) (w0 : Base) : Task → Out → Prop
  | .code c ro T ds A, .code x T' ds' A' => ∀ (ρ : Ren) (a : Act) (w : World) (ro' : Option Nat) (Q : Exit → Act → World → Prop), Rel E.P E.G B w0 ρ A w → TTR ρ T a.tmps → T.ok → DsR ρ ds a.defers → RoR ρ ro ro' →
      (∀ ρ' a' w', Ren.le ρ ρ' → Rel E.P E.G B w0 ρ' A' w' → Keep A A' → TTR ρ' T' a'.tmps → T'.ok → DsR ρ' ds' a'.defers → Q (exO x) a' w') → c.wpIn (WF ro') 0 E.P Q a w
  | .fn g args A, .val v A' => ∀ (ρ : Ren) (us : List Value) (w : World) (R : Ending → World → Prop), Rel E.P E.G B w0 ρ A w → VRL ρ args us →
      (∀ ρ' u w', Ren.le ρ ρ' → VR ρ' v u → Rel E.P E.G B w0 ρ' A' w' → Keep A A' → R (.returned u) w') → CallsIn Fence.wide 0 E.P g us.toArray w R
  | .round l args A, .val v A' => ∀ (ρ : Ren) (x : Nat × Nat × Nat) (us : List Value) (w : World) (R : Ending → World → Prop), Rel E.P E.G B w0 ρ A w → ρ l = some x → VRL ρ args us →
      (∀ ρ' u w', Ren.le ρ ρ' → VR ρ' v u → Rel E.P E.G B w0 ρ' A' w' → Keep A A' → R (.returned u) w') →
      ∃ fn tmps assign body, (Instr.yield x.1 us.toArray).run E.P w = .ok (.round x.1 fn tmps assign body) w ∧ RoundIn Fence.wide 0 E.P x.1 fn tmps assign body w R
  | _, _ => False

def Sound (E : Env) (self : Self) : Prop := ∀ (B : Nat) (w0 : Base) (k : Task) (o : Out), self k = some o → TaskOk E B w0 k o

theorem aop_noDefer {o : Oper} {q : AN × Option AH} (h : aop E o T A = some q) : ∀ c, o.op ≠ .defer c := by
  intro c hc
  unfold aop at h
  rw [hc] at h
  simp only [cls] at h
  unfold arest at h
  split at h
  · cases h
  · rw [if_neg (by unfold isPlainOp; rw [hc]; simp)] at h
    unfold aspec at h
    rw [hc] at h
    cases h

theorem WF_fn (ro : Option Nat) (f : FuncId) : (WF ro).fn f := trivial
theorem callsIn_WF {n : Nat} {g : FuncId} {args : Array Value} {R : Ending → World → Prop} (ro : Option Nat) (h : CallsIn Fence.wide n P g args w R) : CallsIn (WF ro) n P g args w R := h
theorem roundIn_WF {n l : Nat} {g : FuncId} {tmps : Array Value} {as bd : Code} {R : Ending → World → Prop} (ro : Option Nat) (h : RoundIn Fence.wide n P l g tmps as bd w R) : RoundIn (WF ro) n P l g tmps as bd w R := h

/-- **AN OPERATION, CALLS TAKEN IN.** -/
theorem sound_opRun {self : Self} (hS : Sound E self) (hE : EnvOk E) (R : Rel E.P E.G B w0 ρ A w) {o : Oper} (hop : ∀ x ∈ o.op.operands.toList, okX E x = true → VR ρ (evT T x) (a.eval x)) {v : Value} {A1 : Option AH}
    (h : opRun self E o T A = some (v, A1)) (ro : Option Nat) {K : Act → World → Prop} {Q : Exit → Act → World → Prop}
    (hK : ∀ ρ' u w', Ren.le ρ ρ' → VR ρ' v u → Rel E.P E.G B w0 ρ' (orA A A1) w' → Keep A (orA A A1) → K (a.put o.dst u) w') : o.wpIn (WF ro) 0 E.P a w K Q := by
  refine ⟨fun _ _ => trivial, ?_⟩
  unfold opRun at h
  split at h
  · rename_i v0 hq
    cases h
    rw [Oper.semAt_eq _ _ _ (aop_noDefer hq)]
    obtain ⟨ρ', w', n, u, h1, h2, h3, h4, h5, h6⟩ := sound_op R hE hop hq R.small
    rw [h2]
    rcases h3 with rfl | ⟨rfl, rfl⟩
    · exact hK ρ' u w' h1 h4 h5 h6
    · exact hK ρ' undef w' h1 h4 h5 h6
  · rename_i v0 A0 hq
    split at h
    · rename_i hlt
      cases h
      rw [Oper.semAt_eq _ _ _ (aop_noDefer hq)]
      obtain ⟨ρ', w', n, u, h1, h2, h3, h4, h5, h6⟩ := sound_op R hE hop hq (blt_true hlt)
      rw [h2]
      rcases h3 with rfl | ⟨rfl, rfl⟩
      · exact hK ρ' u w' h1 h4 h5 h6
      · exact hK ρ' undef w' h1 h4 h5 h6
    · cases h
  · rename_i g args hq
    rw [Oper.semAt_eq _ _ _ (aop_noDefer hq)]
    obtain ⟨_, us, hus, hrun⟩ := sound_op R hE hop hq
    rw [hrun]
    refine ⟨(fun h => by cases h), ?_⟩
    unfold callEnd at h
    split at h
    · rename_i v0 A' hself
      refine callsIn_WF ro (hS B w0 _ _ hself ρ us w _ (R.lowTo _) hus ?_)
      intro ρ' u w' hle hv R' hk
      split at h
      · rename_i hc
        cases h
        simp only [Bool.and_eq_true] at hc
        have hlow := Nat.le_of_ble_eq_true hc.2
        have hu := VR.of_plain hc.1 hv
        subst hu
        exact hK ρ _ w' (Ren.le_refl ρ) (VR.plain _ hc.1) (R.back R' hle fun id hid => hk.same id hid (Nat.lt_of_lt_of_le hid hlow)) (Keep.refl A)
      · cases h
        refine hK ρ' u w' hle hv (R'.lowTo _) ⟨hk.next, Nat.min_le_left _ _, fun id h1 h2 => hk.same id h1 (Nat.lt_of_lt_of_le h2 (Nat.min_le_right _ _))⟩
    · cases h
  · rename_i l args hq
    rw [Oper.semAt_eq _ _ _ (aop_noDefer hq)]
    obtain ⟨_, x, us, hx, hus, hrun⟩ := sound_op R hE hop hq
    rw [hrun]
    unfold roundEnd at h
    split at h
    · rename_i v0 A' hself
      cases h
      obtain ⟨fn, tmps, as, bd, hy, hr⟩ := hS B w0 _ _ hself ρ x us w (fun | .returned u, w'' => K (a.put o.dst u) w'' | .panicked chain, w'' => Q (.panic chain) a w'' | .outgrown, _ => LetsOut Q) R hx hus
        (fun ρ' u w' hle hv R' hk => hK ρ' u w' hle hv R' hk)
      rw [hy]
      exact ⟨(fun h => by cases h), roundIn_WF ro hr⟩
    · cases h
  · cases h

theorem VR.bool_iff {v : Value} {b : Bool} (h : VR ρ v (.bool b)) : v = .bool b := by
  cases v with
  | bool c => cases h; rfl
  | int k n => cases h
  | float k n => cases h
  | complex k n m => cases h
  | string s => cases h
  | pointer a => cases a with
    | none => cases h
    | some a => obtain ⟨_, _, h⟩ := h; cases h
  | slice a n c => cases a with
    | none => cases h.2
    | some a => obtain ⟨_, _, _, _, h⟩ := h; cases h
  | map a => cases a with
    | none => cases h
    | some a => obtain ⟨_, _, h⟩ := h; cases h
  | chan a => cases a with
    | none => cases h
    | some a => exact h.elim
  | func f a b => obtain ⟨_, _, _, _, _, _, h⟩ := h; cases h
  | nilFunc => cases h
  | iface t v => obtain ⟨_, _, h⟩ := h; cases h
  | nilIface => cases h
  | agg cs => obtain ⟨_, _, h⟩ := h; cases h
  | tuple cs => obtain ⟨_, _, h⟩ := h; cases h

/-- Is an operation to be run? -/
theorem wanted_run {ops : Array Oper} {o : Oper} (hg : ∀ j want, o.guard = some (j, want) → ∀ o', ops[j]? = some o' → ∀ d, o'.dst = some d → (d < T.n → ∃ u, a.tmps[d]? = some u ∧ VR ρ (T.get d) u) ∧ (¬ d < T.n → a.tmps[d]? = none)) :
    Region.wanted o (yielded ops a.tmps) = wantedT ops.toList o T := by
  unfold wantedT Region.wanted
  cases hn : o.guard with
  | none => rfl
  | some p =>
    obtain ⟨j, want⟩ := p
    simp only
    have key : yielded ops a.tmps j = yieldedT ops.toList T j := by
      unfold yielded yieldedT
      rw [Array.getElem?_toList]
      cases ho : ops[j]? with
      | none => rfl
      | some o' =>
        cases hd : o'.dst with
        | none => simp [hd]
        | some d =>
          obtain ⟨h1, h2⟩ := hg j want hn o' ho d hd
          simp only [Option.bind_some, hd]
          cases hb : Nat.blt d T.n with
          | true =>
            obtain ⟨u, hu, hr⟩ := h1 (blt_true hb)
            rw [hu]
            cases hv : T.get d with
            | bool b =>
              rw [hv] at hr
              have hr : u = .bool b := hr
              rw [hr]
            | _ =>
              cases u with
              | bool b => exact absurd (VR.bool_iff hr) (by rw [hv]; simp)
              | _ => rfl
          | false =>
            rw [h2 (blt_false hb)]
    rw [key]
    cases yieldedT ops.toList T j with
    | none => rfl
    | some b => cases b <;> cases want <;> rfl

theorem eval_TTR (R : Rel E.P E.G B w0 ρ A w) (hT : TTR ρ T a.tmps) (hok : T.ok) (o : Oper) : ∀ x ∈ o.op.operands.toList, okX E x = true → VR ρ (evT T x) (a.eval x) := fun x _ hx => eval_VR R hT hok hx
theorem guard_TTR (hT : TTR ρ T a.tmps) (ops : Array Oper) (o : Oper) : ∀ j want, o.guard = some (j, want) → ∀ o', ops[j]? = some o' → ∀ d, o'.dst = some d → (d < T.n → ∃ u, a.tmps[d]? = some u ∧ VR ρ (T.get d) u) ∧ (¬ d < T.n → a.tmps[d]? = none) :=
by
  intro j want _ o' _ d _
  exact ⟨fun h => hT.2 d h, fun h => Array.getElem?_eq_none (Nat.le_trans (Nat.le_of_eq hT.1) (Nat.le_of_not_lt h))⟩

/-- **A REGION IN ITS ORDER.** -/
theorem sound_opsRun {self : Self} (hS : Sound E self) (hE : EnvOk E) (ops : Array Oper) (ro : Option Nat) {Q : Exit → Act → World → Prop} : ∀ (l : List Oper) (i : Nat), ops.toList.drop i = l → ∀ (T : TT) (A : AH) (a : Act) (w : World) (ρ : Ren) (T' : TT) (A' : AH),
    Rel E.P E.G B w0 ρ A w → TTR ρ T a.tmps → T.ok → opsRun self E ops.toList l T A = some (T', A') →
    (∀ ρ' a' w', Ren.le ρ ρ' → Rel E.P E.G B w0 ρ' A' w' → Keep A A' → TTR ρ' T' a'.tmps → T'.ok → a'.defers = a.defers → Q .normal a' w') →
    wpOpsIn (WF ro) 0 E.P ops Q (List.range' i l.length) a w
  | [], i, hi, T, A, a, w, ρ, T', A', R, hT, hok, h, hQ => by
    cases h
    exact hQ ρ a w (Ren.le_refl ρ) R (Keep.refl A) hT hok rfl
  | o :: rest, i, hi, T, A, a, w, ρ, T', A', R, hT, hok, h, hQ => by
    have ho : ops[i]? = some o := by
      have h1 : ops.toList[i]? = (ops.toList.drop i)[0]? := by simp
      rw [hi] at h1
      rw [← Array.getElem?_toList, h1]; rfl
    have hrest : ops.toList.drop (i + 1) = rest := by
      have : ops.toList.drop (i + 1) = (ops.toList.drop i).drop 1 := by rw [List.drop_drop]
      rw [this, hi]; rfl
    simp only [List.length_cons, List.range'_succ, wpOpsIn, ho]
    have hw := wanted_run (T := T) (guard_TTR hT ops o)
    rw [hw]
    simp only [opsRun] at h
    split at h
    · rename_i hf
      simp only [hf, Bool.false_eq_true, if_false]
      exact ⟨fun _ _ => trivial, sound_opsRun hS hE ops ro rest (i + 1) hrest _ A _ w ρ T' A' R (hT.put hok.1 o.dst undef_VR) (TT.put_ok hok _ _) h
        (fun ρ' a' w' h1 h2 h3 h4 h5 h6 => hQ ρ' a' w' h1 h2 h3 h4 h5 (by rw [h6, Act.put_defers']))⟩
    · rename_i ht
      simp only [ht, if_true]
      have step : ∀ {v : Value} {A1 : Option AH}, opRun self E o T A = some (v, A1) → opsRun self E ops.toList rest (T.put o.dst v) (orA A A1) = some (T', A') →
          o.wpIn (WF ro) 0 E.P a w (wpOpsIn (WF ro) 0 E.P ops Q (List.range' (i + 1) rest.length)) Q := by
        intro v A1 h1 h2
        refine sound_opRun hS hE R (eval_TTR R hT hok o) h1 ro ?_
        intro ρ1 u w1 hle hv R1 k1
        exact sound_opsRun hS hE ops ro rest (i + 1) hrest _ _ _ w1 ρ1 T' A' R1 ((hT.mono hle).put hok.1 o.dst hv) (TT.put_ok hok _ _) h2
          (fun ρ' a' w' h1 h2 h3 h4 h5 h6 => hQ ρ' a' w' (Ren.le_trans hle h1) h2 (k1.trans h3) h4 h5 (by rw [h6, Act.put_defers']))
      split at h
      · rename_i v hr; exact step hr h
      · rename_i v A1 hr; exact step hr h
      · cases h
end
end Go.Ex
