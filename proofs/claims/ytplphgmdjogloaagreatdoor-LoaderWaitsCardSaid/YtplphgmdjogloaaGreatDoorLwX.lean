/- Lemmas on the way to the law LoaderWaits. -/
import Derived.Test.YtplphgmdjogloaaGreatDoorLwR
import Derived.Test.YtplphgmdjogloaaGreatDoorLwS
import Derived.Test.YtplphgmdjogloaaGreatDoorLwP4
import Derived.Test.YtplphgmdjogloaaGreatDoorLwP1
import Derived.Test.YtplphgmdjogloaaGreatDoorLwP2
import Derived.Test.YtplphgmdjogloaaGreatDoorLwP3
set_option linter.unusedVariables false
set_option linter.unusedSimpArgs false
set_option linter.unusedVariables false
set_option linter.unusedSimpArgs false
set_option maxRecDepth 1000000
namespace Go.Proofs.YtplphgmdjogloaaGreatDoor
open Go Go.Ex Go.RowKit
theorem hd_head : HeadA Hd 542 1000 := by
  refine ⟨rfl, by decide, by decide, fun id o h => ?_⟩
  have hm := mkAt_get wA11 (by decide) id o h
  have key : (wA11.all fun x => decide (x.1 < 542) && lowO 542 x.2) = true := by kernel_rfl
  have := List.all_eq_true.1 key _ hm
  simp only [Bool.and_eq_true, decide_eq_true_eq] at this
  exact this
/-- The head of a round. -/
theorem head_ok (n i : Int) (y : Nat → Value) (h : i < IntKind.i64.wrap n) : Ev En (.code (.seq head3 cond3) none (Th n i y) [] Hd) (.code .normal (hd3 n i y true) [] Hd) := by
  have key : wx En none (.seq head3 cond3) (Th n i y) [] Hd (fun x T ds A => x = .normal ∧ T = hd3 n i y true ∧ ds = [] ∧ A = Hd) := by
    conv => whnf
    refine belim_dt h ?_
    conv => whnf
    exact ⟨rfl, by kernel_rfl, rfl, rfl⟩
  obtain ⟨x, T, ds, A, h1, rfl, rfl, rfl, rfl⟩ := wx_out envOk key
  exact h1
theorem head_no (n i : Int) (y : Nat → Value) (h : ¬ i < IntKind.i64.wrap n) : Ev En (.code (.seq head3 cond3) none (Th n i y) [] Hd) (.code (.exit 4) (hd3 n i y false) [] Hd) := by
  have key : wx En none (.seq head3 cond3) (Th n i y) [] Hd (fun x T ds A => x = .exit 4 ∧ T = hd3 n i y false ∧ ds = [] ∧ A = Hd) := by
    conv => whnf
    refine belim_df h ?_
    conv => whnf
    exact ⟨rfl, by kernel_rfl, rfl, rfl⟩
  obtain ⟨x, T, ds, A, h1, rfl, rfl, rfl, rfl⟩ := wx_out envOk key
  exact h1
theorem wrap64 {n : Int} (h0 : -9223372036854775808 ≤ n) (h1 : n ≤ 9223372036854775807) : IntKind.i64.wrap n = n := by
  unfold IntKind.wrap
  simp [IntKind.signed, IntKind.bits]
  omega
theorem rounds (n : Int) (h0 : 0 ≤ n) (h1 : n ≤ 255) : ∀ (j : Nat) (i : Int) (y : Nat → Value), 0 ≤ i → i + j = n → ∃ y', LoopRs En body3 none 542 1000 Hd (.exit 4) (hd3 n n y' false) Hd (j + 1) (Th n i y)
  | 0, i, y, hi, hij => by
    obtain rfl : i = n := by omega
    refine ⟨y, .stop ?_ (fun e => by cases e)⟩
    rw [shapeL]
    exact Ev.seq_out (head_no i i y (by rw [wrap64 (by omega) (by omega)]; omega)) (fun e => by cases e)
  | j + 1, i, y, hi, hij => by
    have hr := r1 n i y
    cases hrr : rr n i y with
    | none => rw [hrr] at hr; simp [rOk] at hr
    | some p =>
      obtain ⟨T', A'⟩ := p
      rw [hrr] at hr
      simp only [rOk, rRest, Prod.mk.injEq, Bool.and_eq_true, List.all_eq_true, List.mem_range] at hr
      obtain ⟨⟨⟨e1, e2⟩, e3⟩, e4, e5, e6⟩ := hr
      have e1 := Nat.eq_of_beq_eq_true e1
      have e2 := Nat.le_of_ble_eq_true e2
      have hev : Ev En (.code body3 none (Th n i y) [] Hd) (.code .normal T' [] A') := by
        rw [shapeL]
        exact Ev.seq (head_ok n i y (by rw [wrap64 (by omega) (by omega)]; omega)) (Ev.of_exo envOk orc0_ok (stNorm_spec hrr))
      have hrT := head_ren (N := 542) (M := 1000) (live := [8]) (by decide) e1 e3 e4 (r4 n)
      have e7 : ([8] : List Nat).map (fun k => renV (downσ 542 1000) (slot T'.t k)) = [.int .i64 (i + 1)] := by
        simp only [List.map_cons, List.map_nil, e5, renV]
        rw [wrap64 (by omega) (by omega)]
      rw [e7] at hrT
      obtain ⟨y', hl⟩ := rounds n h0 h1 j (i + 1) (fun k => renV (downσ 542 1000) (slot T'.t k)) (by omega) (by omega)
      refine ⟨y', .more hev ?_ e2 hrT hl⟩
      intro id o ho
      have hm := mkAt_get wA11 (by decide) id o ho
      obtain ⟨q, hq⟩ := List.getElem?_of_mem hm
      have e8 : ((wA11.map (·.1)).map A'.get)[q]? = some (A'.get id) := by simp [hq]
      rw [e6] at e8
      simp [hq] at e8
      exact e8.symm
theorem loop_ok (n : Int) (h0 : 0 ≤ n) (h1 : n ≤ 255) : ∃ y, Ev En (.code blk none (mkT (wT11 n) 107) [] { mkA wN11 wA11 with low := 0 }) (.code .normal (hd3 n n y false) [] { Hd with low := 0 }) := by
  obtain ⟨y, hl⟩ := rounds n h0 h1 n.toNat 0 (slot (tb n)) (Int.le_refl _) (by omega)
  refine ⟨y, ?_⟩
  have h := LoopRs.ev (A := { mkA wN11 wA11 with low := 0 }) hd_head (by decide) rfl (fun id => rfl) hl
  have h2 := Ev.same (T := mkT (wT11 n) 107) (fun hok => by
    have := mix_same (live := [8]) (dead := deadL) (n := 107) (t := tb n) (t0 := tb n) (by decide) rfl hok
    have e : ([8] : List Nat).map (slot (tb n)) = [.int .i64 0] := by kernel_rfl
    rw [e] at this
    exact this) h
  rw [shapeB]
  exact Ev.block h2
/-- From the loop on. -/
theorem tail3 (n : Int) (h0 : 0 ≤ n) (h1 : n ≤ 255) : ∃ (T' : TT) (A' : AH), Ev En (.code (.seq (.seq r18 blk) suf) none (mkT (wT10 n) 107) [] (mkA wN10 wA10)) (.code .ret T' [] A') ∧ T'.get 2 = .bool true ∧ T'.n = 107 := by
  obtain ⟨y, hl⟩ := loop_ok n h0 h1
  have hs := s1 n n y
  cases he : exo En orc3 100000 (.code suf none (hd3 n n y false) [] Hd) with
  | none => rw [he] at hs; cases hs
  | some o =>
    rw [he] at hs
    unfold retB at hs
    split at hs
    · rename_i T' A' ho
      cases ho
      simp only [Option.some.injEq, Prod.mk.injEq] at hs
      have e1 := (Ev.of_exo envOk orc3_ok he).low0 0
      have e2 := ckB_chain (E := En) (T := mkT (wT10 n) 107) (A := mkA wN10 wA10) (l := [r18]) (s := blk) envOk orc0_ok (by decide) (by rfl) (p5 n) (p5s n) (by decide) (x := .normal) (T2 := hd3 n n y false) (ds2 := []) (A2 := { Hd with low := 0 }) (by
        have := Ev.pre (T := mkT (wT11 n) 107) (A := mkA wN11 wA11) hl (fun _ => TT.Same.refl _) rfl (fun id o h => h)
        exact this)
      exact ⟨T', _, Ev.seq e2 e1, hs.1, hs.2⟩
    · cases hs
end Go.Proofs.YtplphgmdjogloaaGreatDoor
set_option linter.unusedVariables false
set_option linter.unusedSimpArgs false
set_option maxRecDepth 1000000
namespace Go.Proofs.YtplphgmdjogloaaGreatDoor
open Go Go.Ex Go.RowKit
/-- The whole body, for every number of steps. -/
theorem whole3 (n : Int) (h0 : 0 ≤ n) (h1 : n ≤ 255) : ∃ (T' : TT) (A' : AH), Ev En (.code (nest pre1 (nest pre2 (nest pre3 (nest pre4 (.seq (.seq r18 blk) suf))))) none (mkT [.int .u8 n] 107) [] (startA 6 [])) (.code .ret T' [] A') ∧ T'.get 2 = .bool true ∧ T'.n = 107 := by
  obtain ⟨T', A', h, h2, h3⟩ := tail3 n h0 h1
  have e4 := ckB_chain envOk orc0_ok (by decide) (by rfl) (p4 n) (p4s n) (by decide) h
  have e3 := ckB_chain envOk orc0_ok (by decide) (by rfl) (p3 n) (p3s n) (by decide) e4
  have e2 := ckB_chain envOk orc0_ok (by decide) (by rfl) (p2 n) (p2s n) (by decide) e3
  have e1 := ckB_chain envOk orc0_ok (by decide) (by rfl) (p1 n) (p1s n) (by decide) e2
  exact ⟨T', _, e1, h2, h3⟩
theorem fn3 (n : Int) (h0 : 0 ≤ n) (h1 : n ≤ 255) : ∃ A', Ev En (.fn 3 [.int .u8 n] (startA 6 [])) (.val (.bool true) A') := by
  obtain ⟨T', A', h, h2, h3⟩ := whole3 n h0 h1
  refine ⟨A', Ev.fn (fn := Tryz.f3) (by rfl) shape3 (by show 107 ≤ 4000; decide) h (fun id e => by cases e) (by rfl) (vs := [.bool true]) ?_ rfl⟩
  have hd : Tryz.f3.results = #[.tmp 2] := by kernel_rfl
  rw [hd]
  simp [aresults, h2]
end Go.Proofs.YtplphgmdjogloaaGreatDoor
