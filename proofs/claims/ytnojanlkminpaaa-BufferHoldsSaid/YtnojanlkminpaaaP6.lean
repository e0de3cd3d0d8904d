/-
  BufferHolds in the abstract machine. Own work of this project; in part printed by a program of it.
-/
import Derived.Test.YtnojanlkminpaaaP5
section
set_option linter.unusedVariables false
set_option linter.unusedSimpArgs false
set_option maxRecDepth 100000
set_option maxHeartbeats 16000000
namespace Go.AM
open Go Go.Proofs

theorem s_BufferHolds : SoundAt Try.prog 5 (lawC Try.prog 8 [22, 5, 5, 5]) :=
  con_keep (tb_sound (l := [(8, closed [] (.bool true)), (18, R_BPut), (21, R_BLast), (20, R_BFirst), (19, R_BLen), (22, R_Between), (23, conF ndC (pLL ndC ndC gJoin)), (25, conF ndC pAll), (24, conLL ndC ndC fSame), (26, R_Forget), (12, R_betweens)]) (by simpa using ⟨s_known, s_BPut, s_BLast, s_BFirst, s_BLen, s_Between, s_Join, s_All, s_Same, s_Forget, s_betweens⟩)) mixed Try.func5 k5 c5 fun args s r s' h => by
    obtain ⟨hh, rfl, rfl⟩ := lawC_some h
    obtain ⟨v, r1, rfl, hv, hh⟩ := rdas_cons hh
    obtain ⟨w1, w2, w3, rfl, hw1, hw2, hw3⟩ := rdas_3 hh
    obtain ⟨ls, hrd⟩ := rda_states nd_cks6 sts_under sts_cells hv
    obtain ⟨xx, rfl, hx⟩ := rda_int u8_under hw1
    obtain ⟨yy, rfl, hy⟩ := rda_int u8_under hw2
    obtain ⟨zz, rfl, hz⟩ := rda_int u8_under hw3
    obtain ⟨hx0, hx1⟩ := u8_range hx
    obtain ⟨hy0, hy1⟩ := u8_range hy
    obtain ⟨hz0, hz1⟩ := u8_range hz
    obtain ⟨X, rfl⟩ : ∃ X : Nat, xx = (X : Int) := ⟨xx.toNat, by omega⟩
    obtain ⟨Y, rfl⟩ : ∃ Y : Nat, yy = (Y : Int) := ⟨yy.toNat, by omega⟩
    obtain ⟨Z, rfl⟩ : ∃ Z : Nat, zz = (Z : Int) := ⟨zz.toNat, by omega⟩
    refine ⟨rfl, rfl, by simp [a5], fun env hlen ha => ?_⟩
    have h0 : E env 0 = _ := ha 0 _ rfl
    have h1 : E env 1 = _ := ha 1 _ rfl
    have h2 : E env 2 = _ := ha 2 _ rfl
    have h3 : E env 3 = _ := ha 3 _ rfl
    have hlen : elen env = _ := hlen
    simp only [a5] at hlen
    unfold a5
    try dsimp only [oO, oG]
    have hL := rdLL_len hrd
    by_cases hzz : (12 : Int) < (ls.length : Int)
    · have hz1 := eq_true hzz
      simp (config := {maxSteps := 3000000, contextual := true, maxDischargeDepth := 12}) only [tb_at, h0, h1, h2, h3, hlen, hL, hz1, ↓bD, bU, forall_const, List.all_cons, List.all_nil, Option.map_some, List.map_cons, List.map_nil, ne_eq, implies_true, isNx, cs_dec, cs_not, cs_and, cs_or, cs_valid, eq_self, ↓wp_cond, ↓wp_loop, ↓reduceIte, reduceCtorEq, Nat.reduceEqDiff, Nat.reduceLT, Nat.reduceAdd, Nat.reduceMul, Int.ofNat_lt, Int.ofNat_le, exists_const, ae_app, ap_slc, Option.map_none, mkR_none, mkR_some, ar_look, ae_mset, ae_rng, ae_mkmap0, ar_ent, lookV_push, lookV_lowed, msetV_push, msetV_lowed, lt_put, same_put, sto_over, sto_lowed, cs_dead, Option.map_some, beq_self_eq_true, decide_true, cs_true, cs_false, aa_bsl, ↓sg_bsl, ap_nchk, nchkV_ptr, bin_np, bin_npn, bin_npx, bin_npnx, ap_mm, mmV_max, mmV_min, res3, ↓st_callf, aa_mksl, ae_copy, ap_slc3, slc3V_all, bin_nss, bin_nsn, aa_bsl, extV_2, q_known, beq_self_eq_true, fstep_d0, fstep_d1, fstep_nd2, fstep_ndt, fstep_ndx, bsl_nd, ap_conv, convV_int]
    have hz1 := eq_false hzz
    have hn12 : ls.length ≤ 12 := by omega
    have hbx := boxV_2 (a := .int .i64 0) (b := .nils) rfl rfl
    have hB0 : Hold s (s.push (.row [.int .i64 0, .nils] true)) s.next .nils [] [] := by
      refine ⟨(Keep.refl s).push _, Nat.le_refl _, fun x hx => by simp at hx, fun x hx => by simp at hx, fun x hx => by simp at hx, .inl ⟨rfl, rfl⟩, rfl, .nils, [], ⟨St.get_push_new _ _, .inl ⟨rfl, rfl⟩, trivial⟩, fun _ _ _ _ _ e => by (cases e), fun _ _ _ _ _ e => by (cases e), fun _ _ _ _ _ _ _ _ _ _ e => by (cases e)⟩
    simp (config := {maxSteps := 3000000, contextual := true, maxDischargeDepth := 12}) only [tb_at, h0, h1, h2, h3, hlen, hL, hz1, hbx, ↓bD, bU, forall_const, List.all_cons, List.all_nil, Option.map_some, List.map_cons, List.map_nil, ne_eq, implies_true, isNx, cs_dec, cs_not, cs_and, cs_or, cs_valid, eq_self, ↓wp_cond, ↓wp_loop, ↓reduceIte, reduceCtorEq, Nat.reduceEqDiff, Nat.reduceLT, Nat.reduceAdd, Nat.reduceMul, Int.ofNat_lt, Int.ofNat_le, exists_const, ae_app, ap_slc, Option.map_none, mkR_none, mkR_some, ar_look, ae_mset, ae_rng, ae_mkmap0, ar_ent, lookV_push, lookV_lowed, msetV_push, msetV_lowed, lt_put, same_put, sto_over, sto_lowed, cs_dead, Option.map_some, beq_self_eq_true, decide_true, cs_true, cs_false, aa_bsl, ↓sg_bsl, ap_nchk, nchkV_ptr, bin_np, bin_npn, bin_npx, bin_npnx, ap_mm, mmV_max, mmV_min, res3, ↓st_callf, aa_mksl, ae_copy, ap_slc3, slc3V_all, bin_nss, bin_nsn, aa_bsl, extV_2, q_known, beq_self_eq_true, fstep_d0, fstep_d1, fstep_nd2, fstep_ndt, fstep_ndx, bsl_nd, ap_conv, convV_int]
    obtain ⟨I1, hI1⟩ : ∃ I1 : Nat → Env → St → Prop, ∀ n e t, I1 n e t = (∃ i av avs all, i + n = ls.length ∧ elen e = 249 ∧ E e 0 = v ∧ E e 1 = .int .u8 (X : Int) ∧ E e 2 = .int .u8 (Y : Int) ∧ E e 3 = .int .u8 (Z : Int) ∧ E e 9 = .ptr s.next 0 ∧ E e 10 = av ∧ E e 11 = .int .i64 (i : Int) ∧ Hold s t s.next av avs all ∧ all.length ≤ i) := ⟨fun n e t => (∃ i av avs all, i + n = ls.length ∧ elen e = 249 ∧ E e 0 = v ∧ E e 1 = .int .u8 (X : Int) ∧ E e 2 = .int .u8 (Y : Int) ∧ E e 3 = .int .u8 (Z : Int) ∧ E e 9 = .ptr s.next 0 ∧ E e 10 = av ∧ E e 11 = .int .i64 (i : Int) ∧ Hold s t s.next av avs all ∧ all.length ≤ i), fun _ _ _ => rfl⟩
    refine lwp_inv I1 (n := ls.length) ?_ ?_
    · rw [hI1]
      exact ⟨0, .nils, [], [], by omega, by simp only [E_pne, E_psame, elen_put, Nat.reduceEqDiff, ne_eq, not_false_eq_true, Nat.reduceLT, hlen], by simp only [E_pne, E_psame, elen_put, Nat.reduceEqDiff, ne_eq, not_false_eq_true, Nat.reduceLT, h0], by simp only [E_pne, E_psame, elen_put, Nat.reduceEqDiff, ne_eq, not_false_eq_true, Nat.reduceLT, h1], by simp only [E_pne, E_psame, elen_put, Nat.reduceEqDiff, ne_eq, not_false_eq_true, Nat.reduceLT, h2], by simp only [E_pne, E_psame, elen_put, Nat.reduceEqDiff, ne_eq, not_false_eq_true, Nat.reduceLT, h3], (by first | (simp only [E_pne, E_psame, elen_put, Nat.reduceEqDiff, ne_eq, not_false_eq_true, Nat.reduceLT, hlen]; done) | (simp only [E_pne, E_psame, elen_put, Nat.reduceEqDiff, ne_eq, not_false_eq_true, Nat.reduceLT, hlen]; rfl)), (by first | (simp only [E_pne, E_psame, elen_put, Nat.reduceEqDiff, ne_eq, not_false_eq_true, Nat.reduceLT, hlen]; done) | (simp only [E_pne, E_psame, elen_put, Nat.reduceEqDiff, ne_eq, not_false_eq_true, Nat.reduceLT, hlen]; rfl)), (by first | (simp only [E_pne, E_psame, elen_put, Nat.reduceEqDiff, ne_eq, not_false_eq_true, Nat.reduceLT, hlen]; done) | (simp only [E_pne, E_psame, elen_put, Nat.reduceEqDiff, ne_eq, not_false_eq_true, Nat.reduceLT, hlen]; rfl)), hB0, by simp⟩
    clear h0 h1 h2 h3 hlen ha hbx hB0
    intro n e t hi
    rw [hI1] at hi
    obtain ⟨i, av, avs, all, hni, he, e0, e1, e2, e3, e9, e10, e11, hH, hal⟩ := hi
    by_cases hlt : i < ls.length
    · have hz2 : ((i : Int) < (ls.length : Int)) = True := eq_true (by omega)
      have hw := wrap_add1 (n := i) (by omega)
      obtain ⟨x, hx⟩ := getsome hlt
      obtain ⟨w, i1, hxx, hrw⟩ := rdLL_at hrd hx
      obtain ⟨a1, al⟩ := hxx t hH.keep
      have hLx := lenV_read hrw
      by_cases h15 : (15 : Int) < (x.length : Int)
      · have hz3 := eq_true h15
        simp (config := {maxSteps := 3000000, contextual := true, maxDischargeDepth := 12}) only [tb_at, he, e0, e1, e2, e3, e9, e10, e11, hL, hz2, i1, a1, al, hLx, hz3, ↓bD, bU, forall_const, List.all_cons, List.all_nil, Option.map_some, List.map_cons, List.map_nil, ne_eq, implies_true, isNx, cs_dec, cs_not, cs_and, cs_or, cs_valid, eq_self, ↓wp_cond, ↓wp_loop, ↓reduceIte, reduceCtorEq, Nat.reduceEqDiff, Nat.reduceLT, Nat.reduceAdd, Nat.reduceMul, Int.ofNat_lt, Int.ofNat_le, exists_const, ae_app, ap_slc, Option.map_none, mkR_none, mkR_some, ar_look, ae_mset, ae_rng, ae_mkmap0, ar_ent, lookV_push, lookV_lowed, msetV_push, msetV_lowed, lt_put, same_put, sto_over, sto_lowed, cs_dead, Option.map_some, beq_self_eq_true, decide_true, cs_true, cs_false, aa_bsl, ↓sg_bsl, ap_nchk, nchkV_ptr, bin_np, bin_npn, bin_npx, bin_npnx, ap_mm, mmV_max, mmV_min, res3, ↓st_callf, aa_mksl, ae_copy, ap_slc3, slc3V_all, bin_nss, bin_nsn, aa_bsl, extV_2, q_known, beq_self_eq_true, fstep_d0, fstep_d1, fstep_nd2, fstep_ndt, fstep_ndx, bsl_nd, ap_conv, convV_int]
        exact hH.keep
      · have hz3 := eq_false h15
        rcases hold_put hH (by omega) hrw (by omega) with ⟨er, her, q1⟩ | ⟨t1, t3, q1, hk1, happ, hav, hH3⟩
        · have hz4 : (er = 0) = False := eq_false her
          simp (config := {maxSteps := 3000000, contextual := true, maxDischargeDepth := 12}) only [tb_at, he, e0, e1, e2, e3, e9, e10, e11, hL, hz2, i1, a1, al, hLx, hz3, hw, q1, hz4, ↓bD, bU, forall_const, List.all_cons, List.all_nil, Option.map_some, List.map_cons, List.map_nil, ne_eq, implies_true, isNx, cs_dec, cs_not, cs_and, cs_or, cs_valid, eq_self, ↓wp_cond, ↓wp_loop, ↓reduceIte, reduceCtorEq, Nat.reduceEqDiff, Nat.reduceLT, Nat.reduceAdd, Nat.reduceMul, Int.ofNat_lt, Int.ofNat_le, exists_const, ae_app, ap_slc, Option.map_none, mkR_none, mkR_some, ar_look, ae_mset, ae_rng, ae_mkmap0, ar_ent, lookV_push, lookV_lowed, msetV_push, msetV_lowed, lt_put, same_put, sto_over, sto_lowed, cs_dead, Option.map_some, beq_self_eq_true, decide_true, cs_true, cs_false, aa_bsl, ↓sg_bsl, ap_nchk, nchkV_ptr, bin_np, bin_npn, bin_npx, bin_npnx, ap_mm, mmV_max, mmV_min, res3, ↓st_callf, aa_mksl, ae_copy, ap_slc3, slc3V_all, bin_nss, bin_nsn, aa_bsl, extV_2, q_known, beq_self_eq_true, fstep_d0, fstep_d1, fstep_nd2, fstep_ndt, fstep_ndx, bsl_nd, ap_conv, convV_int]
          refine ⟨n - 1, by omega, ?_⟩
          rw [hI1]
          exact ⟨i + 1, av, avs, all, by omega, by simp only [E_pne, E_psame, elen_put, Nat.reduceEqDiff, ne_eq, not_false_eq_true, Nat.reduceLT, he], by simp only [E_pne, E_psame, elen_put, Nat.reduceEqDiff, ne_eq, not_false_eq_true, Nat.reduceLT, e0], by simp only [E_pne, E_psame, elen_put, Nat.reduceEqDiff, ne_eq, not_false_eq_true, Nat.reduceLT, e1], by simp only [E_pne, E_psame, elen_put, Nat.reduceEqDiff, ne_eq, not_false_eq_true, Nat.reduceLT, e2], by simp only [E_pne, E_psame, elen_put, Nat.reduceEqDiff, ne_eq, not_false_eq_true, Nat.reduceLT, e3], by simp only [E_pne, E_psame, elen_put, Nat.reduceEqDiff, ne_eq, not_false_eq_true, Nat.reduceLT, e9], by simp only [E_pne, E_psame, elen_put, Nat.reduceEqDiff, ne_eq, not_false_eq_true, Nat.reduceLT, e10], by simp only [E_pne, E_psame, elen_put, Nat.reduceEqDiff, ne_eq, not_false_eq_true, Nat.reduceLT, he], hH, by omega⟩
        · obtain ⟨a2, al2⟩ := hxx t1 hk1
          have hbsl := bsl1 hrw
          rw [hav] at happ hH3
          simp (config := {maxSteps := 3000000, contextual := true, maxDischargeDepth := 12}) only [tb_at, he, e0, e1, e2, e3, e9, e10, e11, hL, hz2, i1, a1, al, hLx, hz3, hw, q1, a2, al2, hbsl, happ, ↓bD, bU, forall_const, List.all_cons, List.all_nil, Option.map_some, List.map_cons, List.map_nil, ne_eq, implies_true, isNx, cs_dec, cs_not, cs_and, cs_or, cs_valid, eq_self, ↓wp_cond, ↓wp_loop, ↓reduceIte, reduceCtorEq, Nat.reduceEqDiff, Nat.reduceLT, Nat.reduceAdd, Nat.reduceMul, Int.ofNat_lt, Int.ofNat_le, exists_const, ae_app, ap_slc, Option.map_none, mkR_none, mkR_some, ar_look, ae_mset, ae_rng, ae_mkmap0, ar_ent, lookV_push, lookV_lowed, msetV_push, msetV_lowed, lt_put, same_put, sto_over, sto_lowed, cs_dead, Option.map_some, beq_self_eq_true, decide_true, cs_true, cs_false, aa_bsl, ↓sg_bsl, ap_nchk, nchkV_ptr, bin_np, bin_npn, bin_npx, bin_npnx, ap_mm, mmV_max, mmV_min, res3, ↓st_callf, aa_mksl, ae_copy, ap_slc3, slc3V_all, bin_nss, bin_nsn, aa_bsl, extV_2, q_known, beq_self_eq_true, fstep_d0, fstep_d1, fstep_nd2, fstep_ndt, fstep_ndx, bsl_nd, ap_conv, convV_int]
          refine ⟨n - 1, by omega, ?_⟩
          rw [hI1]
          exact ⟨i + 1, _, _, _, by omega, by simp only [E_pne, E_psame, elen_put, Nat.reduceEqDiff, ne_eq, not_false_eq_true, Nat.reduceLT, he], by simp only [E_pne, E_psame, elen_put, Nat.reduceEqDiff, ne_eq, not_false_eq_true, Nat.reduceLT, e0], by simp only [E_pne, E_psame, elen_put, Nat.reduceEqDiff, ne_eq, not_false_eq_true, Nat.reduceLT, e1], by simp only [E_pne, E_psame, elen_put, Nat.reduceEqDiff, ne_eq, not_false_eq_true, Nat.reduceLT, e2], by simp only [E_pne, E_psame, elen_put, Nat.reduceEqDiff, ne_eq, not_false_eq_true, Nat.reduceLT, e3], by simp only [E_pne, E_psame, elen_put, Nat.reduceEqDiff, ne_eq, not_false_eq_true, Nat.reduceLT, e9], by simp only [E_pne, E_psame, elen_put, Nat.reduceEqDiff, ne_eq, not_false_eq_true, Nat.reduceLT, he], by simp only [E_pne, E_psame, elen_put, Nat.reduceEqDiff, ne_eq, not_false_eq_true, Nat.reduceLT, he], hH3, by simp; omega⟩
    have hin : i = ls.length := by omega
    subst hin
    have hz2 : ((ls.length : Int) < (ls.length : Int)) = False := eq_false (by omega)
    have hLa := hH.out.lenV
    have hlen1 := readA_len hH.rd
    rw [hlen1] at hLa
    have hfl := hH.flat
    obtain ⟨dv, vs, hB, f1, f2, f3⟩ := hH.mem
    have hvl := bufR_len hB
    obtain ⟨N, hN⟩ : ∃ N, N = all.length := ⟨_, rfl⟩
    rw [← hN] at hLa hlen1 hfl hvl hal
    by_cases hN0 : N = 0
    · have hz3 : ((N : Int) = 0) = True := eq_true (by omega)
      have q1 := q_BLast false hB (by omega)
      have hv0 : 0 + vs.length = 0 := by omega
      rw [hv0] at q1
      simp (config := {maxSteps := 3000000, contextual := true, maxDischargeDepth := 12}) only [tb_at, he, e0, e1, e2, e3, e9, e10, e11, hL, hz2, hLa, hz3, q1, Int.natCast_zero, ↓bD, bU, forall_const, List.all_cons, List.all_nil, Option.map_some, List.map_cons, List.map_nil, ne_eq, implies_true, isNx, cs_dec, cs_not, cs_and, cs_or, cs_valid, eq_self, ↓wp_cond, ↓wp_loop, ↓reduceIte, reduceCtorEq, Nat.reduceEqDiff, Nat.reduceLT, Nat.reduceAdd, Nat.reduceMul, Int.ofNat_lt, Int.ofNat_le, exists_const, ae_app, ap_slc, Option.map_none, mkR_none, mkR_some, ar_look, ae_mset, ae_rng, ae_mkmap0, ar_ent, lookV_push, lookV_lowed, msetV_push, msetV_lowed, lt_put, same_put, sto_over, sto_lowed, cs_dead, Option.map_some, beq_self_eq_true, decide_true, cs_true, cs_false, aa_bsl, ↓sg_bsl, ap_nchk, nchkV_ptr, bin_np, bin_npn, bin_npx, bin_npnx, ap_mm, mmV_max, mmV_min, res3, ↓st_callf, aa_mksl, ae_copy, ap_slc3, slc3V_all, bin_nss, bin_nsn, aa_bsl, extV_2, q_known, beq_self_eq_true, fstep_d0, fstep_d1, fstep_nd2, fstep_ndt, fstep_ndx, bsl_nd, ap_conv, convV_int]
      exact hH.keep
    have hz3 : ((N : Int) = 0) = False := eq_false (by omega)
    obtain ⟨F, hF⟩ : ∃ F, F = 1 + X % N := ⟨_, rfl⟩
    have hXN := Nat.mod_lt X (show 0 < N by omega)
    obtain ⟨L, hL'⟩ : ∃ L, L = F + Y % (N - F + 1) := ⟨_, rfl⟩
    have hYN := Nat.mod_lt Y (show 0 < N - F + 1 by omega)
    obtain ⟨K, hK'⟩ : ∃ K, K = F + Z % (L - F + 1) := ⟨_, rfl⟩
    have hZK := Nat.mod_lt Z (show 0 < L - F + 1 by omega)
    obtain ⟨H, hH'⟩ : ∃ H, H = F - 1 + Z % (N - F + 2) := ⟨_, rfl⟩
    have hZH := Nat.mod_lt Z (show 0 < N - F + 2 by omega)
    have cx : IntKind.i64.wrap (X : Int) = X := wrap_nat (by omega)
    have cy : IntKind.i64.wrap (Y : Int) = Y := wrap_nat (by omega)
    have cz : IntKind.i64.wrap (Z : Int) = Z := wrap_nat (by omega)
    have r1 := bin_rem (e := .no) (a := X) (b := N) (by omega)
    have r2 := bin_rem (e := .no) (a := Y) (b := N - F + 1) (by omega)
    have r3 := bin_rem (e := .no) (a := Z) (b := L - F + 1) (by omega)
    have r4 := bin_rem (e := .no) (a := Z) (b := N - F + 2) (by omega)
    have w1 : IntKind.i64.wrap (1 + ((X % N : Nat) : Int)) = (F : Int) := by
      rw [show 1 + ((X % N : Nat) : Int) = (F : Int) by omega]
      exact wrap_nat (by omega)
    have w2 : IntKind.i64.wrap ((N : Int) - (F : Int)) = ((N - F : Nat) : Int) := by
      rw [show (N : Int) - (F : Int) = ((N - F : Nat) : Int) by omega]
      exact wrap_nat (by omega)
    have w2' := wrap_add1 (n := N - F) (by omega)
    have w3 : IntKind.i64.wrap ((F : Int) + ((Y % (N - F + 1) : Nat) : Int)) = (L : Int) := by
      rw [show (F : Int) + ((Y % (N - F + 1) : Nat) : Int) = (L : Int) by omega]
      exact wrap_nat (by omega)
    have w4 : IntKind.i64.wrap ((L : Int) - (F : Int)) = ((L - F : Nat) : Int) := by
      rw [show (L : Int) - (F : Int) = ((L - F : Nat) : Int) by omega]
      exact wrap_nat (by omega)
    have w4' := wrap_add1 (n := L - F) (by omega)
    have w5 : IntKind.i64.wrap ((F : Int) + ((Z % (L - F + 1) : Nat) : Int)) = (K : Int) := by
      rw [show (F : Int) + ((Z % (L - F + 1) : Nat) : Int) = (K : Int) by omega]
      exact wrap_nat (by omega)
    have w5' := wrap_add1 (n := K) (by omega)
    have w6 : IntKind.i64.wrap ((F : Int) - 1) = ((F - 1 : Nat) : Int) := by
      rw [show (F : Int) - 1 = ((F - 1 : Nat) : Int) by omega]
      exact wrap_nat (by omega)
    have w7 : IntKind.i64.wrap (((N - F : Nat) : Int) + 2) = ((N - F + 2 : Nat) : Int) := by
      rw [show ((N - F : Nat) : Int) + 2 = ((N - F + 2 : Nat) : Int) by omega]
      exact wrap_nat (by omega)
    have w8 : IntKind.i64.wrap (((F - 1 : Nat) : Int) + ((Z % (N - F + 2) : Nat) : Int)) = (H : Int) := by
      rw [show ((F - 1 : Nat) : Int) + ((Z % (N - F + 2) : Nat) : Int) = (H : Int) by omega]
      exact wrap_nat (by omega)
    have w9 : max (H : Int) (L : Int) = ((max H L : Nat) : Int) := by omega
    have hs := hH.stores
    have hp := hH.pw
    obtain ⟨W, hW⟩ : ∃ W, W = (all.drop (F - 1)).take (L - (F - 1)) := ⟨_, rfl⟩
    have hWl : (W.foldl refJ []).length ≤ 180 := by
      have := fold_len' W
      have := flat_sub all (F - 1) (L - (F - 1))
      rw [← hW] at this
      omega
    have b0 : betP 0 all (F : Int) (L : Int) = (W.foldl refJ [], 0) := by
      have := bet_fold (g := 0) hs hp (by omega) (f := F) (l := L) (by omega) (by omega) (by omega) (by omega)
      rw [List.drop_zero, ← hW] at this
      exact this
    obtain ⟨vW, t1, q1, oW, k1⟩ := q_Between hB (by omega) (F : Int) (L : Int) (by omega) (by omega)
    rw [b0] at q1 oW
    have hB1 := hB.keep0 k1
    -- the tail: from a memory t2 on, in which all of it stands
    have tail : ∀ t2, Keep t1 t2 → ∃ v1 v2 t3 t4 t5 t6 u1 u2 u3, slcV 1 av none (some (.int .i64 (H : Int))) = some v1 ∧ acall (conF ndC pAll) false [v1] t2 = some (.tup [u1, .int .i64 0], t3) ∧
        acall (conF ndC (pLL ndC ndC gJoin)) false [u1, vW] t3 = some (.tup [u2, .int .i64 0], t4) ∧ slcV 1 av none (some (.int .i64 ((max H L : Nat) : Int))) = some v2 ∧ acall (conF ndC pAll) false [v2] t4 = some (.tup [u3, .int .i64 0], t5) ∧
        acall (conLL ndC ndC fSame) false [u2, u3] t5 = some (.bool true, t5) ∧ acall R_Forget false [.ptr s.next 0, .int .i64 ((F - 1 : Nat) : Int)] t5 = some (.tup [.int .i64 ((F - 1 : Nat) : Int), .int .i64 0], t6) ∧
        acall R_betweens false [.ptr s.next 0, .int .i64 (F : Int), .int .i64 (L : Int), vW, .int .i64 0] t6 = some (.bool true, t6) ∧ acall R_BLen false [.ptr s.next 0] t6 = some (.int .i64 ((N - F + 1 : Nat) : Int), t6) ∧
        acall R_BLast false [.ptr s.next 0] t6 = some (.int .i64 (N : Int), t6) ∧ acall R_BFirst false [.ptr s.next 0] t6 = some (.int .i64 (F : Int), t6) ∧ Keep s t6 := by
      intro t2 k2
      have k02 : Keep t t2 := k1.trans k2
      have out2 : OutR t2 av avs := hH.out.keep (k02.chg []) (fun _ _ _ _ _ _ => by simp)
      obtain ⟨v1, s1, s2⟩ := out_hi (b := H) out2 (by omega)
      have rd1 : rdLL t2 v1 = some (all.take H) := by
        unfold rdLL
        rw [s2]
        exact readA_take H (readA_keep (hH.keep.trans k02) hH.rd)
      have st1 : Stores (all.take H) := hs.sub fun x hx => List.mem_of_mem_take hx
      have pw1 : PW (all.take H) := hp.sub fun x hx => List.mem_of_mem_take hx
      have fl1 := flat_take all H
      obtain ⟨u1, t3, q2, k3, o3⟩ := call_All rd1 (by omega) (by rw [List.length_take]; omega)
      rw [allP_fold st1 pw1] at q2 o3
      have fo1 := fold_len' (all.take H)
      obtain ⟨u2, t4, q3, k4, o4⟩ := call_Join o3.read (k3.read (k2.read oW.read)) (by (try dsimp only); omega) (by (try dsimp only); omega)
      have hj := join_parts (A := all.take H) (B := W) (C := all.take (max H L)) hs hp (fun x hx => List.mem_of_mem_take hx) (fun x hx => by rw [hW] at hx; exact sub_mem x hx) (fun x => by
        rw [hW, mem_upto, mem_upto, mem_sub]
        constructor
        · rintro ⟨j, h1, h2⟩
          by_cases hj : j < H
          · exact .inl ⟨j, hj, h2⟩
          · exact .inr ⟨j, by omega, by omega, h2⟩
        · rintro (⟨j, h1, h2⟩ | ⟨j, h0, h1, h2⟩)
          · exact ⟨j, by omega, h2⟩
          · exact ⟨j, by omega, h2⟩)
      rw [hj] at q3 o4
      have k24 : Keep t2 t4 := k3.trans k4
      have out4 : OutR t4 av avs := out2.keep (k24.chg []) (fun _ _ _ _ _ _ => by simp)
      obtain ⟨v2, s3, s4⟩ := out_hi (b := max H L) out4 (by omega)
      have rd2 : rdLL t4 v2 = some (all.take (max H L)) := by
        unfold rdLL
        rw [s4]
        exact readA_take _ (readA_keep (hH.keep.trans (k02.trans k24)) hH.rd)
      have st2 : Stores (all.take (max H L)) := hs.sub fun x hx => List.mem_of_mem_take hx
      have pw2 : PW (all.take (max H L)) := hp.sub fun x hx => List.mem_of_mem_take hx
      have fl2 := flat_take all (max H L)
      obtain ⟨u3, t5, q4, k5, o5⟩ := call_All rd2 (by omega) (by rw [List.length_take]; omega)
      rw [allP_fold st2 pw2] at q4 o5
      have fo2 := fold_len' (all.take (max H L))
      have q5 := q_Same false (k5.read o4.read) o5.read (by unfold lim; (try dsimp only); omega) (by unfold lim; (try dsimp only); omega)
      simp only [decide_true] at q5
      have k25 : Keep t2 t5 := k24.trans k5
      have hB5 := hB1.keep0 (k2.trans k25)
      obtain ⟨t6, q6, ⟨dv6, vs6, hB6, fr6⟩, hC6, _⟩ := q_Forget_ok hB5 (by omega) (u := ((F - 1 : Nat) : Int)) (by omega) (by omega)
      have hk0 : (((F - 1 : Nat) : Int) - ((0 : Nat) : Int)).toNat = F - 1 := by omega
      rw [hk0] at q6 hB6
      rw [Nat.zero_add] at hB6
      have hv6 := bufR_len hB6
      rw [List.length_drop, ← hN] at hv6
      have rW : read ndC t6 vW = some (W.foldl refJ []) := ((own_NdR ((oW.mono fun id b hb => (k2.trans k25).blk hb))).keep hC6 (apart_two hB5.1)).read
      have q7 := q_betweens false hB6 (by omega) (F : Int) (L : Int) (by have := flat_sub all (F - 1) N; have e : (all.drop (F - 1)).take N = all.drop (F - 1) := List.take_of_length_le (by rw [List.length_drop]; omega); rw [e] at this; omega) (by rw [List.length_drop]; omega) rW (by unfold lim; (try dsimp only); omega) 0
      rw [bet_fold hs hp (by omega) (f := F) (l := L) (by omega) (by omega) (by omega) (by omega), ← hW] at q7
      simp only [decide_true, Bool.and_self] at q7
      have q8 := q_BLen false hB6 (by omega)
      have q9 := q_BLast false hB6 (by omega)
      have q10 := q_BFirst false hB6 (by omega)
      rw [show vs6.length = N - F + 1 by omega] at q8
      rw [show F - 1 + vs6.length = N by omega] at q9
      rw [show F - 1 + 1 = F by omega] at q10
      exact ⟨v1, v2, t3, t4, t5, t6, u1, u2, u3, s1, q2, q3, s3, q4, q5, q6, q7, q8, q9, q10, (hH.keep.trans (k02.trans k25)).chgn hC6 fun id hid => by simp at hid; omega⟩
    by_cases hcut : K < L
    · have hz4 : ((K : Int) < (L : Int)) = True := eq_true (by omega)
      obtain ⟨vP, tp, qp, oP, kp⟩ := q_Between hB1 (by omega) (F : Int) (K : Int) (by omega) (by omega)
      obtain ⟨vQ, tq, qq, oQ, kq⟩ := q_Between (hB1.keep0 kp) (by omega) ((K + 1 : Nat) : Int) (L : Int) (by omega) (by omega)
      have bp := bet_fold (g := 0) hs hp (by omega) (f := F) (l := K) (by omega) (by omega) (by omega) (by omega)
      have bq := bet_fold (g := 0) hs hp (by omega) (f := K + 1) (l := L) (by omega) (by omega) (by omega) (by omega)
      rw [List.drop_zero] at bp bq
      rw [bp] at qp oP
      rw [bq] at qq oQ
      have lp := fold_len' ((all.drop (F - 1)).take (K - (F - 1)))
      have lp2 := flat_sub all (F - 1) (K - (F - 1))
      have lq := fold_len' ((all.drop (K + 1 - 1)).take (L - (K + 1 - 1)))
      have lq2 := flat_sub all (K + 1 - 1) (L - (K + 1 - 1))
      obtain ⟨vS, ts, qs, ks, oS⟩ := call_Join (kq.read oP.read) oQ.read (by (try dsimp only); omega) (by (try dsimp only); omega)
      have hj := join_parts (A := (all.drop (F - 1)).take (K - (F - 1))) (B := (all.drop (K + 1 - 1)).take (L - (K + 1 - 1))) (C := W) hs hp sub_mem sub_mem (fun x => by
        rw [hW, mem_sub, mem_sub, mem_sub]
        constructor
        · rintro ⟨j, h0, h1, h2⟩
          by_cases hj : j < K
          · exact .inl ⟨j, h0, hj, h2⟩
          · exact .inr ⟨j, by omega, h1, h2⟩
        · rintro (⟨j, h0, h1, h2⟩ | ⟨j, h0, h1, h2⟩)
          · exact ⟨j, h0, by omega, h2⟩
          · exact ⟨j, by omega, h1, h2⟩)
      rw [hj] at qs oS
      have qsm := q_Same false oS.read ((kp.trans (kq.trans ks)).read oW.read) (by unfold lim; (try dsimp only); omega) (by unfold lim; (try dsimp only); omega)
      simp only [decide_true] at qsm
      obtain ⟨v1, v2, t3, t4, t5, t6, u1, u2, u3, s1, q2, q3, s3, q4, q5, q6, q7, q8, q9, q10, kk⟩ := tail ts (kp.trans (kq.trans ks))
      simp (config := {maxSteps := 3000000, contextual := true, maxDischargeDepth := 12}) only [tb_at, he, e0, e1, e2, e3, e9, e10, e11, hL, hz2, hLa, hz3, cx, cy, cz, r1, r2, r3, r4, w1, w2, w2', w3, w4, w4', w5, w5', w6, w7, w8, w9, q1, hz4, s1, q2, q3, s3, q4, q5, q6, q7, q8, q9, q10, qp, qq, qs, qsm, ↓bD, bU, forall_const, List.all_cons, List.all_nil, Option.map_some, List.map_cons, List.map_nil, ne_eq, implies_true, isNx, cs_dec, cs_not, cs_and, cs_or, cs_valid, eq_self, ↓wp_cond, ↓wp_loop, ↓reduceIte, reduceCtorEq, Nat.reduceEqDiff, Nat.reduceLT, Nat.reduceAdd, Nat.reduceMul, Int.ofNat_lt, Int.ofNat_le, exists_const, ae_app, ap_slc, Option.map_none, mkR_none, mkR_some, ar_look, ae_mset, ae_rng, ae_mkmap0, ar_ent, lookV_push, lookV_lowed, msetV_push, msetV_lowed, lt_put, same_put, sto_over, sto_lowed, cs_dead, Option.map_some, beq_self_eq_true, decide_true, cs_true, cs_false, aa_bsl, ↓sg_bsl, ap_nchk, nchkV_ptr, bin_np, bin_npn, bin_npx, bin_npnx, ap_mm, mmV_max, mmV_min, res3, ↓st_callf, aa_mksl, ae_copy, ap_slc3, slc3V_all, bin_nss, bin_nsn, aa_bsl, extV_2, q_known, beq_self_eq_true, fstep_d0, fstep_d1, fstep_nd2, fstep_ndt, fstep_ndx, bsl_nd, ap_conv, convV_int]
      exact kk
    · have hz4 : ((K : Int) < (L : Int)) = False := eq_false (by omega)
      obtain ⟨v1, v2, t3, t4, t5, t6, u1, u2, u3, s1, q2, q3, s3, q4, q5, q6, q7, q8, q9, q10, kk⟩ := tail t1 (.refl t1)
      simp (config := {maxSteps := 3000000, contextual := true, maxDischargeDepth := 12}) only [tb_at, he, e0, e1, e2, e3, e9, e10, e11, hL, hz2, hLa, hz3, cx, cy, cz, r1, r2, r3, r4, w1, w2, w2', w3, w4, w4', w5, w5', w6, w7, w8, w9, q1, hz4, s1, q2, q3, s3, q4, q5, q6, q7, q8, q9, q10, ↓bD, bU, forall_const, List.all_cons, List.all_nil, Option.map_some, List.map_cons, List.map_nil, ne_eq, implies_true, isNx, cs_dec, cs_not, cs_and, cs_or, cs_valid, eq_self, ↓wp_cond, ↓wp_loop, ↓reduceIte, reduceCtorEq, Nat.reduceEqDiff, Nat.reduceLT, Nat.reduceAdd, Nat.reduceMul, Int.ofNat_lt, Int.ofNat_le, exists_const, ae_app, ap_slc, Option.map_none, mkR_none, mkR_some, ar_look, ae_mset, ae_rng, ae_mkmap0, ar_ent, lookV_push, lookV_lowed, msetV_push, msetV_lowed, lt_put, same_put, sto_over, sto_lowed, cs_dead, Option.map_some, beq_self_eq_true, decide_true, cs_true, cs_false, aa_bsl, ↓sg_bsl, ap_nchk, nchkV_ptr, bin_np, bin_npn, bin_npx, bin_npnx, ap_mm, mmV_max, mmV_min, res3, ↓st_callf, aa_mksl, ae_copy, ap_slc3, slc3V_all, bin_nss, bin_nsn, aa_bsl, extV_2, q_known, beq_self_eq_true, fstep_d0, fstep_d1, fstep_nd2, fstep_ndt, fstep_ndx, bsl_nd, ap_conv, convV_int]
      exact kk

end Go.AM
end
