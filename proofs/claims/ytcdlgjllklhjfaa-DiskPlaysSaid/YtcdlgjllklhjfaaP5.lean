/-
  DiskPlays. Own work of this project; in part printed by a program of it.
-/
import Derived.Test.YtcdlgjllklhjfaaP4
set_option linter.unusedVariables false
set_option linter.unusedSimpArgs false
section
set_option maxRecDepth 100000
set_option maxHeartbeats 8000000
namespace Go.AM
open Go Go.Proofs

variable {s t u : St}
theorem s_DiskPlays : SoundAt Try.prog 6 (lawC Try.prog 8 [3, 3, 47]) :=
  con_keep (tb_sound (l := [(10, closed [] (.bool true)), (8, R_New), (12, R_RNew), (18, R_Small), (22, R_copied), (13, R_Write2), (16, R_RWrite), (14, R_Crash2), (17, R_RCrash), (23, R_RRead), (15, R_reads2), (19, R_Read2), (24, R_RSplit), (25, R_splits), (20, cSplit), (21, R_Copy2), (26, R_Same), (11, R_alike)]) (by simpa using ⟨s_known, s_New, s_RNew, s_Small, s_copied, s_Write2, s_RWrite, s_Crash2, s_RCrash, s_RRead, s_reads2, s_Read2, s_RSplit, s_splits, s_Split, s_Copy2, s_Same, s_alike⟩)) mixed Try.func6 k6 c6 fun args s r s' h => by
    obtain ⟨hh, rfl, rfl⟩ := lawC_some h
    obtain ⟨y1, y2, vl, rfl, k1, k2, k3⟩ := rdas_3 hh
    obtain ⟨a, rfl, _⟩ := rda_int i64_under k1
    obtain ⟨z, rfl, _⟩ := rda_int i64_under k2
    obtain ⟨N, hL, hat⟩ := rda_acts k3
    refine ⟨rfl, rfl, by simp [a6], fun env hlen ha => ?_⟩
    have h0 : E env 0 = _ := ha 0 _ rfl
    have h1 : E env 1 = _ := ha 1 _ rfl
    have h2 : E env 2 = _ := ha 2 _ rfl
    have hlen : elen env = _ := hlen
    simp only [a6] at hlen
    unfold a6
    try dsimp only [oO, oG]
    have n00 : ((0 : Int) = 0) = True := eq_true rfl
    have n30 : ((3 : Int) = 0) = False := eq_false (by decide)
    have n33 : ((3 : Int) = 3) = True := eq_true rfl
    by_cases c1 : a < 1
    · have z1 := eq_true c1
      simp (config := {contextual := true, maxDischargeDepth := 12, maxSteps := 4000000}) only [tb_at, h0, h1, h2, hlen, z1, notV_bool, Bool.not_true, Bool.not_false, pickV_t, pickV_f, bin_eql, bin_neb, bin_npn, bin_np, n00, n30, n33, decide_true, decide_false, gcall_tt, ap_conv, beq_self_eq_true, Bool.true_and, Bool.and_true, ↓bD, bU, forall_const, bS, implies_true, isNx, eq_self, ↓wp_cond, ↓wp_loop, ↓reduceIte, reduceCtorEq, Nat.reduceEqDiff, Nat.reduceLT, Nat.reduceAdd, Nat.reduceMul, bT, ↓sg_bsl, ↓st_callf, bX, ar_b2s, bin_mulE, ap_mkfn, ↓wi_seq, ↓wi_base, ↓wi_block, ↓wi_cond, ↓wi_loop, ↓wi_rf, ↓wy_seq, ↓wy_base, ↓wy_block, ↓wy_cond, ↓wy_loop, ↓wy_yld, q_known, ↓sg_callf3, ↓st_appf]
      all_goals first | exact .refl s | skip
    have z1 := eq_false c1
    by_cases c2 : 8 < a
    · have z2 := eq_true c2
      simp (config := {contextual := true, maxDischargeDepth := 12, maxSteps := 4000000}) only [tb_at, h0, h1, h2, hlen, z1, z2, notV_bool, Bool.not_true, Bool.not_false, pickV_t, pickV_f, bin_eql, bin_neb, bin_npn, bin_np, n00, n30, n33, decide_true, decide_false, gcall_tt, ap_conv, beq_self_eq_true, Bool.true_and, Bool.and_true, ↓bD, bU, forall_const, bS, implies_true, isNx, eq_self, ↓wp_cond, ↓wp_loop, ↓reduceIte, reduceCtorEq, Nat.reduceEqDiff, Nat.reduceLT, Nat.reduceAdd, Nat.reduceMul, bT, ↓sg_bsl, ↓st_callf, bX, ar_b2s, bin_mulE, ap_mkfn, ↓wi_seq, ↓wi_base, ↓wi_block, ↓wi_cond, ↓wi_loop, ↓wi_rf, ↓wy_seq, ↓wy_base, ↓wy_block, ↓wy_cond, ↓wy_loop, ↓wy_yld, q_known, ↓sg_callf3, ↓st_appf]
      all_goals first | exact .refl s | skip
    have z2 := eq_false c2
    by_cases c3 : z < 32
    · have z3 := eq_true c3
      simp (config := {contextual := true, maxDischargeDepth := 12, maxSteps := 4000000}) only [tb_at, h0, h1, h2, hlen, z1, z2, z3, notV_bool, Bool.not_true, Bool.not_false, pickV_t, pickV_f, bin_eql, bin_neb, bin_npn, bin_np, n00, n30, n33, decide_true, decide_false, gcall_tt, ap_conv, beq_self_eq_true, Bool.true_and, Bool.and_true, ↓bD, bU, forall_const, bS, implies_true, isNx, eq_self, ↓wp_cond, ↓wp_loop, ↓reduceIte, reduceCtorEq, Nat.reduceEqDiff, Nat.reduceLT, Nat.reduceAdd, Nat.reduceMul, bT, ↓sg_bsl, ↓st_callf, bX, ar_b2s, bin_mulE, ap_mkfn, ↓wi_seq, ↓wi_base, ↓wi_block, ↓wi_cond, ↓wi_loop, ↓wi_rf, ↓wy_seq, ↓wy_base, ↓wy_block, ↓wy_cond, ↓wy_loop, ↓wy_yld, q_known, ↓sg_callf3, ↓st_appf]
      all_goals first | exact .refl s | skip
    have z3 := eq_false c3
    by_cases c4 : 64 < z
    · have z4 := eq_true c4
      simp (config := {contextual := true, maxDischargeDepth := 12, maxSteps := 4000000}) only [tb_at, h0, h1, h2, hlen, z1, z2, z3, z4, notV_bool, Bool.not_true, Bool.not_false, pickV_t, pickV_f, bin_eql, bin_neb, bin_npn, bin_np, n00, n30, n33, decide_true, decide_false, gcall_tt, ap_conv, beq_self_eq_true, Bool.true_and, Bool.and_true, ↓bD, bU, forall_const, bS, implies_true, isNx, eq_self, ↓wp_cond, ↓wp_loop, ↓reduceIte, reduceCtorEq, Nat.reduceEqDiff, Nat.reduceLT, Nat.reduceAdd, Nat.reduceMul, bT, ↓sg_bsl, ↓st_callf, bX, ar_b2s, bin_mulE, ap_mkfn, ↓wi_seq, ↓wi_base, ↓wi_block, ↓wi_cond, ↓wi_loop, ↓wi_rf, ↓wy_seq, ↓wy_base, ↓wy_block, ↓wy_cond, ↓wy_loop, ↓wy_yld, q_known, ↓sg_callf3, ↓st_appf]
      all_goals first | exact .refl s | skip
    have z4 := eq_false c4
    by_cases c5 : (30 : Int) < (N : Int)
    · have z5 := eq_true c5
      simp (config := {contextual := true, maxDischargeDepth := 12, maxSteps := 4000000}) only [tb_at, h0, h1, h2, hlen, z1, z2, z3, z4, z5, hL, notV_bool, Bool.not_true, Bool.not_false, pickV_t, pickV_f, bin_eql, bin_neb, bin_npn, bin_np, n00, n30, n33, decide_true, decide_false, gcall_tt, ap_conv, beq_self_eq_true, Bool.true_and, Bool.and_true, ↓bD, bU, forall_const, bS, implies_true, isNx, eq_self, ↓wp_cond, ↓wp_loop, ↓reduceIte, reduceCtorEq, Nat.reduceEqDiff, Nat.reduceLT, Nat.reduceAdd, Nat.reduceMul, bT, ↓sg_bsl, ↓st_callf, bX, ar_b2s, bin_mulE, ap_mkfn, ↓wi_seq, ↓wi_base, ↓wi_block, ↓wi_cond, ↓wi_loop, ↓wi_rf, ↓wy_seq, ↓wy_base, ↓wy_block, ↓wy_cond, ↓wy_loop, ↓wy_yld, q_known, ↓sg_callf3, ↓st_appf]
      all_goals first | exact .refl s | skip
    have z5 := eq_false c5
    obtain ⟨a, rfl⟩ : ∃ n : Nat, a = (n : Int) := ⟨a.toNat, by omega⟩
    obtain ⟨z, rfl⟩ : ∃ n : Nat, z = (n : Int) := ⟨z.toNat, by omega⟩
    have hzz : 0 < z := by omega
    have hab : a * z ≤ 8 * 64 := Nat.mul_le_mul (by omega) (by omega)
    obtain ⟨id0, j0, t0, qn, hd0, hid0, hj0, hK0⟩ := q_NewF_ok (s := s) a z ⟨by omega, by omega, by omega, by omega⟩ (by omega)
    obtain ⟨jx, qs, t1, qx, hX0, hK1⟩ := q_RNewX (s := t0) a z (by omega) (by omega) hzz (by omega)
    obtain ⟨ix, hix⟩ : ∃ ix, ix = t0.next := ⟨_, rfl⟩
    rw [← hix] at qx hX0
    have hK01 := hK0.trans hK1
    have hfl0 : (List.replicate a (List.replicate z (0 : UInt8))).flatten = List.replicate (a * z) 0 := List.flatten_replicate_replicate
    have hP0 : Plr s t1 id0 j0 (some (a * z)) ix jx qs z (List.replicate a (List.replicate z 0)) := ⟨by rw [hfl0]; exact hd0.keep hK1, hX0.of hK0.next, hid0, hj0, fun hq => by
      have h1 := hX0.hqs _ hq
      have h2 := St.get_lt hd0.dat
      omega, by simp; omega⟩
    simp (config := {contextual := true, maxDischargeDepth := 12, maxSteps := 4000000}) only [tb_at, h0, h1, h2, hlen, z1, z2, z3, z4, z5, hL, qn, qx, notV_bool, Bool.not_true, Bool.not_false, pickV_t, pickV_f, bin_eql, bin_neb, bin_npn, bin_np, n00, n30, n33, decide_true, decide_false, gcall_tt, ap_conv, beq_self_eq_true, Bool.true_and, Bool.and_true, ↓bD, bU, forall_const, bS, implies_true, isNx, eq_self, ↓wp_cond, ↓wp_loop, ↓reduceIte, reduceCtorEq, Nat.reduceEqDiff, Nat.reduceLT, Nat.reduceAdd, Nat.reduceMul, bT, ↓sg_bsl, ↓st_callf, bX, ar_b2s, bin_mulE, ap_mkfn, ↓wi_seq, ↓wi_base, ↓wi_block, ↓wi_cond, ↓wi_loop, ↓wi_rf, ↓wy_seq, ↓wy_base, ↓wy_block, ↓wy_cond, ↓wy_loop, ↓wy_yld, q_known, ↓sg_callf3, ↓st_appf]
    obtain ⟨I, hI⟩ : ∃ I : Nat → Env → St → Prop, ∀ n e t, I n e t = (Keep s t ∧ ∃ (i : Nat) (id : Nat) (j : Nat) (cap : Option Nat) (ls : List (List UInt8)), n + i = N ∧ elen e = 296 ∧ E e 0 = .int .i64 (a : Int) ∧ E e 1 = .int .i64 (z : Int) ∧ E e 2 = vl ∧ E e 7 = .ptr id 0 ∧ E e 9 = .ptr ix 0 ∧ E e 10 = .int .i64 (i : Int) ∧ Plr s t id j cap ix jx qs z ls ∧ ls.length = a) := ⟨fun n e t => (Keep s t ∧ ∃ (i : Nat) (id : Nat) (j : Nat) (cap : Option Nat) (ls : List (List UInt8)), n + i = N ∧ elen e = 296 ∧ E e 0 = .int .i64 (a : Int) ∧ E e 1 = .int .i64 (z : Int) ∧ E e 2 = vl ∧ E e 7 = .ptr id 0 ∧ E e 9 = .ptr ix 0 ∧ E e 10 = .int .i64 (i : Int) ∧ Plr s t id j cap ix jx qs z ls ∧ ls.length = a), fun _ _ _ => rfl⟩
    refine lwp_inv I (n := N) ?_ ?_
    · rw [hI]
      exact ⟨hK01, 0, id0, j0, some (a * z), _, by omega, (by simp only [bE, Nat.reduceEqDiff, bN, Nat.reduceLT, hlen]; try rfl), (by simp only [bE, Nat.reduceEqDiff, bN, Nat.reduceLT, hlen, h0]; try rfl), (by simp only [bE, Nat.reduceEqDiff, bN, Nat.reduceLT, hlen, h1]; try rfl), (by simp only [bE, Nat.reduceEqDiff, bN, Nat.reduceLT, hlen, h2]; try rfl), (by simp only [bE, Nat.reduceEqDiff, bN, Nat.reduceLT, hlen]; try rfl), (by simp only [bE, Nat.reduceEqDiff, bN, Nat.reduceLT, hlen]; try rfl), (by simp only [bE, Nat.reduceEqDiff, bN, Nat.reduceLT, hlen]; try rfl), hP0, by simp⟩
    clear h0 h1 h2 hlen ha qn qx
    intro n e t hi
    rw [hI] at hi
    obtain ⟨hK, i, id, j, cap, ls, hni, he, e0, e1, e2, e7, e9, e10, hP, hla⟩ := hi
    by_cases hlt : i < N
    rotate_left
    · obtain rfl : i = N := by omega
      have y1 := eq_false (show ¬ (i : Int) < (i : Int) by omega)
      simp (config := {contextual := true, maxDischargeDepth := 12, maxSteps := 4000000}) only [tb_at, he, e0, e1, e2, e7, e9, e10, hL, y1, notV_bool, Bool.not_true, Bool.not_false, pickV_t, pickV_f, bin_eql, bin_neb, bin_npn, bin_np, n00, n30, n33, decide_true, decide_false, gcall_tt, ap_conv, beq_self_eq_true, Bool.true_and, Bool.and_true, ↓bD, bU, forall_const, bS, implies_true, isNx, eq_self, ↓wp_cond, ↓wp_loop, ↓reduceIte, reduceCtorEq, Nat.reduceEqDiff, Nat.reduceLT, Nat.reduceAdd, Nat.reduceMul, bT, ↓sg_bsl, ↓st_callf, bX, ar_b2s, bin_mulE, ap_mkfn, ↓wi_seq, ↓wi_base, ↓wi_block, ↓wi_cond, ↓wi_loop, ↓wi_rf, ↓wy_seq, ↓wy_base, ↓wy_block, ↓wy_cond, ↓wy_loop, ↓wy_yld, q_known, ↓sg_callf3, ↓st_appf]
      all_goals first | exact hK | skip
    have y1 := eq_true (show (i : Int) < (N : Int) by omega)
    have hw2 := wrap_add1 (n := i) (by omega)
    obtain ⟨w, A, B, st, L, p, hi1, hlod, hLA⟩ := hat i hlt
    have hlp := hlod t hK
    have hst1 := hLA.one
    have hs4 := sto4 (t := t) (w := w) (a := A) (b := B) hst1
    obtain ⟨tb, htb⟩ : ∃ tb, tb = t.lowed.push (.row [.int .i64 w, .int .i64 A, .int .i64 B, st] true) := ⟨_, rfl⟩
    rw [← htb] at hs4
    have hKb : Keep t tb := by rw [htb]; exact (Keep.refl t).lowed.push _
    have hKsb := hK.trans hKb
    have hgb : tb.get t.next = some (.row [.int .i64 w, .int .i64 A, .int .i64 B, st] true) := by rw [htb]; exact St.get_push_new t.lowed _
    obtain ⟨bx, hbx⟩ : ∃ bx, bx = t.next := ⟨_, rfl⟩
    rw [← hbx] at hgb hs4
    obtain ⟨lb0, lb1, lb2, lb3, lblt⟩ := row4_lod hgb
    have qsm := q_Small false (hLA.arg.mono hKsb) 8 (by omega)
    have qsm : acall R_Small false [st, .int .i64 8] tb = some (.bool (smallL L 8), tb) := qsm
    by_cases hsm : smallL L 8 = true
    rotate_left
    · have hsm : smallL L 8 = false := by simpa using hsm
      rw [hsm] at qsm
      simp (config := {contextual := true, maxDischargeDepth := 12, maxSteps := 4000000}) only [tb_at, he, e0, e1, e2, e7, e9, e10, hL, y1, hi1, hlp, ← hbx, hs4, lb3, lblt, qsm, notV_bool, Bool.not_true, Bool.not_false, pickV_t, pickV_f, bin_eql, bin_neb, bin_npn, bin_np, n00, n30, n33, decide_true, decide_false, gcall_tt, ap_conv, beq_self_eq_true, Bool.true_and, Bool.and_true, ↓bD, bU, forall_const, bS, implies_true, isNx, eq_self, ↓wp_cond, ↓wp_loop, ↓reduceIte, reduceCtorEq, Nat.reduceEqDiff, Nat.reduceLT, Nat.reduceAdd, Nat.reduceMul, bT, ↓sg_bsl, ↓st_callf, bX, ar_b2s, bin_mulE, ap_mkfn, ↓wi_seq, ↓wi_base, ↓wi_block, ↓wi_cond, ↓wi_loop, ↓wi_rf, ↓wy_seq, ↓wy_base, ↓wy_block, ↓wy_cond, ↓wy_loop, ↓wy_yld, q_known, ↓sg_callf3, ↓st_appf]
      all_goals first | exact hKsb | skip
    rw [hsm] at qsm
    have hL8 : L.length ≤ 8 := by
      unfold smallL at hsm
      simp only [Bool.and_eq_true, decide_eq_true_eq] at hsm
      exact hsm.2
    have hL70 : ∀ x ∈ L, x.2.length ≤ 70 := fun x hx => by
      unfold smallL at hsm
      simp only [Bool.and_eq_true] at hsm
      rw [List.take_of_length_le hL8] at hsm
      have := List.all_eq_true.1 hsm.1 x hx
      simpa using this
    refine awp_cutM (fun e tq => t = tq ∧ elen e = 296 ∧ E e 0 = .int .i64 (a : Int) ∧ E e 1 = .int .i64 (z : Int) ∧ E e 2 = vl ∧ E e 7 = .ptr id 0 ∧ E e 9 = .ptr ix 0 ∧ E e 10 = .int .i64 (i : Int)) ?_ ?_
    · simp (config := {contextual := true, maxDischargeDepth := 12}) only [tb_at, he, e0, e1, e2, e7, e9, e10, hL, y1, notV_bool, Bool.not_true, Bool.not_false, pickV_t, pickV_f, bin_eql, bin_neb, bin_npn, bin_np, n00, n30, n33, decide_true, decide_false, gcall_tt, ap_conv, beq_self_eq_true, Bool.true_and, Bool.and_true, ↓bD, bU, forall_const, bS, implies_true, isNx, eq_self, ↓wp_cond, ↓wp_loop, ↓reduceIte, reduceCtorEq, Nat.reduceEqDiff, Nat.reduceLT, Nat.reduceAdd, Nat.reduceMul, bT, ↓sg_bsl, ↓st_callf, bX, ar_b2s, bin_mulE, ap_mkfn, ↓wi_seq, ↓wi_base, ↓wi_block, ↓wi_cond, ↓wi_loop, ↓wi_rf, ↓wy_seq, ↓wy_base, ↓wy_block, ↓wy_cond, ↓wy_loop, ↓wy_yld, q_known, ↓sg_callf3, ↓st_appf]
    clear he e0 e1 e2 e7 e9 e10
    rintro e _ ⟨rfl, he, e0, e1, e2, e7, e9, e10⟩
    obtain ⟨MB, hMB⟩ : ∃ MB : Env → St → Prop, ∀ e u, MB e u = (∃ (id1 j1 : Nat) (cap1 : Option Nat) (ls1 : List (List UInt8)), Keep s u ∧ Plr s u id1 j1 cap1 ix jx qs z ls1 ∧ ls1.length = a ∧ elen e = 296 ∧ E e 0 = .int .i64 (a : Int) ∧ E e 1 = .int .i64 (z : Int) ∧ E e 2 = vl ∧ E e 7 = .ptr id1 0 ∧ E e 9 = .ptr ix 0 ∧ E e 10 = .int .i64 (i : Int)) := ⟨_, fun _ _ => rfl⟩
    refine awp_cutM MB ?_ ?_
    rotate_left
    · clear he e0 e1 e2 e7 e9 e10
      intro e u hm
      rw [hMB] at hm
      obtain ⟨id1, j1, cap1, ls1, hKn, hPn, hln, he, e0, e1, e2, e7, e9, e10⟩ := hm
      simp (config := {contextual := true, maxDischargeDepth := 12, maxSteps := 4000000}) only [tb_at, he, e0, e1, e2, e7, e9, e10, hw2, notV_bool, Bool.not_true, Bool.not_false, pickV_t, pickV_f, bin_eql, bin_neb, bin_npn, bin_np, n00, n30, n33, decide_true, decide_false, gcall_tt, ap_conv, beq_self_eq_true, Bool.true_and, Bool.and_true, ↓bD, bU, forall_const, bS, implies_true, isNx, eq_self, ↓wp_cond, ↓wp_loop, ↓reduceIte, reduceCtorEq, Nat.reduceEqDiff, Nat.reduceLT, Nat.reduceAdd, Nat.reduceMul, bT, ↓sg_bsl, ↓st_callf, bX, ar_b2s, bin_mulE, ap_mkfn, ↓wi_seq, ↓wi_base, ↓wi_block, ↓wi_cond, ↓wi_loop, ↓wi_rf, ↓wy_seq, ↓wy_base, ↓wy_block, ↓wy_cond, ↓wy_loop, ↓wy_yld, q_known, ↓sg_callf3, ↓st_appf]
      refine ⟨n - 1, by omega, ?_⟩
      rw [hI]
      exact ⟨hKn, i + 1, id1, j1, cap1, ls1, by omega, (by simp only [bE, Nat.reduceEqDiff, bN, Nat.reduceLT, he, e0, e1, e2, e7, e9, e10]; try rfl), (by simp only [bE, Nat.reduceEqDiff, bN, Nat.reduceLT, he, e0, e1, e2, e7, e9, e10]; try rfl), (by simp only [bE, Nat.reduceEqDiff, bN, Nat.reduceLT, he, e0, e1, e2, e7, e9, e10]; try rfl), (by simp only [bE, Nat.reduceEqDiff, bN, Nat.reduceLT, he, e0, e1, e2, e7, e9, e10]; try rfl), (by simp only [bE, Nat.reduceEqDiff, bN, Nat.reduceLT, he, e0, e1, e2, e7, e9, e10]; try rfl), (by simp only [bE, Nat.reduceEqDiff, bN, Nat.reduceLT, he, e0, e1, e2, e7, e9, e10]; try rfl), (by simp only [bE, Nat.reduceEqDiff, bN, Nat.reduceLT, he, e0, e1, e2, e7, e9, e10]; try rfl), hPn, hln⟩
    refine awp_blockM ?_
    refine awp_cutM (fun e tq => tb = tq ∧ elen e = 296 ∧ E e 0 = .int .i64 (a : Int) ∧ E e 1 = .int .i64 (z : Int) ∧ E e 2 = vl ∧ E e 7 = .ptr id 0 ∧ E e 9 = .ptr ix 0 ∧ E e 10 = .int .i64 (i : Int) ∧ E e 11 = .ptr bx 0) ?_ ?_
    · simp (config := {contextual := true, maxDischargeDepth := 12}) only [tb_at, he, e0, e1, e2, e7, e9, e10, hi1, hlp, ← hbx, hs4, notV_bool, Bool.not_true, Bool.not_false, pickV_t, pickV_f, bin_eql, bin_neb, bin_npn, bin_np, n00, n30, n33, decide_true, decide_false, gcall_tt, ap_conv, beq_self_eq_true, Bool.true_and, Bool.and_true, ↓bD, bU, forall_const, bS, implies_true, isNx, eq_self, ↓wp_cond, ↓wp_loop, ↓reduceIte, reduceCtorEq, Nat.reduceEqDiff, Nat.reduceLT, Nat.reduceAdd, Nat.reduceMul, bT, ↓sg_bsl, ↓st_callf, bX, ar_b2s, bin_mulE, ap_mkfn, ↓wi_seq, ↓wi_base, ↓wi_block, ↓wi_cond, ↓wi_loop, ↓wi_rf, ↓wy_seq, ↓wy_base, ↓wy_block, ↓wy_cond, ↓wy_loop, ↓wy_yld, q_known, ↓sg_callf3, ↓st_appf]
    clear he e0 e1 e2 e7 e9 e10
    rintro e _ ⟨rfl, he, e0, e1, e2, e7, e9, e10, e11⟩
    refine awp_cutM (fun e tq => tb = tq ∧ elen e = 296 ∧ E e 0 = .int .i64 (a : Int) ∧ E e 1 = .int .i64 (z : Int) ∧ E e 2 = vl ∧ E e 7 = .ptr id 0 ∧ E e 9 = .ptr ix 0 ∧ E e 10 = .int .i64 (i : Int) ∧ E e 11 = .ptr bx 0) ?_ ?_
    · simp (config := {contextual := true, maxDischargeDepth := 12}) only [tb_at, he, e0, e1, e2, e7, e9, e10, e11, lb3, lblt, qsm, notV_bool, Bool.not_true, Bool.not_false, pickV_t, pickV_f, bin_eql, bin_neb, bin_npn, bin_np, n00, n30, n33, decide_true, decide_false, gcall_tt, ap_conv, beq_self_eq_true, Bool.true_and, Bool.and_true, ↓bD, bU, forall_const, bS, implies_true, isNx, eq_self, ↓wp_cond, ↓wp_loop, ↓reduceIte, reduceCtorEq, Nat.reduceEqDiff, Nat.reduceLT, Nat.reduceAdd, Nat.reduceMul, bT, ↓sg_bsl, ↓st_callf, bX, ar_b2s, bin_mulE, ap_mkfn, ↓wi_seq, ↓wi_base, ↓wi_block, ↓wi_cond, ↓wi_loop, ↓wi_rf, ↓wy_seq, ↓wy_base, ↓wy_block, ↓wy_cond, ↓wy_loop, ↓wy_yld, q_known, ↓sg_callf3, ↓st_appf]
    clear he e0 e1 e2 e7 e9 e10 e11
    rintro e _ ⟨rfl, he, e0, e1, e2, e7, e9, e10, e11⟩
    obtain ⟨vo, sts, tc, qc, hOw, hKc⟩ := q_copied (s := tb) (v := st) (L := L) (hLA.apartM hKsb (M := []) (by simp)) (by omega) (fun x hx => by have := hL70 x hx; omega)
    refine awp_cutM (fun e tq => tc = tq ∧ elen e = 296 ∧ E e 0 = .int .i64 (a : Int) ∧ E e 1 = .int .i64 (z : Int) ∧ E e 2 = vl ∧ E e 7 = .ptr id 0 ∧ E e 9 = .ptr ix 0 ∧ E e 10 = .int .i64 (i : Int) ∧ E e 11 = .ptr bx 0 ∧ E e 12 = vo) ?_ ?_
    · simp (config := {contextual := true, maxDischargeDepth := 12}) only [tb_at, he, e0, e1, e2, e7, e9, e10, e11, lb3, lblt, qc, notV_bool, Bool.not_true, Bool.not_false, pickV_t, pickV_f, bin_eql, bin_neb, bin_npn, bin_np, n00, n30, n33, decide_true, decide_false, gcall_tt, ap_conv, beq_self_eq_true, Bool.true_and, Bool.and_true, ↓bD, bU, forall_const, bS, implies_true, isNx, eq_self, ↓wp_cond, ↓wp_loop, ↓reduceIte, reduceCtorEq, Nat.reduceEqDiff, Nat.reduceLT, Nat.reduceAdd, Nat.reduceMul, bT, ↓sg_bsl, ↓st_callf, bX, ar_b2s, bin_mulE, ap_mkfn, ↓wi_seq, ↓wi_base, ↓wi_block, ↓wi_cond, ↓wi_loop, ↓wi_rf, ↓wy_seq, ↓wy_base, ↓wy_block, ↓wy_cond, ↓wy_loop, ↓wy_yld, q_known, ↓sg_callf3, ↓st_appf]
    clear he e0 e1 e2 e7 e9 e10 e11
    rintro e _ ⟨rfl, he, e0, e1, e2, e7, e9, e10, e11, e12⟩
    have hKsc := hKsb.trans hKc
    have hPc := (hP.keep hKb).keep hKc
    have hgc := hKc.blk hgb
    obtain ⟨lc0, lc1, lc2, lc3, lclt⟩ := row4_lod hgc
    have hbn : bx < tb.next := St.get_lt hgb
    have hidt := St.get_lt hP.dk.box
    have hjt := St.get_lt hP.dk.dat
    have hixt := St.get_lt hP.xk.box
    have hjxt := St.get_lt hP.xk.lst
    have hqt : ∀ q ∈ qs, q < t.next := fun q hq => by
      obtain ⟨_, _, h⟩ := hP.xk.mem hq
      exact St.get_lt h
    have htbn := hKb.next
    have htcn := hKc.next
    have htb1 : bx < tb.next := hbn
    obtain ⟨nax, najx, naid, naij⟩ := hP.apart
    obtain ⟨hfl1, hfl2, hfl3⟩ := hP.len
    have hlw : ls.length ≤ 8 := by omega
    have hzl : z ≤ 64 := by omega
    have hflb : ls.flatten.length ≤ 512 := by
      have := Nat.mul_le_mul hlw hzl
      omega
    have hsn : s.next ≤ t.next := hK.next
    have hbxq : bx ∉ qs := fun hq => by have := hqt _ hq; omega
    have hbxj : bx ≠ j := by omega
    obtain ⟨M4, hM4⟩ : ∃ M4 : Env → St → Prop, ∀ e u, M4 e u = (∃ (id1 j1 : Nat) (cap1 : Option Nat) (ls1 : List (List UInt8)), Keep s u ∧ Plr s u id1 j1 cap1 ix jx qs z ls1 ∧ ls1.length = a ∧ OwB tb u vo L sts ∧ u.get bx = some (.row [.int .i64 w, .int .i64 A, .int .i64 B, st] true) ∧ (id1 < tb.next ∨ tc.next ≤ id1) ∧ (j1 < tb.next ∨ tc.next ≤ j1) ∧ elen e = 296 ∧ E e 0 = .int .i64 (a : Int) ∧ E e 1 = .int .i64 (z : Int) ∧ E e 2 = vl ∧ E e 7 = .ptr id1 0 ∧ E e 9 = .ptr ix 0 ∧ E e 10 = .int .i64 (i : Int) ∧ E e 11 = .ptr bx 0 ∧ E e 12 = vo) := ⟨_, fun _ _ => rfl⟩
    refine awp_cutM M4 ?_ ?_
    · by_cases w0 : w = 0
      · have y0 := eq_true w0
        have hBj : BwJ j tc vo L := (hOw.bwm (M := [j]) (by simp; omega)).jay
        obtain ⟨tA, q1, hdA, hCA⟩ := q_Write2 hPc.dk hBj (by omega)
        rw [hfl3] at q1
        have hKA : Keep s tA := hKsc.chgn hCA fun k hk => by simp at hk; subst hk; exact hP.hj
        have hXA := hPc.xk.chg hCA (by simpa using nax) (by simpa using najx) (fun q hq => by simp; rintro rfl; exact hP.nj hq)
        obtain ⟨tB, q2, hXB, hCB⟩ := q_RWrite hXA (hLA.apartM hKA (M := qs) hP.xk.hqs) (by omega)
        have hKB : Keep s tB := hKA.chgn hCB hP.xk.hqs
        have hdB := hdA.chgM hCB naid hP.nj
        have hgA := hCA.blk hgc (by simpa using hbxj)
        have hgB := hCB.blk hgA hbxq
        obtain ⟨la0, la1, la2, la3, lalt⟩ := row4_lod hgA
        have hPB : Plr s tB id j cap ix jx qs z (wrRS z ls L) := ⟨by rw [wrS_flat hzz hP.xk.rows]; exact hdB, hXB, hP.hid, hP.hj, hP.nj, by
          unfold wrRS
          split
          · rw [wrR_len]; exact hP.l0
          · exact hP.l0⟩
        have hlB : (wrRS z ls L).length = a := by
          unfold wrRS
          split
          · rw [wrR_len]; exact hla
          · exact hla
        have hOA := hOw.chg hCA (by simp; omega)
        have hOB := hOA.chg hCB (fun q hq => .inl (by have := hqt q hq; omega))
        simp (config := {contextual := true, maxDischargeDepth := 12, maxSteps := 4000000}) only [tb_at, he, e0, e1, e2, e7, e9, e10, e11, e12, lc0, lc3, lclt, y0, q1, la3, lalt, q2, notV_bool, Bool.not_true, Bool.not_false, pickV_t, pickV_f, bin_eql, bin_neb, bin_npn, bin_np, n00, n30, n33, decide_true, decide_false, gcall_tt, ap_conv, beq_self_eq_true, Bool.true_and, Bool.and_true, ↓bD, bU, forall_const, bS, implies_true, isNx, eq_self, ↓wp_cond, ↓wp_loop, ↓reduceIte, reduceCtorEq, Nat.reduceEqDiff, Nat.reduceLT, Nat.reduceAdd, Nat.reduceMul, bT, ↓sg_bsl, ↓st_callf, bX, ar_b2s, bin_mulE, ap_mkfn, ↓wi_seq, ↓wi_base, ↓wi_block, ↓wi_cond, ↓wi_loop, ↓wi_rf, ↓wy_seq, ↓wy_base, ↓wy_block, ↓wy_cond, ↓wy_loop, ↓wy_yld, q_known, ↓sg_callf3, ↓st_appf]
        all_goals first | (refine ⟨rfl, ?_⟩) | skip
        rw [hM4]
        exact ⟨id, j, cap, _, hKB, hPB, hlB, hOB, hgB, .inl (by omega), .inl (by omega), (by simp only [bE, Nat.reduceEqDiff, bN, Nat.reduceLT, he, e0, e1, e2, e7, e9, e10, e11, e12]; try rfl), (by simp only [bE, Nat.reduceEqDiff, bN, Nat.reduceLT, he, e0, e1, e2, e7, e9, e10, e11, e12]; try rfl), (by simp only [bE, Nat.reduceEqDiff, bN, Nat.reduceLT, he, e0, e1, e2, e7, e9, e10, e11, e12]; try rfl), (by simp only [bE, Nat.reduceEqDiff, bN, Nat.reduceLT, he, e0, e1, e2, e7, e9, e10, e11, e12]; try rfl), (by simp only [bE, Nat.reduceEqDiff, bN, Nat.reduceLT, he, e0, e1, e2, e7, e9, e10, e11, e12]; try rfl), (by simp only [bE, Nat.reduceEqDiff, bN, Nat.reduceLT, he, e0, e1, e2, e7, e9, e10, e11, e12]; try rfl), (by simp only [bE, Nat.reduceEqDiff, bN, Nat.reduceLT, he, e0, e1, e2, e7, e9, e10, e11, e12]; try rfl), (by simp only [bE, Nat.reduceEqDiff, bN, Nat.reduceLT, he, e0, e1, e2, e7, e9, e10, e11, e12]; try rfl), (by simp only [bE, Nat.reduceEqDiff, bN, Nat.reduceLT, he, e0, e1, e2, e7, e9, e10, e11, e12]; try rfl)⟩
      have y0 := eq_false w0
      by_cases w1 : w = 1
      · have y1 := eq_true w1
        have y2 : (w = 2) = False := eq_false (by omega)
        by_cases hce : crE ls.length z L (A) (B) = 0
        rotate_left
        · have hBj : BwJ j tc vo L := (hOw.bwm (M := [j]) (by simp; omega)).jay
          have q1 := q_Crash2_e false hPc.dk hBj (by omega) (w := A) (m := B) (by rw [hfl3]; exact hce)
          rw [hfl3] at q1
          have q2 := q_RCrash_e false hPc.xk (hLA.apartM hKsc (M := qs) hP.xk.hqs) (by omega) (w := A) (m := B) hce
          simp (config := {contextual := true, maxDischargeDepth := 12, maxSteps := 4000000}) only [tb_at, he, e0, e1, e2, e7, e9, e10, e11, e12, lc0, lc1, lc2, lc3, lclt, y0, q1, q2, y1, y2, notV_bool, Bool.not_true, Bool.not_false, pickV_t, pickV_f, bin_eql, bin_neb, bin_npn, bin_np, n00, n30, n33, decide_true, decide_false, gcall_tt, ap_conv, beq_self_eq_true, Bool.true_and, Bool.and_true, ↓bD, bU, forall_const, bS, implies_true, isNx, eq_self, ↓wp_cond, ↓wp_loop, ↓reduceIte, reduceCtorEq, Nat.reduceEqDiff, Nat.reduceLT, Nat.reduceAdd, Nat.reduceMul, bT, ↓sg_bsl, ↓st_callf, bX, ar_b2s, bin_mulE, ap_mkfn, ↓wi_seq, ↓wi_base, ↓wi_block, ↓wi_cond, ↓wi_loop, ↓wi_rf, ↓wy_seq, ↓wy_base, ↓wy_block, ↓wy_cond, ↓wy_loop, ↓wy_yld, q_known, ↓sg_callf3, ↓st_appf]
          all_goals first | (refine ⟨rfl, ?_⟩) | skip
          rw [hM4]
          exact ⟨id, j, cap, _, hKsc, hPc, hla, hOw, hgc, .inl (by omega), .inl (by omega), (by simp only [bE, Nat.reduceEqDiff, bN, Nat.reduceLT, he, e0, e1, e2, e7, e9, e10, e11, e12]; try rfl), (by simp only [bE, Nat.reduceEqDiff, bN, Nat.reduceLT, he, e0, e1, e2, e7, e9, e10, e11, e12]; try rfl), (by simp only [bE, Nat.reduceEqDiff, bN, Nat.reduceLT, he, e0, e1, e2, e7, e9, e10, e11, e12]; try rfl), (by simp only [bE, Nat.reduceEqDiff, bN, Nat.reduceLT, he, e0, e1, e2, e7, e9, e10, e11, e12]; try rfl), (by simp only [bE, Nat.reduceEqDiff, bN, Nat.reduceLT, he, e0, e1, e2, e7, e9, e10, e11, e12]; try rfl), (by simp only [bE, Nat.reduceEqDiff, bN, Nat.reduceLT, he, e0, e1, e2, e7, e9, e10, e11, e12]; try rfl), (by simp only [bE, Nat.reduceEqDiff, bN, Nat.reduceLT, he, e0, e1, e2, e7, e9, e10, e11, e12]; try rfl), (by simp only [bE, Nat.reduceEqDiff, bN, Nat.reduceLT, he, e0, e1, e2, e7, e9, e10, e11, e12]; try rfl), (by simp only [bE, Nat.reduceEqDiff, bN, Nat.reduceLT, he, e0, e1, e2, e7, e9, e10, e11, e12]; try rfl)⟩
        obtain ⟨hc, w', m', hww, hmm, hwl, hml⟩ := crE_ok hce
        have hBj : BwJ j tc vo L := (hOw.bwm (M := [j]) (by simp; omega)).jay
        obtain ⟨tA, q1, hdA, hCA⟩ := q_Crash2 hPc.dk hBj (by omega) (by rw [hfl3]; exact hc) hwl hml (by rw [hfl3]; exact hP.l0)
        rw [← hww, ← hmm] at q1
        have hKA : Keep s tA := hKsc.chgn hCA fun k hk => by simp at hk; subst hk; exact hP.hj
        have hXA := hPc.xk.chg hCA (by simpa using nax) (by simpa using najx) (fun q hq => by simp; rintro rfl; exact hP.nj hq)
        obtain ⟨tB, q2, hXB, hCB⟩ := q_RCrash hXA (hLA.apartM hKA (M := qs) hP.xk.hqs) (by omega) hc hwl hml
        rw [← hww, ← hmm] at q2
        have hKB : Keep s tB := hKA.chgn hCB hP.xk.hqs
        have hdB := hdA.chgM hCB naid hP.nj
        have hgA := hCA.blk hgc (by simpa using hbxj)
        have hgB := hCB.blk hgA hbxq
        obtain ⟨la0, la1, la2, la3, lalt⟩ := row4_lod hgA
        have hfit := checkP_fits hc
        have hlB0 : (crR ls L w' m').length = ls.length := by
          unfold crR
          split
          · rw [putR_len, wrR_len]
          · rw [wrR_len]
        have hPB : Plr s tB id j cap ix jx qs z (crR ls L w' m') := ⟨by rw [crR_flat hP.xk.rows hfit hwl hml]; exact hdB, hXB, hP.hid, hP.hj, hP.nj, by rw [hlB0]; exact hP.l0⟩
        have hOA := hOw.chg hCA (by simp; omega)
        have hOB := hOA.chg hCB (fun q hq => .inl (by have := hqt q hq; omega))
        simp (config := {contextual := true, maxDischargeDepth := 12, maxSteps := 4000000}) only [tb_at, he, e0, e1, e2, e7, e9, e10, e11, e12, lc0, lc1, lc2, lc3, lclt, y0, q1, la3, lalt, q2, y1, y2, notV_bool, Bool.not_true, Bool.not_false, pickV_t, pickV_f, bin_eql, bin_neb, bin_npn, bin_np, n00, n30, n33, decide_true, decide_false, gcall_tt, ap_conv, beq_self_eq_true, Bool.true_and, Bool.and_true, ↓bD, bU, forall_const, bS, implies_true, isNx, eq_self, ↓wp_cond, ↓wp_loop, ↓reduceIte, reduceCtorEq, Nat.reduceEqDiff, Nat.reduceLT, Nat.reduceAdd, Nat.reduceMul, bT, ↓sg_bsl, ↓st_callf, bX, ar_b2s, bin_mulE, ap_mkfn, ↓wi_seq, ↓wi_base, ↓wi_block, ↓wi_cond, ↓wi_loop, ↓wi_rf, ↓wy_seq, ↓wy_base, ↓wy_block, ↓wy_cond, ↓wy_loop, ↓wy_yld, q_known, ↓sg_callf3, ↓st_appf]
        all_goals first | (refine ⟨rfl, ?_⟩) | skip
        rw [hM4]
        exact ⟨id, j, cap, _, hKB, hPB, hlB0.trans hla, hOB, hgB, .inl (by omega), .inl (by omega), (by simp only [bE, Nat.reduceEqDiff, bN, Nat.reduceLT, he, e0, e1, e2, e7, e9, e10, e11, e12]; try rfl), (by simp only [bE, Nat.reduceEqDiff, bN, Nat.reduceLT, he, e0, e1, e2, e7, e9, e10, e11, e12]; try rfl), (by simp only [bE, Nat.reduceEqDiff, bN, Nat.reduceLT, he, e0, e1, e2, e7, e9, e10, e11, e12]; try rfl), (by simp only [bE, Nat.reduceEqDiff, bN, Nat.reduceLT, he, e0, e1, e2, e7, e9, e10, e11, e12]; try rfl), (by simp only [bE, Nat.reduceEqDiff, bN, Nat.reduceLT, he, e0, e1, e2, e7, e9, e10, e11, e12]; try rfl), (by simp only [bE, Nat.reduceEqDiff, bN, Nat.reduceLT, he, e0, e1, e2, e7, e9, e10, e11, e12]; try rfl), (by simp only [bE, Nat.reduceEqDiff, bN, Nat.reduceLT, he, e0, e1, e2, e7, e9, e10, e11, e12]; try rfl), (by simp only [bE, Nat.reduceEqDiff, bN, Nat.reduceLT, he, e0, e1, e2, e7, e9, e10, e11, e12]; try rfl), (by simp only [bE, Nat.reduceEqDiff, bN, Nat.reduceLT, he, e0, e1, e2, e7, e9, e10, e11, e12]; try rfl)⟩
      have y1 := eq_false w1
      by_cases w2 : w = 2
      · have y2 := eq_true w2
        have hLl : lenV st = some (.int .i64 (L.length : Int)) := hLA.arg.1
        have hwl1 := wrap_add1 (n := L.length) (by omega)
        obtain ⟨W, hW1, hW2, hW3⟩ := conv_rem (A := A) (n := L.length + 1) (by omega) (by omega)
        by_cases hWl : W < L.length
        · have y3 := eq_true (show (W : Int) < (L.length : Int) by omega)
          obtain ⟨x, hx⟩ := getsome hWl
          obtain ⟨sx, ib', ob', ⟨ii1, _⟩, hlo⟩ := (hLA.apartM hKsc (M := []) (by simp)).at hx
          obtain ⟨o1, o2, o3, o4, o5⟩ := hlo tc (Chg.refl _ _)
          have hLx := lenV_read o5
          have hx70 := hL70 x (List.mem_of_getElem? hx)
          have hwx1 := wrap_add1 (n := x.2.length) (by omega)
          obtain ⟨T, hT1, hT2, hT3⟩ := conv_rem (A := B) (n := x.2.length + 1) (by omega) (by omega)
          by_cases hce : crE ls.length z L ((W : Int)) ((T : Int)) = 0
          rotate_left
          · have hBj : BwJ j tc vo L := (hOw.bwm (M := [j]) (by simp; omega)).jay
            have q1 := q_Crash2_e false hPc.dk hBj (by omega) (w := (W : Int)) (m := (T : Int)) (by rw [hfl3]; exact hce)
            rw [hfl3] at q1
            have q2 := q_RCrash_e false hPc.xk (hLA.apartM hKsc (M := qs) hP.xk.hqs) (by omega) (w := (W : Int)) (m := (T : Int)) hce
            simp (config := {contextual := true, maxDischargeDepth := 12, maxSteps := 4000000}) only [tb_at, he, e0, e1, e2, e7, e9, e10, e11, e12, lc0, lc1, lc2, lc3, lclt, y0, q1, q2, y1, y2, y3, hLl, hwl1, hW2, hW3, ii1, o3, o4, hLx, hwx1, hT2, hT3, notV_bool, Bool.not_true, Bool.not_false, pickV_t, pickV_f, bin_eql, bin_neb, bin_npn, bin_np, n00, n30, n33, decide_true, decide_false, gcall_tt, ap_conv, beq_self_eq_true, Bool.true_and, Bool.and_true, ↓bD, bU, forall_const, bS, implies_true, isNx, eq_self, ↓wp_cond, ↓wp_loop, ↓reduceIte, reduceCtorEq, Nat.reduceEqDiff, Nat.reduceLT, Nat.reduceAdd, Nat.reduceMul, bT, ↓sg_bsl, ↓st_callf, bX, ar_b2s, bin_mulE, ap_mkfn, ↓wi_seq, ↓wi_base, ↓wi_block, ↓wi_cond, ↓wi_loop, ↓wi_rf, ↓wy_seq, ↓wy_base, ↓wy_block, ↓wy_cond, ↓wy_loop, ↓wy_yld, q_known, ↓sg_callf3, ↓st_appf]
            all_goals first | (refine ⟨rfl, ?_⟩) | skip
            rw [hM4]
            exact ⟨id, j, cap, _, hKsc, hPc, hla, hOw, hgc, .inl (by omega), .inl (by omega), (by simp only [bE, Nat.reduceEqDiff, bN, Nat.reduceLT, he, e0, e1, e2, e7, e9, e10, e11, e12]; try rfl), (by simp only [bE, Nat.reduceEqDiff, bN, Nat.reduceLT, he, e0, e1, e2, e7, e9, e10, e11, e12]; try rfl), (by simp only [bE, Nat.reduceEqDiff, bN, Nat.reduceLT, he, e0, e1, e2, e7, e9, e10, e11, e12]; try rfl), (by simp only [bE, Nat.reduceEqDiff, bN, Nat.reduceLT, he, e0, e1, e2, e7, e9, e10, e11, e12]; try rfl), (by simp only [bE, Nat.reduceEqDiff, bN, Nat.reduceLT, he, e0, e1, e2, e7, e9, e10, e11, e12]; try rfl), (by simp only [bE, Nat.reduceEqDiff, bN, Nat.reduceLT, he, e0, e1, e2, e7, e9, e10, e11, e12]; try rfl), (by simp only [bE, Nat.reduceEqDiff, bN, Nat.reduceLT, he, e0, e1, e2, e7, e9, e10, e11, e12]; try rfl), (by simp only [bE, Nat.reduceEqDiff, bN, Nat.reduceLT, he, e0, e1, e2, e7, e9, e10, e11, e12]; try rfl), (by simp only [bE, Nat.reduceEqDiff, bN, Nat.reduceLT, he, e0, e1, e2, e7, e9, e10, e11, e12]; try rfl)⟩
          obtain ⟨hc, w', m', hww, hmm, hwl, hml⟩ := crE_ok hce
          have hBj : BwJ j tc vo L := (hOw.bwm (M := [j]) (by simp; omega)).jay
          obtain ⟨tA, q1, hdA, hCA⟩ := q_Crash2 hPc.dk hBj (by omega) (by rw [hfl3]; exact hc) hwl hml (by rw [hfl3]; exact hP.l0)
          rw [← hww, ← hmm] at q1
          have hKA : Keep s tA := hKsc.chgn hCA fun k hk => by simp at hk; subst hk; exact hP.hj
          have hXA := hPc.xk.chg hCA (by simpa using nax) (by simpa using najx) (fun q hq => by simp; rintro rfl; exact hP.nj hq)
          obtain ⟨tB, q2, hXB, hCB⟩ := q_RCrash hXA (hLA.apartM hKA (M := qs) hP.xk.hqs) (by omega) hc hwl hml
          rw [← hww, ← hmm] at q2
          have hKB : Keep s tB := hKA.chgn hCB hP.xk.hqs
          have hdB := hdA.chgM hCB naid hP.nj
          have hgA := hCA.blk hgc (by simpa using hbxj)
          have hgB := hCB.blk hgA hbxq
          obtain ⟨la0, la1, la2, la3, lalt⟩ := row4_lod hgA
          have hfit := checkP_fits hc
          have hlB0 : (crR ls L w' m').length = ls.length := by
            unfold crR
            split
            · rw [putR_len, wrR_len]
            · rw [wrR_len]
          have hPB : Plr s tB id j cap ix jx qs z (crR ls L w' m') := ⟨by rw [crR_flat hP.xk.rows hfit hwl hml]; exact hdB, hXB, hP.hid, hP.hj, hP.nj, by rw [hlB0]; exact hP.l0⟩
          have hOA := hOw.chg hCA (by simp; omega)
          have hOB := hOA.chg hCB (fun q hq => .inl (by have := hqt q hq; omega))
          simp (config := {contextual := true, maxDischargeDepth := 12, maxSteps := 4000000}) only [tb_at, he, e0, e1, e2, e7, e9, e10, e11, e12, lc0, lc1, lc2, lc3, lclt, y0, q1, la3, lalt, q2, y1, y2, y3, hLl, hwl1, hW2, hW3, ii1, o3, o4, hLx, hwx1, hT2, hT3, notV_bool, Bool.not_true, Bool.not_false, pickV_t, pickV_f, bin_eql, bin_neb, bin_npn, bin_np, n00, n30, n33, decide_true, decide_false, gcall_tt, ap_conv, beq_self_eq_true, Bool.true_and, Bool.and_true, ↓bD, bU, forall_const, bS, implies_true, isNx, eq_self, ↓wp_cond, ↓wp_loop, ↓reduceIte, reduceCtorEq, Nat.reduceEqDiff, Nat.reduceLT, Nat.reduceAdd, Nat.reduceMul, bT, ↓sg_bsl, ↓st_callf, bX, ar_b2s, bin_mulE, ap_mkfn, ↓wi_seq, ↓wi_base, ↓wi_block, ↓wi_cond, ↓wi_loop, ↓wi_rf, ↓wy_seq, ↓wy_base, ↓wy_block, ↓wy_cond, ↓wy_loop, ↓wy_yld, q_known, ↓sg_callf3, ↓st_appf]
          all_goals first | (refine ⟨rfl, ?_⟩) | skip
          rw [hM4]
          exact ⟨id, j, cap, _, hKB, hPB, hlB0.trans hla, hOB, hgB, .inl (by omega), .inl (by omega), (by simp only [bE, Nat.reduceEqDiff, bN, Nat.reduceLT, he, e0, e1, e2, e7, e9, e10, e11, e12]; try rfl), (by simp only [bE, Nat.reduceEqDiff, bN, Nat.reduceLT, he, e0, e1, e2, e7, e9, e10, e11, e12]; try rfl), (by simp only [bE, Nat.reduceEqDiff, bN, Nat.reduceLT, he, e0, e1, e2, e7, e9, e10, e11, e12]; try rfl), (by simp only [bE, Nat.reduceEqDiff, bN, Nat.reduceLT, he, e0, e1, e2, e7, e9, e10, e11, e12]; try rfl), (by simp only [bE, Nat.reduceEqDiff, bN, Nat.reduceLT, he, e0, e1, e2, e7, e9, e10, e11, e12]; try rfl), (by simp only [bE, Nat.reduceEqDiff, bN, Nat.reduceLT, he, e0, e1, e2, e7, e9, e10, e11, e12]; try rfl), (by simp only [bE, Nat.reduceEqDiff, bN, Nat.reduceLT, he, e0, e1, e2, e7, e9, e10, e11, e12]; try rfl), (by simp only [bE, Nat.reduceEqDiff, bN, Nat.reduceLT, he, e0, e1, e2, e7, e9, e10, e11, e12]; try rfl), (by simp only [bE, Nat.reduceEqDiff, bN, Nat.reduceLT, he, e0, e1, e2, e7, e9, e10, e11, e12]; try rfl)⟩
        have y3 := eq_false (show ¬ (W : Int) < (L.length : Int) by omega)
        by_cases hce : crE ls.length z L ((W : Int)) ((0 : Int)) = 0
        rotate_left
        · have hBj : BwJ j tc vo L := (hOw.bwm (M := [j]) (by simp; omega)).jay
          have q1 := q_Crash2_e false hPc.dk hBj (by omega) (w := (W : Int)) (m := (0 : Int)) (by rw [hfl3]; exact hce)
          rw [hfl3] at q1
          have q2 := q_RCrash_e false hPc.xk (hLA.apartM hKsc (M := qs) hP.xk.hqs) (by omega) (w := (W : Int)) (m := (0 : Int)) hce
          simp (config := {contextual := true, maxDischargeDepth := 12, maxSteps := 4000000}) only [tb_at, he, e0, e1, e2, e7, e9, e10, e11, e12, lc0, lc1, lc2, lc3, lclt, y0, q1, q2, y1, y2, y3, hLl, hwl1, hW2, hW3, notV_bool, Bool.not_true, Bool.not_false, pickV_t, pickV_f, bin_eql, bin_neb, bin_npn, bin_np, n00, n30, n33, decide_true, decide_false, gcall_tt, ap_conv, beq_self_eq_true, Bool.true_and, Bool.and_true, ↓bD, bU, forall_const, bS, implies_true, isNx, eq_self, ↓wp_cond, ↓wp_loop, ↓reduceIte, reduceCtorEq, Nat.reduceEqDiff, Nat.reduceLT, Nat.reduceAdd, Nat.reduceMul, bT, ↓sg_bsl, ↓st_callf, bX, ar_b2s, bin_mulE, ap_mkfn, ↓wi_seq, ↓wi_base, ↓wi_block, ↓wi_cond, ↓wi_loop, ↓wi_rf, ↓wy_seq, ↓wy_base, ↓wy_block, ↓wy_cond, ↓wy_loop, ↓wy_yld, q_known, ↓sg_callf3, ↓st_appf]
          all_goals first | (refine ⟨rfl, ?_⟩) | skip
          rw [hM4]
          exact ⟨id, j, cap, _, hKsc, hPc, hla, hOw, hgc, .inl (by omega), .inl (by omega), (by simp only [bE, Nat.reduceEqDiff, bN, Nat.reduceLT, he, e0, e1, e2, e7, e9, e10, e11, e12]; try rfl), (by simp only [bE, Nat.reduceEqDiff, bN, Nat.reduceLT, he, e0, e1, e2, e7, e9, e10, e11, e12]; try rfl), (by simp only [bE, Nat.reduceEqDiff, bN, Nat.reduceLT, he, e0, e1, e2, e7, e9, e10, e11, e12]; try rfl), (by simp only [bE, Nat.reduceEqDiff, bN, Nat.reduceLT, he, e0, e1, e2, e7, e9, e10, e11, e12]; try rfl), (by simp only [bE, Nat.reduceEqDiff, bN, Nat.reduceLT, he, e0, e1, e2, e7, e9, e10, e11, e12]; try rfl), (by simp only [bE, Nat.reduceEqDiff, bN, Nat.reduceLT, he, e0, e1, e2, e7, e9, e10, e11, e12]; try rfl), (by simp only [bE, Nat.reduceEqDiff, bN, Nat.reduceLT, he, e0, e1, e2, e7, e9, e10, e11, e12]; try rfl), (by simp only [bE, Nat.reduceEqDiff, bN, Nat.reduceLT, he, e0, e1, e2, e7, e9, e10, e11, e12]; try rfl), (by simp only [bE, Nat.reduceEqDiff, bN, Nat.reduceLT, he, e0, e1, e2, e7, e9, e10, e11, e12]; try rfl)⟩
        obtain ⟨hc, w', m', hww, hmm, hwl, hml⟩ := crE_ok hce
        have hBj : BwJ j tc vo L := (hOw.bwm (M := [j]) (by simp; omega)).jay
        obtain ⟨tA, q1, hdA, hCA⟩ := q_Crash2 hPc.dk hBj (by omega) (by rw [hfl3]; exact hc) hwl hml (by rw [hfl3]; exact hP.l0)
        rw [← hww, ← hmm] at q1
        have hKA : Keep s tA := hKsc.chgn hCA fun k hk => by simp at hk; subst hk; exact hP.hj
        have hXA := hPc.xk.chg hCA (by simpa using nax) (by simpa using najx) (fun q hq => by simp; rintro rfl; exact hP.nj hq)
        obtain ⟨tB, q2, hXB, hCB⟩ := q_RCrash hXA (hLA.apartM hKA (M := qs) hP.xk.hqs) (by omega) hc hwl hml
        rw [← hww, ← hmm] at q2
        have hKB : Keep s tB := hKA.chgn hCB hP.xk.hqs
        have hdB := hdA.chgM hCB naid hP.nj
        have hgA := hCA.blk hgc (by simpa using hbxj)
        have hgB := hCB.blk hgA hbxq
        obtain ⟨la0, la1, la2, la3, lalt⟩ := row4_lod hgA
        have hfit := checkP_fits hc
        have hlB0 : (crR ls L w' m').length = ls.length := by
          unfold crR
          split
          · rw [putR_len, wrR_len]
          · rw [wrR_len]
        have hPB : Plr s tB id j cap ix jx qs z (crR ls L w' m') := ⟨by rw [crR_flat hP.xk.rows hfit hwl hml]; exact hdB, hXB, hP.hid, hP.hj, hP.nj, by rw [hlB0]; exact hP.l0⟩
        have hOA := hOw.chg hCA (by simp; omega)
        have hOB := hOA.chg hCB (fun q hq => .inl (by have := hqt q hq; omega))
        simp (config := {contextual := true, maxDischargeDepth := 12, maxSteps := 4000000}) only [tb_at, he, e0, e1, e2, e7, e9, e10, e11, e12, lc0, lc1, lc2, lc3, lclt, y0, q1, la3, lalt, q2, y1, y2, y3, hLl, hwl1, hW2, hW3, notV_bool, Bool.not_true, Bool.not_false, pickV_t, pickV_f, bin_eql, bin_neb, bin_npn, bin_np, n00, n30, n33, decide_true, decide_false, gcall_tt, ap_conv, beq_self_eq_true, Bool.true_and, Bool.and_true, ↓bD, bU, forall_const, bS, implies_true, isNx, eq_self, ↓wp_cond, ↓wp_loop, ↓reduceIte, reduceCtorEq, Nat.reduceEqDiff, Nat.reduceLT, Nat.reduceAdd, Nat.reduceMul, bT, ↓sg_bsl, ↓st_callf, bX, ar_b2s, bin_mulE, ap_mkfn, ↓wi_seq, ↓wi_base, ↓wi_block, ↓wi_cond, ↓wi_loop, ↓wi_rf, ↓wy_seq, ↓wy_base, ↓wy_block, ↓wy_cond, ↓wy_loop, ↓wy_yld, q_known, ↓sg_callf3, ↓st_appf]
        all_goals first | (refine ⟨rfl, ?_⟩) | skip
        rw [hM4]
        exact ⟨id, j, cap, _, hKB, hPB, hlB0.trans hla, hOB, hgB, .inl (by omega), .inl (by omega), (by simp only [bE, Nat.reduceEqDiff, bN, Nat.reduceLT, he, e0, e1, e2, e7, e9, e10, e11, e12]; try rfl), (by simp only [bE, Nat.reduceEqDiff, bN, Nat.reduceLT, he, e0, e1, e2, e7, e9, e10, e11, e12]; try rfl), (by simp only [bE, Nat.reduceEqDiff, bN, Nat.reduceLT, he, e0, e1, e2, e7, e9, e10, e11, e12]; try rfl), (by simp only [bE, Nat.reduceEqDiff, bN, Nat.reduceLT, he, e0, e1, e2, e7, e9, e10, e11, e12]; try rfl), (by simp only [bE, Nat.reduceEqDiff, bN, Nat.reduceLT, he, e0, e1, e2, e7, e9, e10, e11, e12]; try rfl), (by simp only [bE, Nat.reduceEqDiff, bN, Nat.reduceLT, he, e0, e1, e2, e7, e9, e10, e11, e12]; try rfl), (by simp only [bE, Nat.reduceEqDiff, bN, Nat.reduceLT, he, e0, e1, e2, e7, e9, e10, e11, e12]; try rfl), (by simp only [bE, Nat.reduceEqDiff, bN, Nat.reduceLT, he, e0, e1, e2, e7, e9, e10, e11, e12]; try rfl), (by simp only [bE, Nat.reduceEqDiff, bN, Nat.reduceLT, he, e0, e1, e2, e7, e9, e10, e11, e12]; try rfl)⟩
      have y2 := eq_false w2
      by_cases w3 : w = 3
      · have y3 := eq_true w3
        obtain ⟨w3v, t3, q1, hr3, hK3⟩ := q_RRead hPc.xk (by omega) (by omega) A B
        have hd3 := hPc.dk.keep hK3
        have q2 := q_reads2A false hd3 A B hr3 (rdP ls.length z ls.flatten A B).2
        rw [hfl3, decide_eq_true rfl, decide_eq_true rfl] at q2
        obtain ⟨vb, t4, q3, hN4, hK4⟩ := q_ReadA hd3 A B
        rw [hfl3] at q3 hN4
        have hNb := hN4.nbq
        obtain ⟨nb, hnb⟩ : ∃ nb, nb = (rdP ls.length z ls.flatten A B).1.length := ⟨_, rfl⟩
        rw [← hnb] at hNb
        have hnb5 : nb ≤ 512 := by
          rw [hnb]
          unfold rdP
          repeat' split
          all_goals simp only [List.length_nil, List.length_take, List.length_drop]
          all_goals omega
        obtain ⟨ld0, ld1, ld2, ld3, ldlt⟩ := row4_lod (hK3.blk hgc)
        have hLb := hNb.len
        simp (config := {contextual := true, maxDischargeDepth := 12, maxSteps := 4000000}) only [tb_at, he, e0, e1, e2, e7, e9, e10, e11, e12, lc0, lc1, lc2, lc3, lclt, y0, y1, y2, y3, q1, ld1, ld2, ldlt, q2, q3, Bool.and_self, notV_bool, Bool.not_true, Bool.not_false, pickV_t, pickV_f, bin_eql, bin_neb, bin_npn, bin_np, n00, n30, n33, decide_true, decide_false, gcall_tt, ap_conv, beq_self_eq_true, Bool.true_and, Bool.and_true, ↓bD, bU, forall_const, bS, implies_true, isNx, eq_self, ↓wp_cond, ↓wp_loop, ↓reduceIte, reduceCtorEq, Nat.reduceEqDiff, Nat.reduceLT, Nat.reduceAdd, Nat.reduceMul, bT, ↓sg_bsl, ↓st_callf, bX, ar_b2s, bin_mulE, ap_mkfn, ↓wi_seq, ↓wi_base, ↓wi_block, ↓wi_cond, ↓wi_loop, ↓wi_rf, ↓wy_seq, ↓wy_base, ↓wy_block, ↓wy_cond, ↓wy_loop, ↓wy_yld, q_known, ↓sg_callf3, ↓st_appf]
        obtain ⟨JI, hJI⟩ : ∃ JI : Nat → Env → St → Prop, ∀ n e u, JI n e u = (Keep t3 u ∧ NbQ t3 u vb nb ∧ ∃ k : Nat, n + k = nb ∧ elen e = 296 ∧ E e 0 = .int .i64 (a : Int) ∧ E e 1 = .int .i64 (z : Int) ∧ E e 2 = vl ∧ E e 7 = .ptr id 0 ∧ E e 9 = .ptr ix 0 ∧ E e 10 = .int .i64 (i : Int) ∧ E e 11 = .ptr bx 0 ∧ E e 12 = vo ∧ E e 17 = vb ∧ E e 19 = .int .i64 (k : Int)) := ⟨_, fun _ _ _ => rfl⟩
        refine lwp_inv JI (n := nb) ?_ ?_
        · rw [hJI]
          exact ⟨hK4, hNb, 0, by omega, (by simp only [bE, Nat.reduceEqDiff, bN, Nat.reduceLT, he, e0, e1, e2, e7, e9, e10, e11, e12]; try rfl), (by simp only [bE, Nat.reduceEqDiff, bN, Nat.reduceLT, he, e0, e1, e2, e7, e9, e10, e11, e12]; try rfl), (by simp only [bE, Nat.reduceEqDiff, bN, Nat.reduceLT, he, e0, e1, e2, e7, e9, e10, e11, e12]; try rfl), (by simp only [bE, Nat.reduceEqDiff, bN, Nat.reduceLT, he, e0, e1, e2, e7, e9, e10, e11, e12]; try rfl), (by simp only [bE, Nat.reduceEqDiff, bN, Nat.reduceLT, he, e0, e1, e2, e7, e9, e10, e11, e12]; try rfl), (by simp only [bE, Nat.reduceEqDiff, bN, Nat.reduceLT, he, e0, e1, e2, e7, e9, e10, e11, e12]; try rfl), (by simp only [bE, Nat.reduceEqDiff, bN, Nat.reduceLT, he, e0, e1, e2, e7, e9, e10, e11, e12]; try rfl), (by simp only [bE, Nat.reduceEqDiff, bN, Nat.reduceLT, he, e0, e1, e2, e7, e9, e10, e11, e12]; try rfl), (by simp only [bE, Nat.reduceEqDiff, bN, Nat.reduceLT, he, e0, e1, e2, e7, e9, e10, e11, e12]; try rfl), (by simp only [bE, Nat.reduceEqDiff, bN, Nat.reduceLT, he, e0, e1, e2, e7, e9, e10, e11, e12]; try rfl), (by simp only [bE, Nat.reduceEqDiff, bN, Nat.reduceLT, he, e0, e1, e2, e7, e9, e10, e11, e12]; try rfl)⟩
        clear he e0 e1 e2 e7 e9 e10 e11 e12
        intro n e u hi
        rw [hJI] at hi
        obtain ⟨hKu, hNu, k, hnk, he, e0, e1, e2, e7, e9, e10, e11, e12, e17, e19⟩ := hi
        have hLb := hNu.len
        by_cases hkl : k < nb
        · have y4 := eq_true (show (k : Int) < (nb : Int) by omega)
          have hwk := wrap_add1 (n := k) (by omega)
          obtain ⟨q, b, g1, g2, g3, g4, g5⟩ := hNu.bump hkl
          obtain ⟨b', hb'⟩ := u8_wrap (b + 1)
          obtain ⟨bl, g6, g7⟩ := g5 b'
          have hKu' := hKu.put bl g4 g3
          simp (config := {contextual := true, maxDischargeDepth := 12, maxSteps := 4000000}) only [tb_at, he, e0, e1, e2, e7, e9, e10, e11, e12, e17, e19, hLb, y4, hwk, g1, g2, g3, hb', g6, notV_bool, Bool.not_true, Bool.not_false, pickV_t, pickV_f, bin_eql, bin_neb, bin_npn, bin_np, n00, n30, n33, decide_true, decide_false, gcall_tt, ap_conv, beq_self_eq_true, Bool.true_and, Bool.and_true, ↓bD, bU, forall_const, bS, implies_true, isNx, eq_self, ↓wp_cond, ↓wp_loop, ↓reduceIte, reduceCtorEq, Nat.reduceEqDiff, Nat.reduceLT, Nat.reduceAdd, Nat.reduceMul, bT, ↓sg_bsl, ↓st_callf, bX, ar_b2s, bin_mulE, ap_mkfn, ↓wi_seq, ↓wi_base, ↓wi_block, ↓wi_cond, ↓wi_loop, ↓wi_rf, ↓wy_seq, ↓wy_base, ↓wy_block, ↓wy_cond, ↓wy_loop, ↓wy_yld, q_known, ↓sg_callf3, ↓st_appf]
          refine ⟨n - 1, by omega, ?_⟩
          rw [hJI]
          exact ⟨hKu', g7, k + 1, by omega, (by simp only [bE, Nat.reduceEqDiff, bN, Nat.reduceLT, he, e0, e1, e2, e7, e9, e10, e11, e12, e17, e19]; try rfl), (by simp only [bE, Nat.reduceEqDiff, bN, Nat.reduceLT, he, e0, e1, e2, e7, e9, e10, e11, e12, e17, e19]; try rfl), (by simp only [bE, Nat.reduceEqDiff, bN, Nat.reduceLT, he, e0, e1, e2, e7, e9, e10, e11, e12, e17, e19]; try rfl), (by simp only [bE, Nat.reduceEqDiff, bN, Nat.reduceLT, he, e0, e1, e2, e7, e9, e10, e11, e12, e17, e19]; try rfl), (by simp only [bE, Nat.reduceEqDiff, bN, Nat.reduceLT, he, e0, e1, e2, e7, e9, e10, e11, e12, e17, e19]; try rfl), (by simp only [bE, Nat.reduceEqDiff, bN, Nat.reduceLT, he, e0, e1, e2, e7, e9, e10, e11, e12, e17, e19]; try rfl), (by simp only [bE, Nat.reduceEqDiff, bN, Nat.reduceLT, he, e0, e1, e2, e7, e9, e10, e11, e12, e17, e19]; try rfl), (by simp only [bE, Nat.reduceEqDiff, bN, Nat.reduceLT, he, e0, e1, e2, e7, e9, e10, e11, e12, e17, e19]; try rfl), (by simp only [bE, Nat.reduceEqDiff, bN, Nat.reduceLT, he, e0, e1, e2, e7, e9, e10, e11, e12, e17, e19]; try rfl), (by simp only [bE, Nat.reduceEqDiff, bN, Nat.reduceLT, he, e0, e1, e2, e7, e9, e10, e11, e12, e17, e19]; try rfl), (by simp only [bE, Nat.reduceEqDiff, bN, Nat.reduceLT, he, e0, e1, e2, e7, e9, e10, e11, e12, e17, e19]; try rfl)⟩
        have y4 := eq_false (show ¬ (k : Int) < (nb : Int) by omega)
        simp (config := {contextual := true, maxDischargeDepth := 12, maxSteps := 4000000}) only [tb_at, he, e0, e1, e2, e7, e9, e10, e11, e12, e17, e19, hLb, y4, notV_bool, Bool.not_true, Bool.not_false, pickV_t, pickV_f, bin_eql, bin_neb, bin_npn, bin_np, n00, n30, n33, decide_true, decide_false, gcall_tt, ap_conv, beq_self_eq_true, Bool.true_and, Bool.and_true, ↓bD, bU, forall_const, bS, implies_true, isNx, eq_self, ↓wp_cond, ↓wp_loop, ↓reduceIte, reduceCtorEq, Nat.reduceEqDiff, Nat.reduceLT, Nat.reduceAdd, Nat.reduceMul, bT, ↓sg_bsl, ↓st_callf, bX, ar_b2s, bin_mulE, ap_mkfn, ↓wi_seq, ↓wi_base, ↓wi_block, ↓wi_cond, ↓wi_loop, ↓wi_rf, ↓wy_seq, ↓wy_base, ↓wy_block, ↓wy_cond, ↓wy_loop, ↓wy_yld, q_known, ↓sg_callf3, ↓st_appf]
        have hKcu := hK3.trans hKu
        all_goals first | (refine ⟨rfl, ?_⟩) | skip
        rw [hM4]
        exact ⟨id, j, cap, _, hKsc.trans hKcu, hPc.keep hKcu, hla, hOw.mono fun id b hb => hKcu.blk hb, hKcu.blk hgc, .inl (by omega), .inl (by omega), (by simp only [bE, Nat.reduceEqDiff, bN, Nat.reduceLT, he, e0, e1, e2, e7, e9, e10, e11, e12, e17, e19]; try rfl), (by simp only [bE, Nat.reduceEqDiff, bN, Nat.reduceLT, he, e0, e1, e2, e7, e9, e10, e11, e12, e17, e19]; try rfl), (by simp only [bE, Nat.reduceEqDiff, bN, Nat.reduceLT, he, e0, e1, e2, e7, e9, e10, e11, e12, e17, e19]; try rfl), (by simp only [bE, Nat.reduceEqDiff, bN, Nat.reduceLT, he, e0, e1, e2, e7, e9, e10, e11, e12, e17, e19]; try rfl), (by simp only [bE, Nat.reduceEqDiff, bN, Nat.reduceLT, he, e0, e1, e2, e7, e9, e10, e11, e12, e17, e19]; try rfl), (by simp only [bE, Nat.reduceEqDiff, bN, Nat.reduceLT, he, e0, e1, e2, e7, e9, e10, e11, e12, e17, e19]; try rfl), (by simp only [bE, Nat.reduceEqDiff, bN, Nat.reduceLT, he, e0, e1, e2, e7, e9, e10, e11, e12, e17, e19]; try rfl), (by simp only [bE, Nat.reduceEqDiff, bN, Nat.reduceLT, he, e0, e1, e2, e7, e9, e10, e11, e12, e17, e19]; try rfl), (by simp only [bE, Nat.reduceEqDiff, bN, Nat.reduceLT, he, e0, e1, e2, e7, e9, e10, e11, e12, e17, e19]; try rfl)⟩
      have y3 := eq_false w3
      by_cases w4 : w = 4
      · have y4 := eq_true w4
        have hLl : lenV st = some (.int .i64 (L.length : Int)) := hLA.arg.1
        by_cases hLz : L = []
        · have y7 := eq_false (show ¬ (0 : Int) < (L.length : Int) by rw [hLz]; simp)
          obtain ⟨dv, hdve⟩ : ∃ dv, dv = AV.nils := ⟨_, rfl⟩
          obtain ⟨d0, hd0e⟩ : ∃ d0 : List UInt8, d0 = [] := ⟨_, rfl⟩
          have hdv : AM.read byC tc dv = some d0 := by rw [hdve, hd0e]; rfl
          have hcb : CapB dv := by rw [hdve]; exact CapB.nils
          have hd70 : d0.length ≤ 70 := by rw [hd0e]; simp
          obtain ⟨lvR, stsR, t3, q1, hOR, hK3⟩ := q_RSplitA hPc.xk (by omega) (by omega) hdv hcb (by omega) A
          have hd3 := hPc.dk.keep hK3
          have hdv3 := hK3.read hdv
          have q2 := q_splitsA false hd3 (by omega) hdv3 (by omega) A (hOR.bwm (M := []) (by simp)) (spE ls.length z ls.flatten.length A d0)
          rw [hfl3, decide_eq_true rfl, decide_eq_true rfl] at q2
          obtain ⟨ld0, ld1, ld2, ld3, ldlt⟩ := row4_lod (hK3.blk hgc)
          obtain ⟨lv, cnt, t4, ce, q3, hSq, hK4, hc8⟩ : ∃ lv cnt t4 ce, acall cSplit false [.ptr id 0, .int .i64 A, dv] t3 = some (.tup [lv, .int .i64 ce], t4) ∧ SpQ t3.next t4 lv A.toNat z d0.length cnt ∧ Keep t3 t4 ∧ cnt ≤ 512 := by
            by_cases hse : spE ls.length z ls.flatten.length A d0 = 0
            · have h := hse
              unfold spE at h
              split at h
              · cases h
              rename_i ha_
              split at h
              · cases h
              rename_i hl_
              obtain ⟨ka, hka⟩ : ∃ ka : Nat, A = (ka : Int) := ⟨A.toNat, by omega⟩
              have hkn : A.toNat = ka := by omega
              rw [hkn] at hl_
              have hkz : ka * z ≤ ls.length * z := Nat.mul_le_mul_right z (by omega)
              obtain ⟨lv, t4, q, hS, hK4⟩ := q_SplitD hd3 (k := ka) (by rw [hfl3]; omega) hdv3 (by omega)
              refine ⟨lv, _, t4, 0, by rw [hka]; exact q, by rw [hkn]; exact hS.spq, hK4, ?_⟩
              have h1 := (chunks_lt (n := d0.length) hzz (i := chunksN z d0.length - 1)).1
              by_cases h0 : chunksN z d0.length = 0
              · omega
              · have h2 := h1 (by omega)
                have h3 : (chunksN z d0.length - 1) * 1 ≤ (chunksN z d0.length - 1) * z := Nat.mul_le_mul_left _ hzz
                omega
            · have q := q_SplitE hd3 hdv3 (by omega) (a := A) (by rw [hfl3]; exact hse)
              exact ⟨.nils, 0, t3, 3, q, .inl ⟨rfl, rfl⟩, .refl _, by omega⟩
          have hLs := hSq.len hzz
          simp (config := {contextual := true, maxDischargeDepth := 12, maxSteps := 4000000}) only [tb_at, he, e0, e1, e2, e7, e9, e10, e11, e12, lc0, lc1, lc2, lc3, lclt, y0, y1, y2, y3, y4, hLl, q1, ld1, ld2, ldlt, q2, q3, Bool.and_self, y7, ← hdve, notV_bool, Bool.not_true, Bool.not_false, pickV_t, pickV_f, bin_eql, bin_neb, bin_npn, bin_np, n00, n30, n33, decide_true, decide_false, gcall_tt, ap_conv, beq_self_eq_true, Bool.true_and, Bool.and_true, ↓bD, bU, forall_const, bS, implies_true, isNx, eq_self, ↓wp_cond, ↓wp_loop, ↓reduceIte, reduceCtorEq, Nat.reduceEqDiff, Nat.reduceLT, Nat.reduceAdd, Nat.reduceMul, bT, ↓sg_bsl, ↓st_callf, bX, ar_b2s, bin_mulE, ap_mkfn, ↓wi_seq, ↓wi_base, ↓wi_block, ↓wi_cond, ↓wi_loop, ↓wi_rf, ↓wy_seq, ↓wy_base, ↓wy_block, ↓wy_cond, ↓wy_loop, ↓wy_yld, q_known, ↓sg_callf3, ↓st_appf]
          obtain ⟨JI, hJI⟩ : ∃ JI : Nat → Env → St → Prop, ∀ n e u, JI n e u = (Keep t3 u ∧ SpQ t3.next u lv A.toNat z d0.length cnt ∧ ∃ k : Nat, n + k = cnt ∧ elen e = 296 ∧ E e 0 = .int .i64 (a : Int) ∧ E e 1 = .int .i64 (z : Int) ∧ E e 2 = vl ∧ E e 7 = .ptr id 0 ∧ E e 9 = .ptr ix 0 ∧ E e 10 = .int .i64 (i : Int) ∧ E e 11 = .ptr bx 0 ∧ E e 12 = vo ∧ E e 23 = lv ∧ E e 25 = .int .i64 (k : Int)) := ⟨_, fun _ _ _ => rfl⟩
          refine lwp_inv JI (n := cnt) ?_ ?_
          · rw [hJI]
            exact ⟨hK4, hSq, 0, by omega, (by simp only [bE, Nat.reduceEqDiff, bN, Nat.reduceLT, he, e0, e1, e2, e7, e9, e10, e11, e12]; try rfl), (by simp only [bE, Nat.reduceEqDiff, bN, Nat.reduceLT, he, e0, e1, e2, e7, e9, e10, e11, e12]; try rfl), (by simp only [bE, Nat.reduceEqDiff, bN, Nat.reduceLT, he, e0, e1, e2, e7, e9, e10, e11, e12]; try rfl), (by simp only [bE, Nat.reduceEqDiff, bN, Nat.reduceLT, he, e0, e1, e2, e7, e9, e10, e11, e12]; try rfl), (by simp only [bE, Nat.reduceEqDiff, bN, Nat.reduceLT, he, e0, e1, e2, e7, e9, e10, e11, e12]; try rfl), (by simp only [bE, Nat.reduceEqDiff, bN, Nat.reduceLT, he, e0, e1, e2, e7, e9, e10, e11, e12]; try rfl), (by simp only [bE, Nat.reduceEqDiff, bN, Nat.reduceLT, he, e0, e1, e2, e7, e9, e10, e11, e12]; try rfl), (by simp only [bE, Nat.reduceEqDiff, bN, Nat.reduceLT, he, e0, e1, e2, e7, e9, e10, e11, e12]; try rfl), (by simp only [bE, Nat.reduceEqDiff, bN, Nat.reduceLT, he, e0, e1, e2, e7, e9, e10, e11, e12]; try rfl), (by simp only [bE, Nat.reduceEqDiff, bN, Nat.reduceLT, he, e0, e1, e2, e7, e9, e10, e11, e12]; try rfl), (by simp only [bE, Nat.reduceEqDiff, bN, Nat.reduceLT, he, e0, e1, e2, e7, e9, e10, e11, e12]; try rfl)⟩
          clear he e0 e1 e2 e7 e9 e10 e11 e12
          intro n e u hi
          rw [hJI] at hi
          obtain ⟨hKu, hNu, k, hnk, he, e0, e1, e2, e7, e9, e10, e11, e12, e23, e25⟩ := hi
          have hLb := hNu.len hzz
          by_cases hkl : k < cnt
          · have y5 := eq_true (show (k : Int) < (cnt : Int) by omega)
            have hwk := wrap_add1 (n := k) (by omega)
            obtain ⟨jq, sq, xb, g1, g2, g3, g4, g5, g6, g7, g8, g9⟩ := hNu.bump hzz hkl
            have y6 := eq_true (show (0 : Int) < ((min z (d0.length - k * z) : Nat) : Int) by omega)
            obtain ⟨b', hb'⟩ := u8_wrap (xb + 1)
            obtain ⟨bl, g10, g11⟩ := g9 b'
            have hKu' := hKu.put bl (Nat.le_refl _) g8
            simp (config := {contextual := true, maxDischargeDepth := 12, maxSteps := 4000000}) only [tb_at, he, e0, e1, e2, e7, e9, e10, e11, e12, e23, e25, hLb, y5, y6, hwk, g1, g2, g3, g4, g6, g7, g8, hb', g10, notV_bool, Bool.not_true, Bool.not_false, pickV_t, pickV_f, bin_eql, bin_neb, bin_npn, bin_np, n00, n30, n33, decide_true, decide_false, gcall_tt, ap_conv, beq_self_eq_true, Bool.true_and, Bool.and_true, ↓bD, bU, forall_const, bS, implies_true, isNx, eq_self, ↓wp_cond, ↓wp_loop, ↓reduceIte, reduceCtorEq, Nat.reduceEqDiff, Nat.reduceLT, Nat.reduceAdd, Nat.reduceMul, bT, ↓sg_bsl, ↓st_callf, bX, ar_b2s, bin_mulE, ap_mkfn, ↓wi_seq, ↓wi_base, ↓wi_block, ↓wi_cond, ↓wi_loop, ↓wi_rf, ↓wy_seq, ↓wy_base, ↓wy_block, ↓wy_cond, ↓wy_loop, ↓wy_yld, q_known, ↓sg_callf3, ↓st_appf]
            refine ⟨n - 1, by omega, ?_⟩
            rw [hJI]
            exact ⟨hKu', g11, k + 1, by omega, (by simp only [bE, Nat.reduceEqDiff, bN, Nat.reduceLT, he, e0, e1, e2, e7, e9, e10, e11, e12, e23, e25]; try rfl), (by simp only [bE, Nat.reduceEqDiff, bN, Nat.reduceLT, he, e0, e1, e2, e7, e9, e10, e11, e12, e23, e25]; try rfl), (by simp only [bE, Nat.reduceEqDiff, bN, Nat.reduceLT, he, e0, e1, e2, e7, e9, e10, e11, e12, e23, e25]; try rfl), (by simp only [bE, Nat.reduceEqDiff, bN, Nat.reduceLT, he, e0, e1, e2, e7, e9, e10, e11, e12, e23, e25]; try rfl), (by simp only [bE, Nat.reduceEqDiff, bN, Nat.reduceLT, he, e0, e1, e2, e7, e9, e10, e11, e12, e23, e25]; try rfl), (by simp only [bE, Nat.reduceEqDiff, bN, Nat.reduceLT, he, e0, e1, e2, e7, e9, e10, e11, e12, e23, e25]; try rfl), (by simp only [bE, Nat.reduceEqDiff, bN, Nat.reduceLT, he, e0, e1, e2, e7, e9, e10, e11, e12, e23, e25]; try rfl), (by simp only [bE, Nat.reduceEqDiff, bN, Nat.reduceLT, he, e0, e1, e2, e7, e9, e10, e11, e12, e23, e25]; try rfl), (by simp only [bE, Nat.reduceEqDiff, bN, Nat.reduceLT, he, e0, e1, e2, e7, e9, e10, e11, e12, e23, e25]; try rfl), (by simp only [bE, Nat.reduceEqDiff, bN, Nat.reduceLT, he, e0, e1, e2, e7, e9, e10, e11, e12, e23, e25]; try rfl), (by simp only [bE, Nat.reduceEqDiff, bN, Nat.reduceLT, he, e0, e1, e2, e7, e9, e10, e11, e12, e23, e25]; try rfl)⟩
          have y5 := eq_false (show ¬ (k : Int) < (cnt : Int) by omega)
          simp (config := {contextual := true, maxDischargeDepth := 12, maxSteps := 4000000}) only [tb_at, he, e0, e1, e2, e7, e9, e10, e11, e12, e23, e25, hLb, y5, notV_bool, Bool.not_true, Bool.not_false, pickV_t, pickV_f, bin_eql, bin_neb, bin_npn, bin_np, n00, n30, n33, decide_true, decide_false, gcall_tt, ap_conv, beq_self_eq_true, Bool.true_and, Bool.and_true, ↓bD, bU, forall_const, bS, implies_true, isNx, eq_self, ↓wp_cond, ↓wp_loop, ↓reduceIte, reduceCtorEq, Nat.reduceEqDiff, Nat.reduceLT, Nat.reduceAdd, Nat.reduceMul, bT, ↓sg_bsl, ↓st_callf, bX, ar_b2s, bin_mulE, ap_mkfn, ↓wi_seq, ↓wi_base, ↓wi_block, ↓wi_cond, ↓wi_loop, ↓wi_rf, ↓wy_seq, ↓wy_base, ↓wy_block, ↓wy_cond, ↓wy_loop, ↓wy_yld, q_known, ↓sg_callf3, ↓st_appf]
          have hKcu := hK3.trans hKu
          all_goals first | (refine ⟨rfl, ?_⟩) | skip
          rw [hM4]
          exact ⟨id, j, cap, _, hKsc.trans hKcu, hPc.keep hKcu, hla, hOw.mono fun id b hb => hKcu.blk hb, hKcu.blk hgc, .inl (by omega), .inl (by omega), (by simp only [bE, Nat.reduceEqDiff, bN, Nat.reduceLT, he, e0, e1, e2, e7, e9, e10, e11, e12, e23, e25]; try rfl), (by simp only [bE, Nat.reduceEqDiff, bN, Nat.reduceLT, he, e0, e1, e2, e7, e9, e10, e11, e12, e23, e25]; try rfl), (by simp only [bE, Nat.reduceEqDiff, bN, Nat.reduceLT, he, e0, e1, e2, e7, e9, e10, e11, e12, e23, e25]; try rfl), (by simp only [bE, Nat.reduceEqDiff, bN, Nat.reduceLT, he, e0, e1, e2, e7, e9, e10, e11, e12, e23, e25]; try rfl), (by simp only [bE, Nat.reduceEqDiff, bN, Nat.reduceLT, he, e0, e1, e2, e7, e9, e10, e11, e12, e23, e25]; try rfl), (by simp only [bE, Nat.reduceEqDiff, bN, Nat.reduceLT, he, e0, e1, e2, e7, e9, e10, e11, e12, e23, e25]; try rfl), (by simp only [bE, Nat.reduceEqDiff, bN, Nat.reduceLT, he, e0, e1, e2, e7, e9, e10, e11, e12, e23, e25]; try rfl), (by simp only [bE, Nat.reduceEqDiff, bN, Nat.reduceLT, he, e0, e1, e2, e7, e9, e10, e11, e12, e23, e25]; try rfl), (by simp only [bE, Nat.reduceEqDiff, bN, Nat.reduceLT, he, e0, e1, e2, e7, e9, e10, e11, e12, e23, e25]; try rfl)⟩
        obtain ⟨x0, hx0⟩ := getsome (List.length_pos_iff.2 hLz)
        obtain ⟨dv, hdve⟩ := getsome (show 0 < sts.length by rw [hOw.1]; exact List.length_pos_iff.2 hLz)
        obtain ⟨d0, hd0e⟩ : ∃ d0 : List UInt8, d0 = x0.2 := ⟨_, rfl⟩
        have y7 := eq_true (show (0 : Int) < (L.length : Int) by have := getlt hx0; omega)
        obtain ⟨jo, oi1, ol1, olt⟩ := hOw.owq.row hx0 hdve
        have oi1 : iadV 2 vo (.int .i64 0) = some (.ptr jo 0) := oi1
        have ol1 : lod1 tc (.ptr jo 1) = some dv := ol1
        have hO0 := hOw.2.2 0 x0 dv hx0 hdve
        rw [← hd0e] at hO0
        have hdv := hO0.read
        have hcb : CapB dv := by
          rcases hO0 with ⟨rfl, _⟩ | ⟨q, rfl, _⟩
          · exact CapB.nils
          · intro _ _ _ _ _ e
            injection e with _ _ _ e _
            cases e
        have hd70 : d0.length ≤ 70 := by rw [hd0e]; exact hL70 x0 (List.mem_of_getElem? hx0)
        obtain ⟨lvR, stsR, t3, q1, hOR, hK3⟩ := q_RSplitA hPc.xk (by omega) (by omega) hdv hcb (by omega) A
        have hd3 := hPc.dk.keep hK3
        have hdv3 := hK3.read hdv
        have q2 := q_splitsA false hd3 (by omega) hdv3 (by omega) A (hOR.bwm (M := []) (by simp)) (spE ls.length z ls.flatten.length A d0)
        rw [hfl3, decide_eq_true rfl, decide_eq_true rfl] at q2
        obtain ⟨ld0, ld1, ld2, ld3, ldlt⟩ := row4_lod (hK3.blk hgc)
        obtain ⟨lv, cnt, t4, ce, q3, hSq, hK4, hc8⟩ : ∃ lv cnt t4 ce, acall cSplit false [.ptr id 0, .int .i64 A, dv] t3 = some (.tup [lv, .int .i64 ce], t4) ∧ SpQ t3.next t4 lv A.toNat z d0.length cnt ∧ Keep t3 t4 ∧ cnt ≤ 512 := by
          by_cases hse : spE ls.length z ls.flatten.length A d0 = 0
          · have h := hse
            unfold spE at h
            split at h
            · cases h
            rename_i ha_
            split at h
            · cases h
            rename_i hl_
            obtain ⟨ka, hka⟩ : ∃ ka : Nat, A = (ka : Int) := ⟨A.toNat, by omega⟩
            have hkn : A.toNat = ka := by omega
            rw [hkn] at hl_
            have hkz : ka * z ≤ ls.length * z := Nat.mul_le_mul_right z (by omega)
            obtain ⟨lv, t4, q, hS, hK4⟩ := q_SplitD hd3 (k := ka) (by rw [hfl3]; omega) hdv3 (by omega)
            refine ⟨lv, _, t4, 0, by rw [hka]; exact q, by rw [hkn]; exact hS.spq, hK4, ?_⟩
            have h1 := (chunks_lt (n := d0.length) hzz (i := chunksN z d0.length - 1)).1
            by_cases h0 : chunksN z d0.length = 0
            · omega
            · have h2 := h1 (by omega)
              have h3 : (chunksN z d0.length - 1) * 1 ≤ (chunksN z d0.length - 1) * z := Nat.mul_le_mul_left _ hzz
              omega
          · have q := q_SplitE hd3 hdv3 (by omega) (a := A) (by rw [hfl3]; exact hse)
            exact ⟨.nils, 0, t3, 3, q, .inl ⟨rfl, rfl⟩, .refl _, by omega⟩
        have hLs := hSq.len hzz
        simp (config := {contextual := true, maxDischargeDepth := 12, maxSteps := 4000000}) only [tb_at, he, e0, e1, e2, e7, e9, e10, e11, e12, lc0, lc1, lc2, lc3, lclt, y0, y1, y2, y3, y4, hLl, q1, ld1, ld2, ldlt, q2, q3, Bool.and_self, y7, oi1, ol1, olt, notV_bool, Bool.not_true, Bool.not_false, pickV_t, pickV_f, bin_eql, bin_neb, bin_npn, bin_np, n00, n30, n33, decide_true, decide_false, gcall_tt, ap_conv, beq_self_eq_true, Bool.true_and, Bool.and_true, ↓bD, bU, forall_const, bS, implies_true, isNx, eq_self, ↓wp_cond, ↓wp_loop, ↓reduceIte, reduceCtorEq, Nat.reduceEqDiff, Nat.reduceLT, Nat.reduceAdd, Nat.reduceMul, bT, ↓sg_bsl, ↓st_callf, bX, ar_b2s, bin_mulE, ap_mkfn, ↓wi_seq, ↓wi_base, ↓wi_block, ↓wi_cond, ↓wi_loop, ↓wi_rf, ↓wy_seq, ↓wy_base, ↓wy_block, ↓wy_cond, ↓wy_loop, ↓wy_yld, q_known, ↓sg_callf3, ↓st_appf]
        obtain ⟨JI, hJI⟩ : ∃ JI : Nat → Env → St → Prop, ∀ n e u, JI n e u = (Keep t3 u ∧ SpQ t3.next u lv A.toNat z d0.length cnt ∧ ∃ k : Nat, n + k = cnt ∧ elen e = 296 ∧ E e 0 = .int .i64 (a : Int) ∧ E e 1 = .int .i64 (z : Int) ∧ E e 2 = vl ∧ E e 7 = .ptr id 0 ∧ E e 9 = .ptr ix 0 ∧ E e 10 = .int .i64 (i : Int) ∧ E e 11 = .ptr bx 0 ∧ E e 12 = vo ∧ E e 23 = lv ∧ E e 25 = .int .i64 (k : Int)) := ⟨_, fun _ _ _ => rfl⟩
        refine lwp_inv JI (n := cnt) ?_ ?_
        · rw [hJI]
          exact ⟨hK4, hSq, 0, by omega, (by simp only [bE, Nat.reduceEqDiff, bN, Nat.reduceLT, he, e0, e1, e2, e7, e9, e10, e11, e12]; try rfl), (by simp only [bE, Nat.reduceEqDiff, bN, Nat.reduceLT, he, e0, e1, e2, e7, e9, e10, e11, e12]; try rfl), (by simp only [bE, Nat.reduceEqDiff, bN, Nat.reduceLT, he, e0, e1, e2, e7, e9, e10, e11, e12]; try rfl), (by simp only [bE, Nat.reduceEqDiff, bN, Nat.reduceLT, he, e0, e1, e2, e7, e9, e10, e11, e12]; try rfl), (by simp only [bE, Nat.reduceEqDiff, bN, Nat.reduceLT, he, e0, e1, e2, e7, e9, e10, e11, e12]; try rfl), (by simp only [bE, Nat.reduceEqDiff, bN, Nat.reduceLT, he, e0, e1, e2, e7, e9, e10, e11, e12]; try rfl), (by simp only [bE, Nat.reduceEqDiff, bN, Nat.reduceLT, he, e0, e1, e2, e7, e9, e10, e11, e12]; try rfl), (by simp only [bE, Nat.reduceEqDiff, bN, Nat.reduceLT, he, e0, e1, e2, e7, e9, e10, e11, e12]; try rfl), (by simp only [bE, Nat.reduceEqDiff, bN, Nat.reduceLT, he, e0, e1, e2, e7, e9, e10, e11, e12]; try rfl), (by simp only [bE, Nat.reduceEqDiff, bN, Nat.reduceLT, he, e0, e1, e2, e7, e9, e10, e11, e12]; try rfl), (by simp only [bE, Nat.reduceEqDiff, bN, Nat.reduceLT, he, e0, e1, e2, e7, e9, e10, e11, e12]; try rfl)⟩
        clear he e0 e1 e2 e7 e9 e10 e11 e12
        intro n e u hi
        rw [hJI] at hi
        obtain ⟨hKu, hNu, k, hnk, he, e0, e1, e2, e7, e9, e10, e11, e12, e23, e25⟩ := hi
        have hLb := hNu.len hzz
        by_cases hkl : k < cnt
        · have y5 := eq_true (show (k : Int) < (cnt : Int) by omega)
          have hwk := wrap_add1 (n := k) (by omega)
          obtain ⟨jq, sq, xb, g1, g2, g3, g4, g5, g6, g7, g8, g9⟩ := hNu.bump hzz hkl
          have y6 := eq_true (show (0 : Int) < ((min z (d0.length - k * z) : Nat) : Int) by omega)
          obtain ⟨b', hb'⟩ := u8_wrap (xb + 1)
          obtain ⟨bl, g10, g11⟩ := g9 b'
          have hKu' := hKu.put bl (Nat.le_refl _) g8
          simp (config := {contextual := true, maxDischargeDepth := 12, maxSteps := 4000000}) only [tb_at, he, e0, e1, e2, e7, e9, e10, e11, e12, e23, e25, hLb, y5, y6, hwk, g1, g2, g3, g4, g6, g7, g8, hb', g10, notV_bool, Bool.not_true, Bool.not_false, pickV_t, pickV_f, bin_eql, bin_neb, bin_npn, bin_np, n00, n30, n33, decide_true, decide_false, gcall_tt, ap_conv, beq_self_eq_true, Bool.true_and, Bool.and_true, ↓bD, bU, forall_const, bS, implies_true, isNx, eq_self, ↓wp_cond, ↓wp_loop, ↓reduceIte, reduceCtorEq, Nat.reduceEqDiff, Nat.reduceLT, Nat.reduceAdd, Nat.reduceMul, bT, ↓sg_bsl, ↓st_callf, bX, ar_b2s, bin_mulE, ap_mkfn, ↓wi_seq, ↓wi_base, ↓wi_block, ↓wi_cond, ↓wi_loop, ↓wi_rf, ↓wy_seq, ↓wy_base, ↓wy_block, ↓wy_cond, ↓wy_loop, ↓wy_yld, q_known, ↓sg_callf3, ↓st_appf]
          refine ⟨n - 1, by omega, ?_⟩
          rw [hJI]
          exact ⟨hKu', g11, k + 1, by omega, (by simp only [bE, Nat.reduceEqDiff, bN, Nat.reduceLT, he, e0, e1, e2, e7, e9, e10, e11, e12, e23, e25]; try rfl), (by simp only [bE, Nat.reduceEqDiff, bN, Nat.reduceLT, he, e0, e1, e2, e7, e9, e10, e11, e12, e23, e25]; try rfl), (by simp only [bE, Nat.reduceEqDiff, bN, Nat.reduceLT, he, e0, e1, e2, e7, e9, e10, e11, e12, e23, e25]; try rfl), (by simp only [bE, Nat.reduceEqDiff, bN, Nat.reduceLT, he, e0, e1, e2, e7, e9, e10, e11, e12, e23, e25]; try rfl), (by simp only [bE, Nat.reduceEqDiff, bN, Nat.reduceLT, he, e0, e1, e2, e7, e9, e10, e11, e12, e23, e25]; try rfl), (by simp only [bE, Nat.reduceEqDiff, bN, Nat.reduceLT, he, e0, e1, e2, e7, e9, e10, e11, e12, e23, e25]; try rfl), (by simp only [bE, Nat.reduceEqDiff, bN, Nat.reduceLT, he, e0, e1, e2, e7, e9, e10, e11, e12, e23, e25]; try rfl), (by simp only [bE, Nat.reduceEqDiff, bN, Nat.reduceLT, he, e0, e1, e2, e7, e9, e10, e11, e12, e23, e25]; try rfl), (by simp only [bE, Nat.reduceEqDiff, bN, Nat.reduceLT, he, e0, e1, e2, e7, e9, e10, e11, e12, e23, e25]; try rfl), (by simp only [bE, Nat.reduceEqDiff, bN, Nat.reduceLT, he, e0, e1, e2, e7, e9, e10, e11, e12, e23, e25]; try rfl), (by simp only [bE, Nat.reduceEqDiff, bN, Nat.reduceLT, he, e0, e1, e2, e7, e9, e10, e11, e12, e23, e25]; try rfl)⟩
        have y5 := eq_false (show ¬ (k : Int) < (cnt : Int) by omega)
        simp (config := {contextual := true, maxDischargeDepth := 12, maxSteps := 4000000}) only [tb_at, he, e0, e1, e2, e7, e9, e10, e11, e12, e23, e25, hLb, y5, notV_bool, Bool.not_true, Bool.not_false, pickV_t, pickV_f, bin_eql, bin_neb, bin_npn, bin_np, n00, n30, n33, decide_true, decide_false, gcall_tt, ap_conv, beq_self_eq_true, Bool.true_and, Bool.and_true, ↓bD, bU, forall_const, bS, implies_true, isNx, eq_self, ↓wp_cond, ↓wp_loop, ↓reduceIte, reduceCtorEq, Nat.reduceEqDiff, Nat.reduceLT, Nat.reduceAdd, Nat.reduceMul, bT, ↓sg_bsl, ↓st_callf, bX, ar_b2s, bin_mulE, ap_mkfn, ↓wi_seq, ↓wi_base, ↓wi_block, ↓wi_cond, ↓wi_loop, ↓wi_rf, ↓wy_seq, ↓wy_base, ↓wy_block, ↓wy_cond, ↓wy_loop, ↓wy_yld, q_known, ↓sg_callf3, ↓st_appf]
        have hKcu := hK3.trans hKu
        all_goals first | (refine ⟨rfl, ?_⟩) | skip
        rw [hM4]
        exact ⟨id, j, cap, _, hKsc.trans hKcu, hPc.keep hKcu, hla, hOw.mono fun id b hb => hKcu.blk hb, hKcu.blk hgc, .inl (by omega), .inl (by omega), (by simp only [bE, Nat.reduceEqDiff, bN, Nat.reduceLT, he, e0, e1, e2, e7, e9, e10, e11, e12, e23, e25]; try rfl), (by simp only [bE, Nat.reduceEqDiff, bN, Nat.reduceLT, he, e0, e1, e2, e7, e9, e10, e11, e12, e23, e25]; try rfl), (by simp only [bE, Nat.reduceEqDiff, bN, Nat.reduceLT, he, e0, e1, e2, e7, e9, e10, e11, e12, e23, e25]; try rfl), (by simp only [bE, Nat.reduceEqDiff, bN, Nat.reduceLT, he, e0, e1, e2, e7, e9, e10, e11, e12, e23, e25]; try rfl), (by simp only [bE, Nat.reduceEqDiff, bN, Nat.reduceLT, he, e0, e1, e2, e7, e9, e10, e11, e12, e23, e25]; try rfl), (by simp only [bE, Nat.reduceEqDiff, bN, Nat.reduceLT, he, e0, e1, e2, e7, e9, e10, e11, e12, e23, e25]; try rfl), (by simp only [bE, Nat.reduceEqDiff, bN, Nat.reduceLT, he, e0, e1, e2, e7, e9, e10, e11, e12, e23, e25]; try rfl), (by simp only [bE, Nat.reduceEqDiff, bN, Nat.reduceLT, he, e0, e1, e2, e7, e9, e10, e11, e12, e23, e25]; try rfl), (by simp only [bE, Nat.reduceEqDiff, bN, Nat.reduceLT, he, e0, e1, e2, e7, e9, e10, e11, e12, e23, e25]; try rfl)⟩
      have y4 := eq_false w4
      obtain ⟨id2, j2, cap2, t3, q1, hd2, hid2, hj2, hK3⟩ := q_Copy2 hPc.dk hfl2
      obtain ⟨t4, ht4⟩ : ∃ t4, t4 = t3.push (.row [.int .u8 1, .int .u8 2, .int .u8 3] true) := ⟨_, rfl⟩
      have hb3 : bslV [.int .u8 0, .int .u8 0, .int .u8 0] 3 1 [(0, .int .u8 1), (1, .int .u8 2), (2, .int .u8 3)] = some (fun id => .sl id 0 3 (some 3) 1, .row [.int .u8 1, .int .u8 2, .int .u8 3] true) := rfl
      have hK4 : Keep t3 t4 := by rw [ht4]; exact (Keep.refl t3).push _
      have hg4 : t4.get t3.next = some (.row (byC.cells [1, 2, 3]) true) := by rw [ht4]; exact St.get_push_new _ _
      have hu : (AV.sl t3.next 0 3 (some 3) 1).cells = [AV.sl t3.next 0 3 (some 3) 1] ∧ (AV.sl t3.next 0 3 (some 3) 1).one = true := ⟨rfl, rfl⟩
      have f1 := fstep_bw1 (x := AV.sl t3.next 0 3 (some 3) 1) hu (.int .i64 0) .nils
      have hbs := bsl_bw (b := 0) hu
      obtain ⟨t5, ht5⟩ : ∃ t5, t5 = t4.push (.row [.int .i64 0, .sl t3.next 0 3 (some 3) 1] true) := ⟨_, rfl⟩
      have hK5 : Keep t4 t5 := by rw [ht5]; exact (Keep.refl t4).push _
      have hg5 : t5.get t4.next = some (.row [.int .i64 0, .sl t3.next 0 3 (some 3) 1] true) := by rw [ht5]; exact St.get_push_new _ _
      have hg45 := hK5.blk hg4
      have hn3 := hK3.next
      have hn4 := hK4.next
      have hBj : BwJ j t5 (.sl t4.next 0 1 (some 1) 2) [(0, [1, 2, 3])] := by
        refine .inr ⟨t4.next, 0, some 1, rfl, (fun c e => by injection e with e; simp; omega), fun i x hx => ?_⟩
        have hi0 : i = 0 := by have := getlt hx; simpa using this
        subst hi0
        injection hx with hx
        subst hx
        refine ⟨.sl t3.next 0 3 (some 3) 1, (fun _ _ _ _ _ e => by injection e with _ _ e1 e2 _; injection e2 with e2; omega), fun u hC => ?_⟩
        have hgu := hC.blk hg5 (by simp; omega)
        have hgu4 := hC.blk hg45 (by simp; omega)
        exact ⟨by simp [lod, hgu], by simp [lod1, hgu], by simp [lod1, hgu], St.get_lt hgu, by simpa using read_part (cap := some 3) (o := 0) (m := 3) hgu4 (by simp)⟩
      have hKc5 := (hK3.trans hK4).trans hK5
      have hP5 := hPc.keep hKc5
      obtain ⟨t6, q2, hd6, hC6⟩ := q_Write2 hP5.dk hBj (by simp)
      have q2 : acall R_Write2 false [.ptr id 0, .sl t4.next 0 1 (some 1) 2] t5 = some (.int .i64 (checkP (ls.flatten.length / z) z [(0, [1, 2, 3])]), t6) := q2
      have hKs6 : Keep s t6 := (hKsc.trans hKc5).chgn hC6 fun k hk => by simp at hk; subst hk; exact hP.hj
      have hd2' := ((hd2.keep hK4).keep hK5).chgM hC6 (M := [j]) (by simp; omega) (by simp; omega)
      have hX6 := hP5.xk.chg hC6 (by simpa using nax) (by simpa using najx) (fun q hq => by simp; rintro rfl; exact hP.nj hq)
      have hP6 : Plr s t6 id2 j2 cap2 ix jx qs z ls := ⟨hd2', hX6, by omega, by omega, fun hq => by have := hqt _ hq; omega, hP.l0⟩
      have hO6 := (hOw.mono fun id b hb => hKc5.blk hb).chg hC6 (by simp; omega)
      have hg6 := hC6.blk (hKc5.blk hgc) (by simpa using hbxj)
      rw [ht5] at q2
      rw [ht4] at q2
      simp (config := {contextual := true, maxDischargeDepth := 12, maxSteps := 4000000}) only [tb_at, he, e0, e1, e2, e7, e9, e10, e11, e12, lc0, lclt, y0, y1, y2, y3, y4, q1, aa_bsl, aa_bsl1, hb3, ap_build, fillP_nil, fillP_cons, f1, hbs, List.map_cons, q2, notV_bool, Bool.not_true, Bool.not_false, pickV_t, pickV_f, bin_eql, bin_neb, bin_npn, bin_np, n00, n30, n33, decide_true, decide_false, gcall_tt, ap_conv, beq_self_eq_true, Bool.true_and, Bool.and_true, ↓bD, bU, forall_const, bS, implies_true, isNx, eq_self, ↓wp_cond, ↓wp_loop, ↓reduceIte, reduceCtorEq, Nat.reduceEqDiff, Nat.reduceLT, Nat.reduceAdd, Nat.reduceMul, bT, ↓sg_bsl, ↓st_callf, bX, ar_b2s, bin_mulE, ap_mkfn, ↓wi_seq, ↓wi_base, ↓wi_block, ↓wi_cond, ↓wi_loop, ↓wi_rf, ↓wy_seq, ↓wy_base, ↓wy_block, ↓wy_cond, ↓wy_loop, ↓wy_yld, q_known, ↓sg_callf3, ↓st_appf]
      all_goals first | (refine ⟨rfl, ?_⟩) | skip
      rw [hM4]
      exact ⟨id2, j2, cap2, _, hKs6, hP6, hla, hO6, hg6, .inr (by omega), .inr (by omega), (by simp only [bE, Nat.reduceEqDiff, bN, Nat.reduceLT, he, e0, e1, e2, e7, e9, e10, e11, e12]; try rfl), (by simp only [bE, Nat.reduceEqDiff, bN, Nat.reduceLT, he, e0, e1, e2, e7, e9, e10, e11, e12]; try rfl), (by simp only [bE, Nat.reduceEqDiff, bN, Nat.reduceLT, he, e0, e1, e2, e7, e9, e10, e11, e12]; try rfl), (by simp only [bE, Nat.reduceEqDiff, bN, Nat.reduceLT, he, e0, e1, e2, e7, e9, e10, e11, e12]; try rfl), (by simp only [bE, Nat.reduceEqDiff, bN, Nat.reduceLT, he, e0, e1, e2, e7, e9, e10, e11, e12]; try rfl), (by simp only [bE, Nat.reduceEqDiff, bN, Nat.reduceLT, he, e0, e1, e2, e7, e9, e10, e11, e12]; try rfl), (by simp only [bE, Nat.reduceEqDiff, bN, Nat.reduceLT, he, e0, e1, e2, e7, e9, e10, e11, e12]; try rfl), (by simp only [bE, Nat.reduceEqDiff, bN, Nat.reduceLT, he, e0, e1, e2, e7, e9, e10, e11, e12]; try rfl), (by simp only [bE, Nat.reduceEqDiff, bN, Nat.reduceLT, he, e0, e1, e2, e7, e9, e10, e11, e12]; try rfl)⟩
    clear he e0 e1 e2 e7 e9 e10 e11 e12
    intro e u hm
    rw [hM4] at hm
    obtain ⟨id1, j1, cap1, ls1, hKu, hPu, hlu, hOu, hgu, hoi, hoj, he, e0, e1, e2, e7, e9, e10, e11, e12⟩ := hm
    obtain ⟨lu0, lu1, lu2, lu3, lult⟩ := row4_lod hgu
    have qs1 := q_Same2 false (hOu.bwm (M := []) (by simp)) (hLA.apartM hKu (M := []) (by simp)) (by omega)
    rw [decide_eq_true rfl] at qs1
    obtain ⟨gfl1, gfl2, gfl3⟩ := hPu.len
    have hlb1 : ls1.flatten.length ≤ 512 := by
      have := Nat.mul_le_mul (show ls1.length ≤ 8 by omega) hzl
      omega
    have qa1 := q_alike false hPu.dk hPu.xk.rkr ⟨hPu.l0, by omega⟩ (fun k => by
      have := flat_take_le ls1 0 k
      rw [List.drop_zero] at this
      omega) gfl1
    rw [decide_eq_true rfl] at qa1
    refine awp_cutM (fun e tq => u = tq ∧ elen e = 296 ∧ E e 0 = .int .i64 (a : Int) ∧ E e 1 = .int .i64 (z : Int) ∧ E e 2 = vl ∧ E e 7 = .ptr id1 0 ∧ E e 9 = .ptr ix 0 ∧ E e 10 = .int .i64 (i : Int) ∧ E e 12 = vo) ?_ ?_
    · simp (config := {contextual := true, maxDischargeDepth := 12}) only [tb_at, he, e0, e1, e2, e7, e9, e10, e11, e12, lu3, lult, qs1, qa1, notV_bool, Bool.not_true, Bool.not_false, pickV_t, pickV_f, bin_eql, bin_neb, bin_npn, bin_np, n00, n30, n33, decide_true, decide_false, gcall_tt, ap_conv, beq_self_eq_true, Bool.true_and, Bool.and_true, ↓bD, bU, forall_const, bS, implies_true, isNx, eq_self, ↓wp_cond, ↓wp_loop, ↓reduceIte, reduceCtorEq, Nat.reduceEqDiff, Nat.reduceLT, Nat.reduceAdd, Nat.reduceMul, bT, ↓sg_bsl, ↓st_callf, bX, ar_b2s, bin_mulE, ap_mkfn, ↓wi_seq, ↓wi_base, ↓wi_block, ↓wi_cond, ↓wi_loop, ↓wi_rf, ↓wy_seq, ↓wy_base, ↓wy_block, ↓wy_cond, ↓wy_loop, ↓wy_yld, q_known, ↓sg_callf3, ↓st_appf]
    clear he e0 e1 e2 e7 e9 e10 e11 e12
    rintro e _ ⟨rfl, he, e0, e1, e2, e7, e9, e10, e12⟩
    have hins := hOw.ins
    have hjx1 := St.get_lt hPu.xk.lst
    refine awp_cutM (fun e w_ => Keep s w_ ∧ Plr s w_ id1 j1 cap1 ix jx qs z ls1 ∧ OwQ tb w_ vo L sts ∧ elen e = 296 ∧ E e 0 = .int .i64 (a : Int) ∧ E e 1 = .int .i64 (z : Int) ∧ E e 2 = vl ∧ E e 7 = .ptr id1 0 ∧ E e 9 = .ptr ix 0 ∧ E e 10 = .int .i64 (i : Int) ∧ E e 12 = vo) ?_ ?_
    · simp (config := {contextual := true, maxDischargeDepth := 12, maxSteps := 4000000}) only [tb_at, he, e0, e1, e2, e7, e9, e10, e12, notV_bool, Bool.not_true, Bool.not_false, pickV_t, pickV_f, bin_eql, bin_neb, bin_npn, bin_np, n00, n30, n33, decide_true, decide_false, gcall_tt, ap_conv, beq_self_eq_true, Bool.true_and, Bool.and_true, ↓bD, bU, forall_const, bS, implies_true, isNx, eq_self, ↓wp_cond, ↓wp_loop, ↓reduceIte, reduceCtorEq, Nat.reduceEqDiff, Nat.reduceLT, Nat.reduceAdd, Nat.reduceMul, bT, ↓sg_bsl, ↓st_callf, bX, ar_b2s, bin_mulE, ap_mkfn, ↓wi_seq, ↓wi_base, ↓wi_block, ↓wi_cond, ↓wi_loop, ↓wi_rf, ↓wy_seq, ↓wy_base, ↓wy_block, ↓wy_cond, ↓wy_loop, ↓wy_yld, q_known, ↓sg_callf3, ↓st_appf]
      obtain ⟨JO, hJO⟩ : ∃ JO : Nat → Env → St → Prop, ∀ n e w_, JO n e w_ = (Keep s w_ ∧ Plr s w_ id1 j1 cap1 ix jx qs z ls1 ∧ OwQ tb w_ vo L sts ∧ ∃ k : Nat, n + k = L.length ∧ elen e = 296 ∧ E e 0 = .int .i64 (a : Int) ∧ E e 1 = .int .i64 (z : Int) ∧ E e 2 = vl ∧ E e 7 = .ptr id1 0 ∧ E e 9 = .ptr ix 0 ∧ E e 10 = .int .i64 (i : Int) ∧ E e 12 = vo ∧ E e 27 = .int .i64 (k : Int)) := ⟨_, fun _ _ _ => rfl⟩
      refine lwp_inv JO (n := L.length) ?_ ?_
      · rw [hJO]
        exact ⟨hKu, hPu, hOu.owq, 0, by omega, (by simp only [bE, Nat.reduceEqDiff, bN, Nat.reduceLT, he, e0, e1, e2, e7, e9, e10, e12]; try rfl), (by simp only [bE, Nat.reduceEqDiff, bN, Nat.reduceLT, he, e0, e1, e2, e7, e9, e10, e12]; try rfl), (by simp only [bE, Nat.reduceEqDiff, bN, Nat.reduceLT, he, e0, e1, e2, e7, e9, e10, e12]; try rfl), (by simp only [bE, Nat.reduceEqDiff, bN, Nat.reduceLT, he, e0, e1, e2, e7, e9, e10, e12]; try rfl), (by simp only [bE, Nat.reduceEqDiff, bN, Nat.reduceLT, he, e0, e1, e2, e7, e9, e10, e12]; try rfl), (by simp only [bE, Nat.reduceEqDiff, bN, Nat.reduceLT, he, e0, e1, e2, e7, e9, e10, e12]; try rfl), (by simp only [bE, Nat.reduceEqDiff, bN, Nat.reduceLT, he, e0, e1, e2, e7, e9, e10, e12]; try rfl), (by simp only [bE, Nat.reduceEqDiff, bN, Nat.reduceLT, he, e0, e1, e2, e7, e9, e10, e12]; try rfl), (by simp only [bE, Nat.reduceEqDiff, bN, Nat.reduceLT, he, e0, e1, e2, e7, e9, e10, e12]; try rfl)⟩
      clear he e0 e1 e2 e7 e9 e10 e12
      intro n e w_ hi
      rw [hJO] at hi
      obtain ⟨hKw, hPw, hOq, k, hnk, he, e0, e1, e2, e7, e9, e10, e12, e27⟩ := hi
      have hLo := hOq.len
      by_cases hkl : k < L.length
      rotate_left
      · have y1 := eq_false (show ¬ (k : Int) < (L.length : Int) by omega)
        simp (config := {contextual := true, maxDischargeDepth := 12, maxSteps := 4000000}) only [tb_at, he, e0, e1, e2, e7, e9, e10, e12, e27, hLo, y1, notV_bool, Bool.not_true, Bool.not_false, pickV_t, pickV_f, bin_eql, bin_neb, bin_npn, bin_np, n00, n30, n33, decide_true, decide_false, gcall_tt, ap_conv, beq_self_eq_true, Bool.true_and, Bool.and_true, ↓bD, bU, forall_const, bS, implies_true, isNx, eq_self, ↓wp_cond, ↓wp_loop, ↓reduceIte, reduceCtorEq, Nat.reduceEqDiff, Nat.reduceLT, Nat.reduceAdd, Nat.reduceMul, bT, ↓sg_bsl, ↓st_callf, bX, ar_b2s, bin_mulE, ap_mkfn, ↓wi_seq, ↓wi_base, ↓wi_block, ↓wi_cond, ↓wi_loop, ↓wi_rf, ↓wy_seq, ↓wy_base, ↓wy_block, ↓wy_cond, ↓wy_loop, ↓wy_yld, q_known, ↓sg_callf3, ↓st_appf]
        all_goals first | exact ⟨rfl, hKw, hPw, hOq, (by simp only [bE, Nat.reduceEqDiff, bN, Nat.reduceLT, he, e0, e1, e2, e7, e9, e10, e12]; try rfl), (by simp only [bE, Nat.reduceEqDiff, bN, Nat.reduceLT, he, e0, e1, e2, e7, e9, e10, e12]; try rfl), (by simp only [bE, Nat.reduceEqDiff, bN, Nat.reduceLT, he, e0, e1, e2, e7, e9, e10, e12]; try rfl), (by simp only [bE, Nat.reduceEqDiff, bN, Nat.reduceLT, he, e0, e1, e2, e7, e9, e10, e12]; try rfl), (by simp only [bE, Nat.reduceEqDiff, bN, Nat.reduceLT, he, e0, e1, e2, e7, e9, e10, e12]; try rfl), (by simp only [bE, Nat.reduceEqDiff, bN, Nat.reduceLT, he, e0, e1, e2, e7, e9, e10, e12]; try rfl), (by simp only [bE, Nat.reduceEqDiff, bN, Nat.reduceLT, he, e0, e1, e2, e7, e9, e10, e12]; try rfl), (by simp only [bE, Nat.reduceEqDiff, bN, Nat.reduceLT, he, e0, e1, e2, e7, e9, e10, e12]; try rfl)⟩ | exact ⟨hKw, hPw, hOq⟩ | skip
      have y1 := eq_true (show (k : Int) < (L.length : Int) by omega)
      have hwk := wrap_add1 (n := k) (by omega)
      obtain ⟨xk, hxk⟩ := getsome hkl
      obtain ⟨sk, hsk⟩ := getsome (show k < sts.length by rw [hOq.1]; exact hkl)
      simp (config := {contextual := true, maxDischargeDepth := 12, maxSteps := 4000000}) only [tb_at, he, e0, e1, e2, e7, e9, e10, e12, e27, hLo, y1, notV_bool, Bool.not_true, Bool.not_false, pickV_t, pickV_f, bin_eql, bin_neb, bin_npn, bin_np, n00, n30, n33, decide_true, decide_false, gcall_tt, ap_conv, beq_self_eq_true, Bool.true_and, Bool.and_true, ↓bD, bU, forall_const, bS, implies_true, isNx, eq_self, ↓wp_cond, ↓wp_loop, ↓reduceIte, reduceCtorEq, Nat.reduceEqDiff, Nat.reduceLT, Nat.reduceAdd, Nat.reduceMul, bT, ↓sg_bsl, ↓st_callf, bX, ar_b2s, bin_mulE, ap_mkfn, ↓wi_seq, ↓wi_base, ↓wi_block, ↓wi_cond, ↓wi_loop, ↓wi_rf, ↓wy_seq, ↓wy_base, ↓wy_block, ↓wy_cond, ↓wy_loop, ↓wy_yld, q_known, ↓sg_callf3, ↓st_appf]
      obtain ⟨JI, hJI⟩ : ∃ JI : Nat → Env → St → Prop, ∀ n e w_, JI n e w_ = (Keep s w_ ∧ Plr s w_ id1 j1 cap1 ix jx qs z ls1 ∧ OwQ tb w_ vo L sts ∧ ∃ m : Nat, n + m = xk.2.length ∧ elen e = 296 ∧ E e 0 = .int .i64 (a : Int) ∧ E e 1 = .int .i64 (z : Int) ∧ E e 2 = vl ∧ E e 7 = .ptr id1 0 ∧ E e 9 = .ptr ix 0 ∧ E e 10 = .int .i64 (i : Int) ∧ E e 12 = vo ∧ E e 27 = .int .i64 (k : Int) ∧ E e 28 = .int .i64 (m : Int)) := ⟨_, fun _ _ _ => rfl⟩
      refine lwp_inv JI (n := xk.2.length) ?_ ?_
      · rw [hJI]
        exact ⟨hKw, hPw, hOq, 0, by omega, (by simp only [bE, Nat.reduceEqDiff, bN, Nat.reduceLT, he, e0, e1, e2, e7, e9, e10, e12, e27]; try rfl), (by simp only [bE, Nat.reduceEqDiff, bN, Nat.reduceLT, he, e0, e1, e2, e7, e9, e10, e12, e27]; try rfl), (by simp only [bE, Nat.reduceEqDiff, bN, Nat.reduceLT, he, e0, e1, e2, e7, e9, e10, e12, e27]; try rfl), (by simp only [bE, Nat.reduceEqDiff, bN, Nat.reduceLT, he, e0, e1, e2, e7, e9, e10, e12, e27]; try rfl), (by simp only [bE, Nat.reduceEqDiff, bN, Nat.reduceLT, he, e0, e1, e2, e7, e9, e10, e12, e27]; try rfl), (by simp only [bE, Nat.reduceEqDiff, bN, Nat.reduceLT, he, e0, e1, e2, e7, e9, e10, e12, e27]; try rfl), (by simp only [bE, Nat.reduceEqDiff, bN, Nat.reduceLT, he, e0, e1, e2, e7, e9, e10, e12, e27]; try rfl), (by simp only [bE, Nat.reduceEqDiff, bN, Nat.reduceLT, he, e0, e1, e2, e7, e9, e10, e12, e27]; try rfl), (by simp only [bE, Nat.reduceEqDiff, bN, Nat.reduceLT, he, e0, e1, e2, e7, e9, e10, e12, e27]; try rfl), (by simp only [bE, Nat.reduceEqDiff, bN, Nat.reduceLT, he, e0, e1, e2, e7, e9, e10, e12, e27]; try rfl)⟩
      clear hKw hPw hOq hLo he e0 e1 e2 e7 e9 e10 e12 e27
      intro n2 e w_ hi
      rw [hJI] at hi
      obtain ⟨hKw, hPw, hOq, m, hnm, he, e0, e1, e2, e7, e9, e10, e12, e27, e28⟩ := hi
      obtain ⟨jr, r1, r2, r3⟩ := hOq.row hxk hsk
      obtain ⟨dk, hdk, hOk⟩ := hOq.2.2 k xk sk hxk hsk
      have hLk := lenV_read hOk.read
      rw [hdk] at hLk
      have hx70 := hL70 xk (List.mem_of_getElem? hxk)
      by_cases hml : m < xk.2.length
      rotate_left
      · have y2 := eq_false (show ¬ (m : Int) < (xk.2.length : Int) by omega)
        simp (config := {contextual := true, maxDischargeDepth := 12, maxSteps := 4000000}) only [tb_at, he, e0, e1, e2, e7, e9, e10, e12, e27, e28, r1, r2, r3, hLk, y2, hwk, notV_bool, Bool.not_true, Bool.not_false, pickV_t, pickV_f, bin_eql, bin_neb, bin_npn, bin_np, n00, n30, n33, decide_true, decide_false, gcall_tt, ap_conv, beq_self_eq_true, Bool.true_and, Bool.and_true, ↓bD, bU, forall_const, bS, implies_true, isNx, eq_self, ↓wp_cond, ↓wp_loop, ↓reduceIte, reduceCtorEq, Nat.reduceEqDiff, Nat.reduceLT, Nat.reduceAdd, Nat.reduceMul, bT, ↓sg_bsl, ↓st_callf, bX, ar_b2s, bin_mulE, ap_mkfn, ↓wi_seq, ↓wi_base, ↓wi_block, ↓wi_cond, ↓wi_loop, ↓wi_rf, ↓wy_seq, ↓wy_base, ↓wy_block, ↓wy_cond, ↓wy_loop, ↓wy_yld, q_known, ↓sg_callf3, ↓st_appf]
        refine ⟨n - 1, by omega, ?_⟩
        rw [hJO]
        exact ⟨hKw, hPw, hOq, k + 1, by omega, (by simp only [bE, Nat.reduceEqDiff, bN, Nat.reduceLT, he, e0, e1, e2, e7, e9, e10, e12, e27]; try rfl), (by simp only [bE, Nat.reduceEqDiff, bN, Nat.reduceLT, he, e0, e1, e2, e7, e9, e10, e12, e27]; try rfl), (by simp only [bE, Nat.reduceEqDiff, bN, Nat.reduceLT, he, e0, e1, e2, e7, e9, e10, e12, e27]; try rfl), (by simp only [bE, Nat.reduceEqDiff, bN, Nat.reduceLT, he, e0, e1, e2, e7, e9, e10, e12, e27]; try rfl), (by simp only [bE, Nat.reduceEqDiff, bN, Nat.reduceLT, he, e0, e1, e2, e7, e9, e10, e12, e27]; try rfl), (by simp only [bE, Nat.reduceEqDiff, bN, Nat.reduceLT, he, e0, e1, e2, e7, e9, e10, e12, e27]; try rfl), (by simp only [bE, Nat.reduceEqDiff, bN, Nat.reduceLT, he, e0, e1, e2, e7, e9, e10, e12, e27]; try rfl), (by simp only [bE, Nat.reduceEqDiff, bN, Nat.reduceLT, he, e0, e1, e2, e7, e9, e10, e12, e27]; try rfl), (by simp only [bE, Nat.reduceEqDiff, bN, Nat.reduceLT, he, e0, e1, e2, e7, e9, e10, e12, e27]; try rfl)⟩
      have y2 := eq_true (show (m : Int) < (xk.2.length : Int) by omega)
      have hwm := wrap_add1 (n := m) (by omega)
      rcases hOk with ⟨_, e⟩ | ⟨qk, eqk, hd0, hlo, hgk⟩
      · rw [e] at hdk; simp at hdk; omega
      obtain ⟨b0, hb0⟩ := getsome (show m < dk.length by omega)
      have hrk : AM.read byC w_ sk = some dk := (Own.read (C := byC) (.inr ⟨qk, eqk, hd0, hlo, hgk⟩))
      obtain ⟨i1, i2, i3⟩ := by_lods hrk hb0
      rw [eqk] at i1 i2 i3
      have i1 : iadV 1 sk (.int .i64 (m : Int)) = some (.ptr qk m) := by rw [eqk]; simpa [bid, boff] using i1
      have i2 : lod1 w_ (.ptr qk m) = some (.int .u8 (b0.toNat : Int)) := by simpa [bid, boff] using i2
      have i3 : ltN qk w_ := i3
      obtain ⟨b', hb'⟩ := u8_wrap ((b0.toNat : Int) + 1)
      have hs1 := sto_by hgk (i := m) (by omega) b'
      have hOq' := hOq.put hgk (by omega : m < dk.length) b'
      have hqhi : qk < tc.next := by
        rcases hins sk (List.mem_of_getElem? hsk) with e | ⟨q', n', e, _, h⟩
        · rw [eqk] at e; cases e
        · rw [eqk] at e
          injection e with e
          omega
      have hlt1 := St.get_lt hgk
      have hCq : Chg [qk] w_ (w_.put qk (.row (byC.cells (dk.set m b')) true)) := (Chg.refl [qk] w_).put _ (.inl (by simp)) hlt1
      have hPq := hPw.chg hCq (by simp; omega) (by simp; omega) (by simp; omega) (by simp; omega) (fun q hq => by have := hqt q hq; simp; omega)
      have hKq : Keep s (w_.put qk (.row (byC.cells (dk.set m b')) true)) := hKw.put _ (by omega) hlt1
      simp (config := {contextual := true, maxDischargeDepth := 12, maxSteps := 4000000}) only [tb_at, he, e0, e1, e2, e7, e9, e10, e12, e27, e28, r1, r2, r3, hLk, y2, hwm, i1, i2, i3, hb', hs1, notV_bool, Bool.not_true, Bool.not_false, pickV_t, pickV_f, bin_eql, bin_neb, bin_npn, bin_np, n00, n30, n33, decide_true, decide_false, gcall_tt, ap_conv, beq_self_eq_true, Bool.true_and, Bool.and_true, ↓bD, bU, forall_const, bS, implies_true, isNx, eq_self, ↓wp_cond, ↓wp_loop, ↓reduceIte, reduceCtorEq, Nat.reduceEqDiff, Nat.reduceLT, Nat.reduceAdd, Nat.reduceMul, bT, ↓sg_bsl, ↓st_callf, bX, ar_b2s, bin_mulE, ap_mkfn, ↓wi_seq, ↓wi_base, ↓wi_block, ↓wi_cond, ↓wi_loop, ↓wi_rf, ↓wy_seq, ↓wy_base, ↓wy_block, ↓wy_cond, ↓wy_loop, ↓wy_yld, q_known, ↓sg_callf3, ↓st_appf]
      refine ⟨n2 - 1, by omega, ?_⟩
      rw [hJI]
      exact ⟨hKq, hPq, hOq', m + 1, by omega, (by simp only [bE, Nat.reduceEqDiff, bN, Nat.reduceLT, he, e0, e1, e2, e7, e9, e10, e12, e27, e28]; try rfl), (by simp only [bE, Nat.reduceEqDiff, bN, Nat.reduceLT, he, e0, e1, e2, e7, e9, e10, e12, e27, e28]; try rfl), (by simp only [bE, Nat.reduceEqDiff, bN, Nat.reduceLT, he, e0, e1, e2, e7, e9, e10, e12, e27, e28]; try rfl), (by simp only [bE, Nat.reduceEqDiff, bN, Nat.reduceLT, he, e0, e1, e2, e7, e9, e10, e12, e27, e28]; try rfl), (by simp only [bE, Nat.reduceEqDiff, bN, Nat.reduceLT, he, e0, e1, e2, e7, e9, e10, e12, e27, e28]; try rfl), (by simp only [bE, Nat.reduceEqDiff, bN, Nat.reduceLT, he, e0, e1, e2, e7, e9, e10, e12, e27, e28]; try rfl), (by simp only [bE, Nat.reduceEqDiff, bN, Nat.reduceLT, he, e0, e1, e2, e7, e9, e10, e12, e27, e28]; try rfl), (by simp only [bE, Nat.reduceEqDiff, bN, Nat.reduceLT, he, e0, e1, e2, e7, e9, e10, e12, e27, e28]; try rfl), (by simp only [bE, Nat.reduceEqDiff, bN, Nat.reduceLT, he, e0, e1, e2, e7, e9, e10, e12, e27, e28]; try rfl), (by simp only [bE, Nat.reduceEqDiff, bN, Nat.reduceLT, he, e0, e1, e2, e7, e9, e10, e12, e27, e28]; try rfl)⟩
    clear he e0 e1 e2 e7 e9 e10 e12
    rintro e w_ ⟨hKw, hPw, hOq, he, e0, e1, e2, e7, e9, e10, e12⟩
    have qa2 := q_alike false hPw.dk hPw.xk.rkr ⟨hPw.l0, by omega⟩ (fun k => by
      have := flat_take_le ls1 0 k
      rw [List.drop_zero] at this
      omega) gfl1
    rw [decide_eq_true rfl] at qa2
    simp (config := {contextual := true, maxDischargeDepth := 12, maxSteps := 4000000}) only [tb_at, he, e0, e1, e2, e7, e9, e10, e12, qa2, notV_bool, Bool.not_true, Bool.not_false, pickV_t, pickV_f, bin_eql, bin_neb, bin_npn, bin_np, n00, n30, n33, decide_true, decide_false, gcall_tt, ap_conv, beq_self_eq_true, Bool.true_and, Bool.and_true, ↓bD, bU, forall_const, bS, implies_true, isNx, eq_self, ↓wp_cond, ↓wp_loop, ↓reduceIte, reduceCtorEq, Nat.reduceEqDiff, Nat.reduceLT, Nat.reduceAdd, Nat.reduceMul, bT, ↓sg_bsl, ↓st_callf, bX, ar_b2s, bin_mulE, ap_mkfn, ↓wi_seq, ↓wi_base, ↓wi_block, ↓wi_cond, ↓wi_loop, ↓wi_rf, ↓wy_seq, ↓wy_base, ↓wy_block, ↓wy_cond, ↓wy_loop, ↓wy_yld, q_known, ↓sg_callf3, ↓st_appf]
    all_goals first | (refine ⟨rfl, ?_⟩) | skip
    rw [hMB]
    exact ⟨id1, j1, cap1, ls1, hKw, hPw, hlu, (by simp only [bE, Nat.reduceEqDiff, bN, Nat.reduceLT, he, e0, e1, e2, e7, e9, e10, e12]; try rfl), (by simp only [bE, Nat.reduceEqDiff, bN, Nat.reduceLT, he, e0, e1, e2, e7, e9, e10, e12]; try rfl), (by simp only [bE, Nat.reduceEqDiff, bN, Nat.reduceLT, he, e0, e1, e2, e7, e9, e10, e12]; try rfl), (by simp only [bE, Nat.reduceEqDiff, bN, Nat.reduceLT, he, e0, e1, e2, e7, e9, e10, e12]; try rfl), (by simp only [bE, Nat.reduceEqDiff, bN, Nat.reduceLT, he, e0, e1, e2, e7, e9, e10, e12]; try rfl), (by simp only [bE, Nat.reduceEqDiff, bN, Nat.reduceLT, he, e0, e1, e2, e7, e9, e10, e12]; try rfl), (by simp only [bE, Nat.reduceEqDiff, bN, Nat.reduceLT, he, e0, e1, e2, e7, e9, e10, e12]; try rfl)⟩

end Go.AM
end
