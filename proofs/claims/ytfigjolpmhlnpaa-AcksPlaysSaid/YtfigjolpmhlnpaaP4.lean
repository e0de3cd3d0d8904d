/-
  What a replica knows: Meet, Ack, Receive, Jump, of the program and of the reference. Own work of this project; in part printed by a program of it.
-/
import Derived.Test.YtfigjolpmhlnpaaP3
import Derived.KernelRfl
set_option linter.unusedVariables false
set_option linter.unusedSimpArgs false
section
set_option maxRecDepth 100000
set_option maxHeartbeats 8000000
namespace Go.AM
open Go Go.Proofs

variable {s t u : St}

theorem fs40 (a b c d : AV) (n : Int) (K : List AV → Option (List AV)) : fstep [a, b, c, d] 0 1 (.int .i64 n) K = K [.int .i64 n, b, c, d] := by simp [fstep, AV.cells, AV.one, setAt]
theorem fs41 (a b c d : AV) (n : Int) (K : List AV → Option (List AV)) : fstep [a, b, c, d] 1 1 (.int .i64 n) K = K [a, .int .i64 n, c, d] := by simp [fstep, AV.cells, AV.one, setAt]
theorem mmV_max2 (a b : Int) : mmV true [.int .i64 a, .int .i64 b] = some (.int .i64 (max a b)) := mmV_max _ _ _
theorem w_Meet {s : St} {id j : Nat} {cap : Option Nat} {rep : Int} {L : List Nb} (hk : AkR s id j cap rep L) (hr : rep ≠ 0) (hs : SrtB L) (n ep : Int) : ∀ env : Env, elen env = a15.ntmps → (∀ i x_, [.ptr id 0, .int .i64 n, .int .i64 ep][i]? = some x_ → E env i = x_) → awp (tb [(33, R_find)]) a15.body (fun x e t => (∀ i, x ≠ .exit i) ∧ ∃ r, aresults e t a15.results = some r ∧ (r = .int .i64 (opL (meetF n ep) L n).1 ∧ AkR t id j cap rep (opL (meetF n ep) L n).2 ∧ Chg [j] s t)) env s := by
  intro env hlen ha
  have h0 : E env 0 = _ := ha 0 _ rfl
  have h1 : E env 1 = _ := ha 1 _ rfl
  have h2 : E env 2 = _ := ha 2 _ rfl
  have hlen : elen env = _ := hlen
  simp only [a15] at hlen
  unfold a15
  try dsimp only [oO, oG]
  have n00 : ((0 : Int) = 0) = True := eq_true rfl
  have n20 : ((2 : Int) = 0) = False := eq_false (by decide)
  cases hf : fndB L n with
  | none =>
    have hS := opL_miss (f := meetF n ep) hf
    have q1 := q_find_m false hk hr hs hf
    rw [hS]
    simp (config := {contextual := true, maxDischargeDepth := 12}) only [tb_at, h0, h1, h2, hlen, n00, n20, q1, n00, decide_true, decide_false, Bool.not_true, Bool.not_false, bin_eql, bin_neq, notV_bool, ↓bD, bU, forall_const, bS, implies_true, isNx, eq_self, ↓wp_cond, ↓wp_loop, ↓reduceIte, reduceCtorEq, Nat.reduceEqDiff, Nat.reduceLT, Nat.reduceAdd, Nat.reduceMul, bT, ↓sg_bsl, ↓st_callf, bX, ap_mkfn, ap_conv, ↓wi_seq, ↓wi_base, ↓wi_block, ↓wi_cond, ↓wi_loop, ↓wi_rf, ↓wy_seq, ↓wy_base, ↓wy_block, ↓wy_cond, ↓wy_loop, ↓wy_yld, bin_shr1, q_known, ae_callvV, callvV_fn, List.append_nil, List.cons_append, List.nil_append, fs40, fs41, mmV_max2]
    all_goals first | exact ⟨_, rfl, rfl, hk, Chg.refl _ _⟩ | exact ⟨hk, Chg.refl _ _⟩ | skip
  | some i =>
    obtain ⟨y, hy, hyr⟩ := fndB_some hf
    obtain ⟨t1, q1, hK1⟩ := q_find_h hk hr hs hf hy
    have hC1 : Chg [j] s t1 := hK1.chg _
    have hk1 := hk.keep hK1
    obtain ⟨i1, l0, l1, l2, l3, l4, llt⟩ := hk1.at hy
    obtain ⟨s4, sa, sg, hsP⟩ := hk1.sto hy
    obtain ⟨b0, b1, blt⟩ := row2_lod hk1.box
    have hdl := St.get_lt (hk1.dat (fun e => by rw [e] at hy; simp at hy))
    have hCp : ∀ bl, Chg [j] s (t1.put j bl) := fun bl => hC1.put _ (.inl (by simp)) hdl
    by_cases c1 : ep < 0
    · have z1 := eq_true c1
      have hS := opL_same (f := meetF n ep) hf hy (show meetF n ep y = (2, y) by unfold meetF; rw [if_pos (.inl c1)])
      rw [hS]
      simp (config := {contextual := true, maxDischargeDepth := 12}) only [tb_at, h0, h1, h2, hlen, n00, n20, q1, nchkV_ptr, l0, l1, l2, l3, l4, llt, b0, b1, blt, i1, decide_true, decide_false, Bool.not_true, Bool.not_false, bin_eql, bin_neq, notV_bool, z1, ↓bD, bU, forall_const, bS, implies_true, isNx, eq_self, ↓wp_cond, ↓wp_loop, ↓reduceIte, reduceCtorEq, Nat.reduceEqDiff, Nat.reduceLT, Nat.reduceAdd, Nat.reduceMul, bT, ↓sg_bsl, ↓st_callf, bX, ap_mkfn, ap_conv, ↓wi_seq, ↓wi_base, ↓wi_block, ↓wi_cond, ↓wi_loop, ↓wi_rf, ↓wy_seq, ↓wy_base, ↓wy_block, ↓wy_cond, ↓wy_loop, ↓wy_yld, bin_shr1, q_known, ae_callvV, callvV_fn, List.append_nil, List.cons_append, List.nil_append, fs40, fs41, mmV_max2]
      all_goals first | exact ⟨_, rfl, rfl, hk1, hC1⟩ | exact ⟨hk1, hC1⟩ | skip
    have z1 := eq_false c1
    by_cases c2 : 1073741824 < ep
    · have z2 := eq_true c2
      have hS := opL_same (f := meetF n ep) hf hy (show meetF n ep y = (2, y) by unfold meetF; rw [if_pos (.inr c2)])
      rw [hS]
      simp (config := {contextual := true, maxDischargeDepth := 12}) only [tb_at, h0, h1, h2, hlen, n00, n20, q1, nchkV_ptr, l0, l1, l2, l3, l4, llt, b0, b1, blt, i1, decide_true, decide_false, Bool.not_true, Bool.not_false, bin_eql, bin_neq, notV_bool, z1, z2, ↓bD, bU, forall_const, bS, implies_true, isNx, eq_self, ↓wp_cond, ↓wp_loop, ↓reduceIte, reduceCtorEq, Nat.reduceEqDiff, Nat.reduceLT, Nat.reduceAdd, Nat.reduceMul, bT, ↓sg_bsl, ↓st_callf, bX, ap_mkfn, ap_conv, ↓wi_seq, ↓wi_base, ↓wi_block, ↓wi_cond, ↓wi_loop, ↓wi_rf, ↓wy_seq, ↓wy_base, ↓wy_block, ↓wy_cond, ↓wy_loop, ↓wy_yld, bin_shr1, q_known, ae_callvV, callvV_fn, List.append_nil, List.cons_append, List.nil_append, fs40, fs41, mmV_max2]
      all_goals first | exact ⟨_, rfl, rfl, hk1, hC1⟩ | exact ⟨hk1, hC1⟩ | skip
    have z2 := eq_false c2
    by_cases c3 : ep < y.e
    · have z3 := eq_true c3
      have hS := opL_same (f := meetF n ep) hf hy (show meetF n ep y = (16, y) by unfold meetF; rw [if_neg (by omega), if_pos c3])
      rw [hS]
      simp (config := {contextual := true, maxDischargeDepth := 12}) only [tb_at, h0, h1, h2, hlen, n00, n20, q1, nchkV_ptr, l0, l1, l2, l3, l4, llt, b0, b1, blt, i1, decide_true, decide_false, Bool.not_true, Bool.not_false, bin_eql, bin_neq, notV_bool, z1, z2, z3, ↓bD, bU, forall_const, bS, implies_true, isNx, eq_self, ↓wp_cond, ↓wp_loop, ↓reduceIte, reduceCtorEq, Nat.reduceEqDiff, Nat.reduceLT, Nat.reduceAdd, Nat.reduceMul, bT, ↓sg_bsl, ↓st_callf, bX, ap_mkfn, ap_conv, ↓wi_seq, ↓wi_base, ↓wi_block, ↓wi_cond, ↓wi_loop, ↓wi_rf, ↓wy_seq, ↓wy_base, ↓wy_block, ↓wy_cond, ↓wy_loop, ↓wy_yld, bin_shr1, q_known, ae_callvV, callvV_fn, List.append_nil, List.cons_append, List.nil_append, fs40, fs41, mmV_max2]
      all_goals first | exact ⟨_, rfl, rfl, hk1, hC1⟩ | exact ⟨hk1, hC1⟩ | skip
    have z3 := eq_false c3
    by_cases c4 : y.e < ep
    · have z4 := eq_true c4
      have hS := opL_hit (f := meetF n ep) hf hy
      rw [show meetF n ep y = (0, ⟨n, ep, 0, 0⟩) by unfold meetF; rw [if_neg (by omega), if_neg c3, if_pos c4]] at hS
      have s4 := s4 ⟨n, ep, 0, 0⟩
      have s4 : AM.sto t1 4 (.ptr j (i * 4)) (.agg [.int .i64 n, .int .i64 ep, .int .i64 0, .int .i64 0]) = some (.und, t1.put j (.row (nbC.cells (L.set i ⟨n, ep, 0, 0⟩)) true)) := s4
      rw [hS]
      simp (config := {contextual := true, maxDischargeDepth := 12}) only [tb_at, h0, h1, h2, hlen, n00, n20, q1, nchkV_ptr, l0, l1, l2, l3, l4, llt, b0, b1, blt, i1, decide_true, decide_false, Bool.not_true, Bool.not_false, bin_eql, bin_neq, notV_bool, z1, z2, z3, z4, ap_build, fillP_nil, fillP_cons, s4, ↓bD, bU, forall_const, bS, implies_true, isNx, eq_self, ↓wp_cond, ↓wp_loop, ↓reduceIte, reduceCtorEq, Nat.reduceEqDiff, Nat.reduceLT, Nat.reduceAdd, Nat.reduceMul, bT, ↓sg_bsl, ↓st_callf, bX, ap_mkfn, ap_conv, ↓wi_seq, ↓wi_base, ↓wi_block, ↓wi_cond, ↓wi_loop, ↓wi_rf, ↓wy_seq, ↓wy_base, ↓wy_block, ↓wy_cond, ↓wy_loop, ↓wy_yld, bin_shr1, q_known, ae_callvV, callvV_fn, List.append_nil, List.cons_append, List.nil_append, fs40, fs41, mmV_max2]
      all_goals first | exact ⟨_, rfl, rfl, hsP _, hCp _⟩ | exact ⟨hsP _, hCp _⟩ | skip
    have z4 := eq_false c4
    have hS := opL_same (f := meetF n ep) hf hy (show meetF n ep y = (0, y) by unfold meetF; rw [if_neg (by omega), if_neg c3, if_neg c4])
    rw [hS]
    simp (config := {contextual := true, maxDischargeDepth := 12}) only [tb_at, h0, h1, h2, hlen, n00, n20, q1, nchkV_ptr, l0, l1, l2, l3, l4, llt, b0, b1, blt, i1, decide_true, decide_false, Bool.not_true, Bool.not_false, bin_eql, bin_neq, notV_bool, z1, z2, z3, z4, ↓bD, bU, forall_const, bS, implies_true, isNx, eq_self, ↓wp_cond, ↓wp_loop, ↓reduceIte, reduceCtorEq, Nat.reduceEqDiff, Nat.reduceLT, Nat.reduceAdd, Nat.reduceMul, bT, ↓sg_bsl, ↓st_callf, bX, ap_mkfn, ap_conv, ↓wi_seq, ↓wi_base, ↓wi_block, ↓wi_cond, ↓wi_loop, ↓wi_rf, ↓wy_seq, ↓wy_base, ↓wy_block, ↓wy_cond, ↓wy_loop, ↓wy_yld, bin_shr1, q_known, ae_callvV, callvV_fn, List.append_nil, List.cons_append, List.nil_append, fs40, fs41, mmV_max2]
    all_goals first | exact ⟨_, rfl, rfl, hk1, hC1⟩ | exact ⟨hk1, hC1⟩ | skip
theorem AkR.same_Meet {id j : Nat} {cap : Option Nat} {rep : Int} {L L' : List Nb} (h0 : AkR s id j cap rep L) (h : AkR t id j cap rep L') (g : ∀ id, id < s.next → u.get id = t.get id) (hn : s.next ≤ u.next) : AkR u id j cap rep L' := ⟨by rw [g _ (St.get_lt h0.box)]; exact h.box, fun q => by rw [g _ h0.jlt]; exact h.dat q, h.hcap, h.hn, Nat.lt_of_lt_of_le h0.jlt hn⟩
theorem q_Meet {s : St} {id j : Nat} {cap : Option Nat} {rep : Int} {L : List Nb} (hk : AkR s id j cap rep L) (hr : rep ≠ 0) (hs : SrtB L) (n ep : Int) : ∃ t, acall R_Meet false [.ptr id 0, .int .i64 n, .int .i64 ep] s = some (.int .i64 (opL (meetF n ep) L n).1, t) ∧ AkR t id j cap rep (opL (meetF n ep) L n).2 ∧ Chg [j] s t := by
  obtain ⟨r, t, h1, rfl, h2, h3⟩ := run_awp n_Meet (args := [.ptr id 0, .int .i64 n, .int .i64 ep]) (by simp [a15]) (w_Meet (s := lowd s) hk.low hr hs n ep)
  obtain ⟨t', g1, g2, _, g4⟩ := run_chg s_Meet h1 h3
  exact ⟨t', g1, hk.same_Meet h2 g2 g4.next, g4⟩
theorem w_Ack {s : St} {id j : Nat} {cap : Option Nat} {rep : Int} {L : List Nb} (hk : AkR s id j cap rep L) (hr : rep ≠ 0) (hs : SrtB L) (n m l : Int) : ∀ env : Env, elen env = a13.ntmps → (∀ i x_, [.ptr id 0, .int .i64 n, .int .i64 m, .int .i64 l][i]? = some x_ → E env i = x_) → awp (tb [(33, R_find), (34, R_num)]) a13.body (fun x e t => (∀ i, x ≠ .exit i) ∧ ∃ r, aresults e t a13.results = some r ∧ (r = .int .i64 (opL (ackF m l) L n).1 ∧ AkR t id j cap rep (opL (ackF m l) L n).2 ∧ Chg [j] s t)) env s := by
  intro env hlen ha
  have h0 : E env 0 = _ := ha 0 _ rfl
  have h1 : E env 1 = _ := ha 1 _ rfl
  have h2 : E env 2 = _ := ha 2 _ rfl
  have h3 : E env 3 = _ := ha 3 _ rfl
  have hlen : elen env = _ := hlen
  simp only [a13] at hlen
  unfold a13
  try dsimp only [oO, oG]
  have n00 : ((0 : Int) = 0) = True := eq_true rfl
  have n20 : ((2 : Int) = 0) = False := eq_false (by decide)
  cases hf : fndB L n with
  | none =>
    have hS := opL_miss (f := ackF m l) hf
    have q1 := q_find_m false hk hr hs hf
    rw [hS]
    simp (config := {contextual := true, maxDischargeDepth := 12}) only [tb_at, h0, h1, h2, h3, hlen, n00, n20, q1, n00, decide_true, decide_false, Bool.not_true, Bool.not_false, bin_eql, bin_neq, notV_bool, ↓bD, bU, forall_const, bS, implies_true, isNx, eq_self, ↓wp_cond, ↓wp_loop, ↓reduceIte, reduceCtorEq, Nat.reduceEqDiff, Nat.reduceLT, Nat.reduceAdd, Nat.reduceMul, bT, ↓sg_bsl, ↓st_callf, bX, ap_mkfn, ap_conv, ↓wi_seq, ↓wi_base, ↓wi_block, ↓wi_cond, ↓wi_loop, ↓wi_rf, ↓wy_seq, ↓wy_base, ↓wy_block, ↓wy_cond, ↓wy_loop, ↓wy_yld, bin_shr1, q_known, ae_callvV, callvV_fn, List.append_nil, List.cons_append, List.nil_append, fs40, fs41, mmV_max2]
    all_goals first | exact ⟨_, rfl, rfl, hk, Chg.refl _ _⟩ | exact ⟨hk, Chg.refl _ _⟩ | skip
  | some i =>
    obtain ⟨y, hy, hyr⟩ := fndB_some hf
    obtain ⟨t1, q1, hK1⟩ := q_find_h hk hr hs hf hy
    have hC1 : Chg [j] s t1 := hK1.chg _
    have hk1 := hk.keep hK1
    obtain ⟨i1, l0, l1, l2, l3, l4, llt⟩ := hk1.at hy
    obtain ⟨s4, sa, sg, hsP⟩ := hk1.sto hy
    obtain ⟨b0, b1, blt⟩ := row2_lod hk1.box
    have hdl := St.get_lt (hk1.dat (fun e => by rw [e] at hy; simp at hy))
    have hCp : ∀ bl, Chg [j] s (t1.put j bl) := fun bl => hC1.put _ (.inl (by simp)) hdl
    have qm := q_num false m (s := t1)
    have ql := q_num false l (s := t1)
    have qm : acall R_num false [.int .i64 m] t1 = some (.bool (numI m), t1) := qm
    have ql : acall R_num false [.int .i64 l] t1 = some (.bool (numI l), t1) := ql
    cases c1 : numI m
    · rw [c1] at qm
      have hS := opL_same (f := ackF m l) hf hy (show ackF m l y = (2, y) by unfold ackF; rw [if_pos (.inl c1)])
      rw [hS]
      simp (config := {contextual := true, maxDischargeDepth := 12}) only [tb_at, h0, h1, h2, h3, hlen, n00, n20, q1, nchkV_ptr, l0, l1, l2, l3, l4, llt, b0, b1, blt, i1, decide_true, decide_false, Bool.not_true, Bool.not_false, bin_eql, bin_neq, notV_bool, qm, ↓bD, bU, forall_const, bS, implies_true, isNx, eq_self, ↓wp_cond, ↓wp_loop, ↓reduceIte, reduceCtorEq, Nat.reduceEqDiff, Nat.reduceLT, Nat.reduceAdd, Nat.reduceMul, bT, ↓sg_bsl, ↓st_callf, bX, ap_mkfn, ap_conv, ↓wi_seq, ↓wi_base, ↓wi_block, ↓wi_cond, ↓wi_loop, ↓wi_rf, ↓wy_seq, ↓wy_base, ↓wy_block, ↓wy_cond, ↓wy_loop, ↓wy_yld, bin_shr1, q_known, ae_callvV, callvV_fn, List.append_nil, List.cons_append, List.nil_append, fs40, fs41, mmV_max2]
      all_goals first | exact ⟨_, rfl, rfl, hk1, hC1⟩ | exact ⟨hk1, hC1⟩ | skip
    rw [c1] at qm
    cases c2 : numI l
    · rw [c2] at ql
      have hS := opL_same (f := ackF m l) hf hy (show ackF m l y = (2, y) by unfold ackF; rw [if_pos (.inr c2)])
      rw [hS]
      simp (config := {contextual := true, maxDischargeDepth := 12}) only [tb_at, h0, h1, h2, h3, hlen, n00, n20, q1, nchkV_ptr, l0, l1, l2, l3, l4, llt, b0, b1, blt, i1, decide_true, decide_false, Bool.not_true, Bool.not_false, bin_eql, bin_neq, notV_bool, qm, ql, ↓bD, bU, forall_const, bS, implies_true, isNx, eq_self, ↓wp_cond, ↓wp_loop, ↓reduceIte, reduceCtorEq, Nat.reduceEqDiff, Nat.reduceLT, Nat.reduceAdd, Nat.reduceMul, bT, ↓sg_bsl, ↓st_callf, bX, ap_mkfn, ap_conv, ↓wi_seq, ↓wi_base, ↓wi_block, ↓wi_cond, ↓wi_loop, ↓wi_rf, ↓wy_seq, ↓wy_base, ↓wy_block, ↓wy_cond, ↓wy_loop, ↓wy_yld, bin_shr1, q_known, ae_callvV, callvV_fn, List.append_nil, List.cons_append, List.nil_append, fs40, fs41, mmV_max2]
      all_goals first | exact ⟨_, rfl, rfl, hk1, hC1⟩ | exact ⟨hk1, hC1⟩ | skip
    rw [c2] at ql
    have hneg : ¬ (numI m = false ∨ numI l = false) := by rw [c1, c2]; decide
    by_cases c3 : l < m
    · have z3 := eq_true c3
      have hS := opL_same (f := ackF m l) hf hy (show ackF m l y = (3, y) by unfold ackF; rw [if_neg hneg, if_pos c3])
      rw [hS]
      simp (config := {contextual := true, maxDischargeDepth := 12}) only [tb_at, h0, h1, h2, h3, hlen, n00, n20, q1, nchkV_ptr, l0, l1, l2, l3, l4, llt, b0, b1, blt, i1, decide_true, decide_false, Bool.not_true, Bool.not_false, bin_eql, bin_neq, notV_bool, qm, ql, z3, ↓bD, bU, forall_const, bS, implies_true, isNx, eq_self, ↓wp_cond, ↓wp_loop, ↓reduceIte, reduceCtorEq, Nat.reduceEqDiff, Nat.reduceLT, Nat.reduceAdd, Nat.reduceMul, bT, ↓sg_bsl, ↓st_callf, bX, ap_mkfn, ap_conv, ↓wi_seq, ↓wi_base, ↓wi_block, ↓wi_cond, ↓wi_loop, ↓wi_rf, ↓wy_seq, ↓wy_base, ↓wy_block, ↓wy_cond, ↓wy_loop, ↓wy_yld, bin_shr1, q_known, ae_callvV, callvV_fn, List.append_nil, List.cons_append, List.nil_append, fs40, fs41, mmV_max2]
      all_goals first | exact ⟨_, rfl, rfl, hk1, hC1⟩ | exact ⟨hk1, hC1⟩ | skip
    have z3 := eq_false c3
    have hS := opL_hit (f := ackF m l) hf hy
    rw [show ackF m l y = (0, { y with a := max y.a m }) by unfold ackF; rw [if_neg hneg, if_neg c3]] at hS
    have sa := sa (max y.a m)
    rw [hS]
    simp (config := {contextual := true, maxDischargeDepth := 12}) only [tb_at, h0, h1, h2, h3, hlen, n00, n20, q1, nchkV_ptr, l0, l1, l2, l3, l4, llt, b0, b1, blt, i1, decide_true, decide_false, Bool.not_true, Bool.not_false, bin_eql, bin_neq, notV_bool, qm, ql, z3, sa, ↓bD, bU, forall_const, bS, implies_true, isNx, eq_self, ↓wp_cond, ↓wp_loop, ↓reduceIte, reduceCtorEq, Nat.reduceEqDiff, Nat.reduceLT, Nat.reduceAdd, Nat.reduceMul, bT, ↓sg_bsl, ↓st_callf, bX, ap_mkfn, ap_conv, ↓wi_seq, ↓wi_base, ↓wi_block, ↓wi_cond, ↓wi_loop, ↓wi_rf, ↓wy_seq, ↓wy_base, ↓wy_block, ↓wy_cond, ↓wy_loop, ↓wy_yld, bin_shr1, q_known, ae_callvV, callvV_fn, List.append_nil, List.cons_append, List.nil_append, fs40, fs41, mmV_max2]
    all_goals first | exact ⟨_, rfl, rfl, hsP _, hCp _⟩ | exact ⟨hsP _, hCp _⟩ | skip
theorem q_Ack {s : St} {id j : Nat} {cap : Option Nat} {rep : Int} {L : List Nb} (hk : AkR s id j cap rep L) (hr : rep ≠ 0) (hs : SrtB L) (n m l : Int) : ∃ t, acall R_Ack false [.ptr id 0, .int .i64 n, .int .i64 m, .int .i64 l] s = some (.int .i64 (opL (ackF m l) L n).1, t) ∧ AkR t id j cap rep (opL (ackF m l) L n).2 ∧ Chg [j] s t := by
  obtain ⟨r, t, h1, rfl, h2, h3⟩ := run_awp n_Ack (args := [.ptr id 0, .int .i64 n, .int .i64 m, .int .i64 l]) (by simp [a13]) (w_Ack (s := lowd s) hk.low hr hs n m l)
  obtain ⟨t', g1, g2, _, g4⟩ := run_chg s_Ack h1 h3
  exact ⟨t', g1, hk.same_Meet h2 g2 g4.next, g4⟩
theorem w_Recv {s : St} {id j : Nat} {cap : Option Nat} {rep : Int} {L : List Nb} (hk : AkR s id j cap rep L) (hr : rep ≠ 0) (hs : SrtB L) (n f l : Int) : ∀ env : Env, elen env = a16.ntmps → (∀ i x_, [.ptr id 0, .int .i64 n, .int .i64 f, .int .i64 l][i]? = some x_ → E env i = x_) → awp (tb [(33, R_find), (34, R_num)]) a16.body (fun x e t => (∀ i, x ≠ .exit i) ∧ ∃ r, aresults e t a16.results = some r ∧ (r = .int .i64 (opL (recvF f l) L n).1 ∧ AkR t id j cap rep (opL (recvF f l) L n).2 ∧ Chg [j] s t)) env s := by
  intro env hlen ha
  have h0 : E env 0 = _ := ha 0 _ rfl
  have h1 : E env 1 = _ := ha 1 _ rfl
  have h2 : E env 2 = _ := ha 2 _ rfl
  have h3 : E env 3 = _ := ha 3 _ rfl
  have hlen : elen env = _ := hlen
  simp only [a16] at hlen
  unfold a16
  try dsimp only [oO, oG]
  have n00 : ((0 : Int) = 0) = True := eq_true rfl
  have n20 : ((2 : Int) = 0) = False := eq_false (by decide)
  cases hf : fndB L n with
  | none =>
    have hS := opL_miss (f := recvF f l) hf
    have q1 := q_find_m false hk hr hs hf
    rw [hS]
    simp (config := {contextual := true, maxDischargeDepth := 12}) only [tb_at, h0, h1, h2, h3, hlen, n00, n20, q1, n00, decide_true, decide_false, Bool.not_true, Bool.not_false, bin_eql, bin_neq, notV_bool, ↓bD, bU, forall_const, bS, implies_true, isNx, eq_self, ↓wp_cond, ↓wp_loop, ↓reduceIte, reduceCtorEq, Nat.reduceEqDiff, Nat.reduceLT, Nat.reduceAdd, Nat.reduceMul, bT, ↓sg_bsl, ↓st_callf, bX, ap_mkfn, ap_conv, ↓wi_seq, ↓wi_base, ↓wi_block, ↓wi_cond, ↓wi_loop, ↓wi_rf, ↓wy_seq, ↓wy_base, ↓wy_block, ↓wy_cond, ↓wy_loop, ↓wy_yld, bin_shr1, q_known, ae_callvV, callvV_fn, List.append_nil, List.cons_append, List.nil_append, fs40, fs41, mmV_max2]
    all_goals first | exact ⟨_, rfl, rfl, hk, Chg.refl _ _⟩ | exact ⟨hk, Chg.refl _ _⟩ | skip
  | some i =>
    obtain ⟨y, hy, hyr⟩ := fndB_some hf
    obtain ⟨t1, q1, hK1⟩ := q_find_h hk hr hs hf hy
    have hC1 : Chg [j] s t1 := hK1.chg _
    have hk1 := hk.keep hK1
    obtain ⟨i1, l0, l1, l2, l3, l4, llt⟩ := hk1.at hy
    obtain ⟨s4, sa, sg, hsP⟩ := hk1.sto hy
    obtain ⟨b0, b1, blt⟩ := row2_lod hk1.box
    have hdl := St.get_lt (hk1.dat (fun e => by rw [e] at hy; simp at hy))
    have hCp : ∀ bl, Chg [j] s (t1.put j bl) := fun bl => hC1.put _ (.inl (by simp)) hdl
    have ql := q_num false l (s := t1)
    have ql : acall R_num false [.int .i64 l] t1 = some (.bool (numI l), t1) := ql
    by_cases c1 : f < 1
    · have z1 := eq_true c1
      have hS := opL_same (f := recvF f l) hf hy (show recvF f l y = (2, y) by unfold recvF; rw [if_pos (.inl c1)])
      rw [hS]
      simp (config := {contextual := true, maxDischargeDepth := 12}) only [tb_at, h0, h1, h2, h3, hlen, n00, n20, q1, nchkV_ptr, l0, l1, l2, l3, l4, llt, b0, b1, blt, i1, decide_true, decide_false, Bool.not_true, Bool.not_false, bin_eql, bin_neq, notV_bool, z1, ↓bD, bU, forall_const, bS, implies_true, isNx, eq_self, ↓wp_cond, ↓wp_loop, ↓reduceIte, reduceCtorEq, Nat.reduceEqDiff, Nat.reduceLT, Nat.reduceAdd, Nat.reduceMul, bT, ↓sg_bsl, ↓st_callf, bX, ap_mkfn, ap_conv, ↓wi_seq, ↓wi_base, ↓wi_block, ↓wi_cond, ↓wi_loop, ↓wi_rf, ↓wy_seq, ↓wy_base, ↓wy_block, ↓wy_cond, ↓wy_loop, ↓wy_yld, bin_shr1, q_known, ae_callvV, callvV_fn, List.append_nil, List.cons_append, List.nil_append, fs40, fs41, mmV_max2]
      all_goals first | exact ⟨_, rfl, rfl, hk1, hC1⟩ | exact ⟨hk1, hC1⟩ | skip
    have z1 := eq_false c1
    cases c2 : numI l
    · rw [c2] at ql
      have hS := opL_same (f := recvF f l) hf hy (show recvF f l y = (2, y) by unfold recvF; rw [if_pos (.inr (.inl c2))])
      rw [hS]
      simp (config := {contextual := true, maxDischargeDepth := 12}) only [tb_at, h0, h1, h2, h3, hlen, n00, n20, q1, nchkV_ptr, l0, l1, l2, l3, l4, llt, b0, b1, blt, i1, decide_true, decide_false, Bool.not_true, Bool.not_false, bin_eql, bin_neq, notV_bool, z1, ql, ↓bD, bU, forall_const, bS, implies_true, isNx, eq_self, ↓wp_cond, ↓wp_loop, ↓reduceIte, reduceCtorEq, Nat.reduceEqDiff, Nat.reduceLT, Nat.reduceAdd, Nat.reduceMul, bT, ↓sg_bsl, ↓st_callf, bX, ap_mkfn, ap_conv, ↓wi_seq, ↓wi_base, ↓wi_block, ↓wi_cond, ↓wi_loop, ↓wi_rf, ↓wy_seq, ↓wy_base, ↓wy_block, ↓wy_cond, ↓wy_loop, ↓wy_yld, bin_shr1, q_known, ae_callvV, callvV_fn, List.append_nil, List.cons_append, List.nil_append, fs40, fs41, mmV_max2]
      all_goals first | exact ⟨_, rfl, rfl, hk1, hC1⟩ | exact ⟨hk1, hC1⟩ | skip
    rw [c2] at ql
    by_cases c3 : l < f
    · have z3 := eq_true c3
      have hS := opL_same (f := recvF f l) hf hy (show recvF f l y = (2, y) by unfold recvF; rw [if_pos (.inr (.inr c3))])
      rw [hS]
      simp (config := {contextual := true, maxDischargeDepth := 12}) only [tb_at, h0, h1, h2, h3, hlen, n00, n20, q1, nchkV_ptr, l0, l1, l2, l3, l4, llt, b0, b1, blt, i1, decide_true, decide_false, Bool.not_true, Bool.not_false, bin_eql, bin_neq, notV_bool, z1, ql, z3, ↓bD, bU, forall_const, bS, implies_true, isNx, eq_self, ↓wp_cond, ↓wp_loop, ↓reduceIte, reduceCtorEq, Nat.reduceEqDiff, Nat.reduceLT, Nat.reduceAdd, Nat.reduceMul, bT, ↓sg_bsl, ↓st_callf, bX, ap_mkfn, ap_conv, ↓wi_seq, ↓wi_base, ↓wi_block, ↓wi_cond, ↓wi_loop, ↓wi_rf, ↓wy_seq, ↓wy_base, ↓wy_block, ↓wy_cond, ↓wy_loop, ↓wy_yld, bin_shr1, q_known, ae_callvV, callvV_fn, List.append_nil, List.cons_append, List.nil_append, fs40, fs41, mmV_max2]
      all_goals first | exact ⟨_, rfl, rfl, hk1, hC1⟩ | exact ⟨hk1, hC1⟩ | skip
    have z3 := eq_false c3
    have hneg : ¬ (f < 1 ∨ numI l = false ∨ l < f) := by rw [c2]; simp; omega
    by_cases c4 : IntKind.i64.wrap (y.g + 1) < f
    · have z4 := eq_true c4
      have hS := opL_same (f := recvF f l) hf hy (show recvF f l y = (3, y) by unfold recvF; rw [if_neg hneg, if_pos c4])
      rw [hS]
      simp (config := {contextual := true, maxDischargeDepth := 12}) only [tb_at, h0, h1, h2, h3, hlen, n00, n20, q1, nchkV_ptr, l0, l1, l2, l3, l4, llt, b0, b1, blt, i1, decide_true, decide_false, Bool.not_true, Bool.not_false, bin_eql, bin_neq, notV_bool, z1, ql, z3, z4, ↓bD, bU, forall_const, bS, implies_true, isNx, eq_self, ↓wp_cond, ↓wp_loop, ↓reduceIte, reduceCtorEq, Nat.reduceEqDiff, Nat.reduceLT, Nat.reduceAdd, Nat.reduceMul, bT, ↓sg_bsl, ↓st_callf, bX, ap_mkfn, ap_conv, ↓wi_seq, ↓wi_base, ↓wi_block, ↓wi_cond, ↓wi_loop, ↓wi_rf, ↓wy_seq, ↓wy_base, ↓wy_block, ↓wy_cond, ↓wy_loop, ↓wy_yld, bin_shr1, q_known, ae_callvV, callvV_fn, List.append_nil, List.cons_append, List.nil_append, fs40, fs41, mmV_max2]
      all_goals first | exact ⟨_, rfl, rfl, hk1, hC1⟩ | exact ⟨hk1, hC1⟩ | skip
    have z4 := eq_false c4
    have hS := opL_hit (f := recvF f l) hf hy
    rw [show recvF f l y = (0, { y with g := max y.g l }) by unfold recvF; rw [if_neg hneg, if_neg c4]] at hS
    have sg := sg (max y.g l)
    rw [hS]
    simp (config := {contextual := true, maxDischargeDepth := 12}) only [tb_at, h0, h1, h2, h3, hlen, n00, n20, q1, nchkV_ptr, l0, l1, l2, l3, l4, llt, b0, b1, blt, i1, decide_true, decide_false, Bool.not_true, Bool.not_false, bin_eql, bin_neq, notV_bool, z1, ql, z3, z4, sg, ↓bD, bU, forall_const, bS, implies_true, isNx, eq_self, ↓wp_cond, ↓wp_loop, ↓reduceIte, reduceCtorEq, Nat.reduceEqDiff, Nat.reduceLT, Nat.reduceAdd, Nat.reduceMul, bT, ↓sg_bsl, ↓st_callf, bX, ap_mkfn, ap_conv, ↓wi_seq, ↓wi_base, ↓wi_block, ↓wi_cond, ↓wi_loop, ↓wi_rf, ↓wy_seq, ↓wy_base, ↓wy_block, ↓wy_cond, ↓wy_loop, ↓wy_yld, bin_shr1, q_known, ae_callvV, callvV_fn, List.append_nil, List.cons_append, List.nil_append, fs40, fs41, mmV_max2]
    all_goals first | exact ⟨_, rfl, rfl, hsP _, hCp _⟩ | exact ⟨hsP _, hCp _⟩ | skip
theorem q_Recv {s : St} {id j : Nat} {cap : Option Nat} {rep : Int} {L : List Nb} (hk : AkR s id j cap rep L) (hr : rep ≠ 0) (hs : SrtB L) (n f l : Int) : ∃ t, acall R_Recv false [.ptr id 0, .int .i64 n, .int .i64 f, .int .i64 l] s = some (.int .i64 (opL (recvF f l) L n).1, t) ∧ AkR t id j cap rep (opL (recvF f l) L n).2 ∧ Chg [j] s t := by
  obtain ⟨r, t, h1, rfl, h2, h3⟩ := run_awp n_Recv (args := [.ptr id 0, .int .i64 n, .int .i64 f, .int .i64 l]) (by simp [a16]) (w_Recv (s := lowd s) hk.low hr hs n f l)
  obtain ⟨t', g1, g2, _, g4⟩ := run_chg s_Recv h1 h3
  exact ⟨t', g1, hk.same_Meet h2 g2 g4.next, g4⟩
theorem w_Jump {s : St} {id j : Nat} {cap : Option Nat} {rep : Int} {L : List Nb} (hk : AkR s id j cap rep L) (hr : rep ≠ 0) (hs : SrtB L) (n l : Int) : ∀ env : Env, elen env = a17.ntmps → (∀ i x_, [.ptr id 0, .int .i64 n, .int .i64 l][i]? = some x_ → E env i = x_) → awp (tb [(33, R_find), (34, R_num)]) a17.body (fun x e t => (∀ i, x ≠ .exit i) ∧ ∃ r, aresults e t a17.results = some r ∧ (r = .int .i64 (opL (jumpF l) L n).1 ∧ AkR t id j cap rep (opL (jumpF l) L n).2 ∧ Chg [j] s t)) env s := by
  intro env hlen ha
  have h0 : E env 0 = _ := ha 0 _ rfl
  have h1 : E env 1 = _ := ha 1 _ rfl
  have h2 : E env 2 = _ := ha 2 _ rfl
  have hlen : elen env = _ := hlen
  simp only [a17] at hlen
  unfold a17
  try dsimp only [oO, oG]
  have n00 : ((0 : Int) = 0) = True := eq_true rfl
  have n20 : ((2 : Int) = 0) = False := eq_false (by decide)
  cases hf : fndB L n with
  | none =>
    have hS := opL_miss (f := jumpF l) hf
    have q1 := q_find_m false hk hr hs hf
    rw [hS]
    simp (config := {contextual := true, maxDischargeDepth := 12}) only [tb_at, h0, h1, h2, hlen, n00, n20, q1, n00, decide_true, decide_false, Bool.not_true, Bool.not_false, bin_eql, bin_neq, notV_bool, ↓bD, bU, forall_const, bS, implies_true, isNx, eq_self, ↓wp_cond, ↓wp_loop, ↓reduceIte, reduceCtorEq, Nat.reduceEqDiff, Nat.reduceLT, Nat.reduceAdd, Nat.reduceMul, bT, ↓sg_bsl, ↓st_callf, bX, ap_mkfn, ap_conv, ↓wi_seq, ↓wi_base, ↓wi_block, ↓wi_cond, ↓wi_loop, ↓wi_rf, ↓wy_seq, ↓wy_base, ↓wy_block, ↓wy_cond, ↓wy_loop, ↓wy_yld, bin_shr1, q_known, ae_callvV, callvV_fn, List.append_nil, List.cons_append, List.nil_append, fs40, fs41, mmV_max2]
    all_goals first | exact ⟨_, rfl, rfl, hk, Chg.refl _ _⟩ | exact ⟨hk, Chg.refl _ _⟩ | skip
  | some i =>
    obtain ⟨y, hy, hyr⟩ := fndB_some hf
    obtain ⟨t1, q1, hK1⟩ := q_find_h hk hr hs hf hy
    have hC1 : Chg [j] s t1 := hK1.chg _
    have hk1 := hk.keep hK1
    obtain ⟨i1, l0, l1, l2, l3, l4, llt⟩ := hk1.at hy
    obtain ⟨s4, sa, sg, hsP⟩ := hk1.sto hy
    obtain ⟨b0, b1, blt⟩ := row2_lod hk1.box
    have hdl := St.get_lt (hk1.dat (fun e => by rw [e] at hy; simp at hy))
    have hCp : ∀ bl, Chg [j] s (t1.put j bl) := fun bl => hC1.put _ (.inl (by simp)) hdl
    have ql := q_num false l (s := t1)
    have ql : acall R_num false [.int .i64 l] t1 = some (.bool (numI l), t1) := ql
    cases c2 : numI l
    · rw [c2] at ql
      have hS := opL_same (f := jumpF l) hf hy (show jumpF l y = (2, y) by unfold jumpF; rw [if_pos c2])
      rw [hS]
      simp (config := {contextual := true, maxDischargeDepth := 12}) only [tb_at, h0, h1, h2, hlen, n00, n20, q1, nchkV_ptr, l0, l1, l2, l3, l4, llt, b0, b1, blt, i1, decide_true, decide_false, Bool.not_true, Bool.not_false, bin_eql, bin_neq, notV_bool, ql, ↓bD, bU, forall_const, bS, implies_true, isNx, eq_self, ↓wp_cond, ↓wp_loop, ↓reduceIte, reduceCtorEq, Nat.reduceEqDiff, Nat.reduceLT, Nat.reduceAdd, Nat.reduceMul, bT, ↓sg_bsl, ↓st_callf, bX, ap_mkfn, ap_conv, ↓wi_seq, ↓wi_base, ↓wi_block, ↓wi_cond, ↓wi_loop, ↓wi_rf, ↓wy_seq, ↓wy_base, ↓wy_block, ↓wy_cond, ↓wy_loop, ↓wy_yld, bin_shr1, q_known, ae_callvV, callvV_fn, List.append_nil, List.cons_append, List.nil_append, fs40, fs41, mmV_max2]
      all_goals first | exact ⟨_, rfl, rfl, hk1, hC1⟩ | exact ⟨hk1, hC1⟩ | skip
    rw [c2] at ql
    have hS := opL_hit (f := jumpF l) hf hy
    rw [show jumpF l y = (0, { y with g := max y.g l }) by unfold jumpF; rw [if_neg (by rw [c2]; decide)]] at hS
    have sg := sg (max y.g l)
    rw [hS]
    simp (config := {contextual := true, maxDischargeDepth := 12}) only [tb_at, h0, h1, h2, hlen, n00, n20, q1, nchkV_ptr, l0, l1, l2, l3, l4, llt, b0, b1, blt, i1, decide_true, decide_false, Bool.not_true, Bool.not_false, bin_eql, bin_neq, notV_bool, ql, sg, ↓bD, bU, forall_const, bS, implies_true, isNx, eq_self, ↓wp_cond, ↓wp_loop, ↓reduceIte, reduceCtorEq, Nat.reduceEqDiff, Nat.reduceLT, Nat.reduceAdd, Nat.reduceMul, bT, ↓sg_bsl, ↓st_callf, bX, ap_mkfn, ap_conv, ↓wi_seq, ↓wi_base, ↓wi_block, ↓wi_cond, ↓wi_loop, ↓wi_rf, ↓wy_seq, ↓wy_base, ↓wy_block, ↓wy_cond, ↓wy_loop, ↓wy_yld, bin_shr1, q_known, ae_callvV, callvV_fn, List.append_nil, List.cons_append, List.nil_append, fs40, fs41, mmV_max2]
    all_goals first | exact ⟨_, rfl, rfl, hsP _, hCp _⟩ | exact ⟨hsP _, hCp _⟩ | skip
theorem q_Jump {s : St} {id j : Nat} {cap : Option Nat} {rep : Int} {L : List Nb} (hk : AkR s id j cap rep L) (hr : rep ≠ 0) (hs : SrtB L) (n l : Int) : ∃ t, acall R_Jump false [.ptr id 0, .int .i64 n, .int .i64 l] s = some (.int .i64 (opL (jumpF l) L n).1, t) ∧ AkR t id j cap rep (opL (jumpF l) L n).2 ∧ Chg [j] s t := by
  obtain ⟨r, t, h1, rfl, h2, h3⟩ := run_awp n_Jump (args := [.ptr id 0, .int .i64 n, .int .i64 l]) (by simp [a17]) (w_Jump (s := lowd s) hk.low hr hs n l)
  obtain ⟨t', g1, g2, _, g4⟩ := run_chg s_Jump h1 h3
  exact ⟨t', g1, hk.same_Meet h2 g2 g4.next, g4⟩
noncomputable def R_Rfind : Con := runFn (tb []) a35
theorem s_Rfind : SoundAt Try.prog 35 R_Rfind := run_sound (tb_sound (l := []) (by simp)) mixed Try.func35 k35 c35
theorem n_Rfind : noNxtC a35.body = true := by kernel_rfl

def rfI (L : List Nb) (n : Int) : Int := match fndB L n with
  | some i => (i : Int)
  | none => -1
theorem w_Rfind {s : St} {id j : Nat} {cap : Option Nat} {rep : Int} {L : List Nb} (hk : AkR s id j cap rep L) (n : Int) : ∀ env : Env, elen env = a35.ntmps → (∀ i x_, [.ptr id 0, .int .i64 n][i]? = some x_ → E env i = x_) → awp (tb []) a35.body (fun x e t => (∀ i, x ≠ .exit i) ∧ aresults e t a35.results = some (.int .i64 (rfI L n)) ∧ Keep s t) env s := by
  intro env hlen ha
  have h0 : E env 0 = _ := ha 0 _ rfl
  have h1 : E env 1 = _ := ha 1 _ rfl
  have hlen : elen env = _ := hlen
  simp only [a35] at hlen
  unfold a35
  try dsimp only [oO, oG]
  have hL := hk.lenV
  have hll := hk.hn
  obtain ⟨b0, b1, blt⟩ := row2_lod hk.box
  simp (config := {contextual := true, maxDischargeDepth := 12}) only [tb_at, h0, h1, hlen, ↓bD, bU, forall_const, bS, implies_true, isNx, eq_self, ↓wp_cond, ↓wp_loop, ↓reduceIte, reduceCtorEq, Nat.reduceEqDiff, Nat.reduceLT, Nat.reduceAdd, Nat.reduceMul, bT, ↓sg_bsl, ↓st_callf, bX, ap_mkfn, ap_conv, ↓wi_seq, ↓wi_base, ↓wi_block, ↓wi_cond, ↓wi_loop, ↓wi_rf, ↓wy_seq, ↓wy_base, ↓wy_block, ↓wy_cond, ↓wy_loop, ↓wy_yld, bin_shr1, q_known, ae_callvV, callvV_fn, List.append_nil, List.cons_append, List.nil_append, fs40, fs41, mmV_max2]
  obtain ⟨I, hI⟩ : ∃ I : Nat → Env → St → Prop, ∀ n0 e t, I n0 e t = (t = s ∧ ∃ k : Nat, n0 + k = L.length ∧ elen e = 26 ∧ E e 0 = .ptr id 0 ∧ E e 1 = .int .i64 n ∧ E e 5 = .int .i64 (k : Int) ∧ ∀ (q : Nat) (y : Nb), q < k → L[q]? = some y → y.r ≠ n) := ⟨fun n0 e t => (t = s ∧ ∃ k : Nat, n0 + k = L.length ∧ elen e = 26 ∧ E e 0 = .ptr id 0 ∧ E e 1 = .int .i64 n ∧ E e 5 = .int .i64 (k : Int) ∧ ∀ (q : Nat) (y : Nb), q < k → L[q]? = some y → y.r ≠ n), fun _ _ _ => rfl⟩
  refine lwp_inv I (n := L.length) ?_ ?_
  · rw [hI]
    exact ⟨rfl, 0, by omega, (by simp only [bE, Nat.reduceEqDiff, bN, Nat.reduceLT, hlen]; try rfl), (by simp only [bE, Nat.reduceEqDiff, bN, Nat.reduceLT, hlen, h0]; try rfl), (by simp only [bE, Nat.reduceEqDiff, bN, Nat.reduceLT, hlen, h1]; try rfl), (by simp only [bE, Nat.reduceEqDiff, bN, Nat.reduceLT, hlen]; try rfl), fun q y hq => by omega⟩
  intro n0 e t hi
  rw [hI] at hi
  obtain ⟨rfl, k, hnk, he, e0, e1, e5, hpre⟩ := hi
  by_cases hlt : k < L.length
  · obtain ⟨x, hx⟩ := getsome hlt
    have hw := wrap_add1 (n := k) (by omega)
    obtain ⟨i1, l0, l1, l2, l3, l4, llt⟩ := hk.at hx
    have z1 := eq_true (show (k : Int) < (L.length : Int) by omega)
    by_cases hxn : x.r = n
    · have z2 := eq_true hxn
      have hS : rfI L n = (k : Int) := by unfold rfI; rw [fndB_hit hx hxn hpre]
      rw [hS]
      simp (config := {contextual := true, maxDischargeDepth := 12}) only [tb_at, he, e0, e1, e5, b0, b1, blt, nchkV_ptr, hL, z1, i1, l1, llt, z2, decide_true, decide_false, Bool.not_true, Bool.not_false, bin_eql, bin_neq, ↓bD, bU, forall_const, bS, implies_true, isNx, eq_self, ↓wp_cond, ↓wp_loop, ↓reduceIte, reduceCtorEq, Nat.reduceEqDiff, Nat.reduceLT, Nat.reduceAdd, Nat.reduceMul, bT, ↓sg_bsl, ↓st_callf, bX, ap_mkfn, ap_conv, ↓wi_seq, ↓wi_base, ↓wi_block, ↓wi_cond, ↓wi_loop, ↓wi_rf, ↓wy_seq, ↓wy_base, ↓wy_block, ↓wy_cond, ↓wy_loop, ↓wy_yld, bin_shr1, q_known, ae_callvV, callvV_fn, List.append_nil, List.cons_append, List.nil_append, fs40, fs41, mmV_max2]
      all_goals first | exact .refl _ | skip
    · have z2 := eq_false hxn
      simp (config := {contextual := true, maxDischargeDepth := 12}) only [tb_at, he, e0, e1, e5, b0, b1, blt, nchkV_ptr, hL, z1, hw, i1, l1, llt, z2, decide_true, decide_false, Bool.not_true, Bool.not_false, bin_eql, bin_neq, ↓bD, bU, forall_const, bS, implies_true, isNx, eq_self, ↓wp_cond, ↓wp_loop, ↓reduceIte, reduceCtorEq, Nat.reduceEqDiff, Nat.reduceLT, Nat.reduceAdd, Nat.reduceMul, bT, ↓sg_bsl, ↓st_callf, bX, ap_mkfn, ap_conv, ↓wi_seq, ↓wi_base, ↓wi_block, ↓wi_cond, ↓wi_loop, ↓wi_rf, ↓wy_seq, ↓wy_base, ↓wy_block, ↓wy_cond, ↓wy_loop, ↓wy_yld, bin_shr1, q_known, ae_callvV, callvV_fn, List.append_nil, List.cons_append, List.nil_append, fs40, fs41, mmV_max2]
      refine ⟨n0 - 1, by omega, ?_⟩
      rw [hI]
      exact ⟨rfl, k + 1, by omega, (by simp only [bE, Nat.reduceEqDiff, bN, Nat.reduceLT, he, e0, e1, e5]; try rfl), (by simp only [bE, Nat.reduceEqDiff, bN, Nat.reduceLT, he, e0, e1, e5]; try rfl), (by simp only [bE, Nat.reduceEqDiff, bN, Nat.reduceLT, he, e0, e1, e5]; try rfl), (by simp only [bE, Nat.reduceEqDiff, bN, Nat.reduceLT, he, e0, e1, e5]; try rfl), fun q y hq hy => by
        by_cases e : q = k
        · subst e
          rw [hx] at hy; injection hy with hy; subst hy
          exact hxn
        · exact hpre q y (by omega) hy⟩
  · obtain rfl : k = L.length := by omega
    have z1 := eq_false (show ¬ (L.length : Int) < (L.length : Int) by omega)
    have hS : rfI L n = -1 := by unfold rfI; rw [fndB_miss fun q y hy => hpre q y (getlt hy) hy]
    rw [hS]
    simp (config := {contextual := true, maxDischargeDepth := 12}) only [tb_at, he, e0, e1, e5, b0, b1, blt, nchkV_ptr, hL, z1, decide_true, decide_false, Bool.not_true, Bool.not_false, bin_eql, bin_neq, ↓bD, bU, forall_const, bS, implies_true, isNx, eq_self, ↓wp_cond, ↓wp_loop, ↓reduceIte, reduceCtorEq, Nat.reduceEqDiff, Nat.reduceLT, Nat.reduceAdd, Nat.reduceMul, bT, ↓sg_bsl, ↓st_callf, bX, ap_mkfn, ap_conv, ↓wi_seq, ↓wi_base, ↓wi_block, ↓wi_cond, ↓wi_loop, ↓wi_rf, ↓wy_seq, ↓wy_base, ↓wy_block, ↓wy_cond, ↓wy_loop, ↓wy_yld, bin_shr1, q_known, ae_callvV, callvV_fn, List.append_nil, List.cons_append, List.nil_append, fs40, fs41, mmV_max2]
    all_goals first | exact .refl _ | skip
theorem q_Rfind (cl : Bool) {s : St} {id j : Nat} {cap : Option Nat} {rep : Int} {L : List Nb} (hk : AkR s id j cap rep L) (n : Int) : acall R_Rfind cl [.ptr id 0, .int .i64 n] s = some (.int .i64 (rfI L n), s) := run_same n_Rfind (by simp [a35]) rfl (w_Rfind (s := lowd s) hk.low n)
noncomputable def R_RMeet : Con := runFn (tb [(35, R_Rfind)]) a20
theorem s_RMeet : SoundAt Try.prog 20 R_RMeet := run_sound (tb_sound (l := [(35, R_Rfind)]) (by simpa using s_Rfind)) mixed Try.func20 k20 c20
theorem n_RMeet : noNxtC a20.body = true := by kernel_rfl
noncomputable def R_RAck : Con := runFn (tb [(35, R_Rfind), (36, R_rnum)]) a21
theorem s_RAck : SoundAt Try.prog 21 R_RAck := run_sound (tb_sound (l := [(35, R_Rfind), (36, R_rnum)]) (by simpa using ⟨s_Rfind, s_rnum⟩)) mixed Try.func21 k21 c21
theorem n_RAck : noNxtC a21.body = true := by kernel_rfl
noncomputable def R_RRecv : Con := runFn (tb [(35, R_Rfind), (36, R_rnum)]) a22
theorem s_RRecv : SoundAt Try.prog 22 R_RRecv := run_sound (tb_sound (l := [(35, R_Rfind), (36, R_rnum)]) (by simpa using ⟨s_Rfind, s_rnum⟩)) mixed Try.func22 k22 c22
theorem n_RRecv : noNxtC a22.body = true := by kernel_rfl
noncomputable def R_RJump : Con := runFn (tb [(35, R_Rfind), (36, R_rnum)]) a23
theorem s_RJump : SoundAt Try.prog 23 R_RJump := run_sound (tb_sound (l := [(35, R_Rfind), (36, R_rnum)]) (by simpa using ⟨s_Rfind, s_rnum⟩)) mixed Try.func23 k23 c23
theorem n_RJump : noNxtC a23.body = true := by kernel_rfl
theorem w_RMeet {s : St} {id j : Nat} {cap : Option Nat} {rep : Int} {L : List Nb} (hk : AkR s id j cap rep L) (n ep : Int) : ∀ env : Env, elen env = a20.ntmps → (∀ i x_, [.ptr id 0, .int .i64 n, .int .i64 ep][i]? = some x_ → E env i = x_) → awp (tb [(35, R_Rfind)]) a20.body (fun x e t => (∀ i, x ≠ .exit i) ∧ ∃ r, aresults e t a20.results = some r ∧ (r = .int .i64 (opL (meetF n ep) L n).1 ∧ AkR t id j cap rep (opL (meetF n ep) L n).2 ∧ Chg [j] s t)) env s := by
  intro env hlen ha
  have h0 : E env 0 = _ := ha 0 _ rfl
  have h1 : E env 1 = _ := ha 1 _ rfl
  have h2 : E env 2 = _ := ha 2 _ rfl
  have hlen : elen env = _ := hlen
  simp only [a20] at hlen
  unfold a20
  try dsimp only [oO, oG]
  have n00 : ((0 : Int) = 0) = True := eq_true rfl
  have n20 : ((2 : Int) = 0) = False := eq_false (by decide)
  cases hf : fndB L n with
  | none =>
    have hS := opL_miss (f := meetF n ep) hf
    have q1 := q_Rfind false hk n
    rw [show rfI L n = -1 by unfold rfI; rw [hf]] at q1
    have zm : ((-1 : Int) < 0) = True := eq_true (by decide)
    rw [hS]
    simp (config := {contextual := true, maxDischargeDepth := 12}) only [tb_at, h0, h1, h2, hlen, n00, n20, q1, zm, decide_true, decide_false, Bool.not_true, Bool.not_false, bin_eql, bin_neq, notV_bool, ↓bD, bU, forall_const, bS, implies_true, isNx, eq_self, ↓wp_cond, ↓wp_loop, ↓reduceIte, reduceCtorEq, Nat.reduceEqDiff, Nat.reduceLT, Nat.reduceAdd, Nat.reduceMul, bT, ↓sg_bsl, ↓st_callf, bX, ap_mkfn, ap_conv, ↓wi_seq, ↓wi_base, ↓wi_block, ↓wi_cond, ↓wi_loop, ↓wi_rf, ↓wy_seq, ↓wy_base, ↓wy_block, ↓wy_cond, ↓wy_loop, ↓wy_yld, bin_shr1, q_known, ae_callvV, callvV_fn, List.append_nil, List.cons_append, List.nil_append, fs40, fs41, mmV_max2]
    all_goals first | exact ⟨_, rfl, rfl, hk, Chg.refl _ _⟩ | exact ⟨hk, Chg.refl _ _⟩ | skip
  | some i =>
    obtain ⟨y, hy, hyr⟩ := fndB_some hf
    have q1 := q_Rfind false hk n
    rw [show rfI L n = (i : Int) by unfold rfI; rw [hf]] at q1
    obtain ⟨t1, rfl⟩ : ∃ t1, t1 = s := ⟨_, rfl⟩
    have hK1 : Keep t1 t1 := .refl _
    have zp := eq_false (show ¬ (i : Int) < 0 by omega)
    have hC1 : Chg [j] t1 t1 := hK1.chg _
    have hk1 := hk.keep hK1
    obtain ⟨i1, l0, l1, l2, l3, l4, llt⟩ := hk1.at hy
    obtain ⟨s4, sa, sg, hsP⟩ := hk1.sto hy
    obtain ⟨b0, b1, blt⟩ := row2_lod hk1.box
    have hdl := St.get_lt (hk1.dat (fun e => by rw [e] at hy; simp at hy))
    have hCp : ∀ bl, Chg [j] t1 (t1.put j bl) := fun bl => hC1.put _ (.inl (by simp)) hdl
    by_cases c1 : ep < 0
    · have z1 := eq_true c1
      have hS := opL_same (f := meetF n ep) hf hy (show meetF n ep y = (2, y) by unfold meetF; rw [if_pos (.inl c1)])
      rw [hS]
      simp (config := {contextual := true, maxDischargeDepth := 12}) only [tb_at, h0, h1, h2, hlen, n00, n20, q1, nchkV_ptr, l0, l1, l2, l3, l4, llt, b0, b1, blt, i1, decide_true, decide_false, Bool.not_true, Bool.not_false, bin_eql, bin_neq, notV_bool, zp, z1, ↓bD, bU, forall_const, bS, implies_true, isNx, eq_self, ↓wp_cond, ↓wp_loop, ↓reduceIte, reduceCtorEq, Nat.reduceEqDiff, Nat.reduceLT, Nat.reduceAdd, Nat.reduceMul, bT, ↓sg_bsl, ↓st_callf, bX, ap_mkfn, ap_conv, ↓wi_seq, ↓wi_base, ↓wi_block, ↓wi_cond, ↓wi_loop, ↓wi_rf, ↓wy_seq, ↓wy_base, ↓wy_block, ↓wy_cond, ↓wy_loop, ↓wy_yld, bin_shr1, q_known, ae_callvV, callvV_fn, List.append_nil, List.cons_append, List.nil_append, fs40, fs41, mmV_max2]
      all_goals first | exact ⟨_, rfl, rfl, hk1, hC1⟩ | exact ⟨hk1, hC1⟩ | skip
    have z1 := eq_false c1
    by_cases c2 : 1073741824 < ep
    · have z2 := eq_true c2
      have hS := opL_same (f := meetF n ep) hf hy (show meetF n ep y = (2, y) by unfold meetF; rw [if_pos (.inr c2)])
      rw [hS]
      simp (config := {contextual := true, maxDischargeDepth := 12}) only [tb_at, h0, h1, h2, hlen, n00, n20, q1, nchkV_ptr, l0, l1, l2, l3, l4, llt, b0, b1, blt, i1, decide_true, decide_false, Bool.not_true, Bool.not_false, bin_eql, bin_neq, notV_bool, zp, z1, z2, ↓bD, bU, forall_const, bS, implies_true, isNx, eq_self, ↓wp_cond, ↓wp_loop, ↓reduceIte, reduceCtorEq, Nat.reduceEqDiff, Nat.reduceLT, Nat.reduceAdd, Nat.reduceMul, bT, ↓sg_bsl, ↓st_callf, bX, ap_mkfn, ap_conv, ↓wi_seq, ↓wi_base, ↓wi_block, ↓wi_cond, ↓wi_loop, ↓wi_rf, ↓wy_seq, ↓wy_base, ↓wy_block, ↓wy_cond, ↓wy_loop, ↓wy_yld, bin_shr1, q_known, ae_callvV, callvV_fn, List.append_nil, List.cons_append, List.nil_append, fs40, fs41, mmV_max2]
      all_goals first | exact ⟨_, rfl, rfl, hk1, hC1⟩ | exact ⟨hk1, hC1⟩ | skip
    have z2 := eq_false c2
    by_cases c3 : ep < y.e
    · have z3 := eq_true c3
      have hS := opL_same (f := meetF n ep) hf hy (show meetF n ep y = (16, y) by unfold meetF; rw [if_neg (by omega), if_pos c3])
      rw [hS]
      simp (config := {contextual := true, maxDischargeDepth := 12}) only [tb_at, h0, h1, h2, hlen, n00, n20, q1, nchkV_ptr, l0, l1, l2, l3, l4, llt, b0, b1, blt, i1, decide_true, decide_false, Bool.not_true, Bool.not_false, bin_eql, bin_neq, notV_bool, zp, z1, z2, z3, ↓bD, bU, forall_const, bS, implies_true, isNx, eq_self, ↓wp_cond, ↓wp_loop, ↓reduceIte, reduceCtorEq, Nat.reduceEqDiff, Nat.reduceLT, Nat.reduceAdd, Nat.reduceMul, bT, ↓sg_bsl, ↓st_callf, bX, ap_mkfn, ap_conv, ↓wi_seq, ↓wi_base, ↓wi_block, ↓wi_cond, ↓wi_loop, ↓wi_rf, ↓wy_seq, ↓wy_base, ↓wy_block, ↓wy_cond, ↓wy_loop, ↓wy_yld, bin_shr1, q_known, ae_callvV, callvV_fn, List.append_nil, List.cons_append, List.nil_append, fs40, fs41, mmV_max2]
      all_goals first | exact ⟨_, rfl, rfl, hk1, hC1⟩ | exact ⟨hk1, hC1⟩ | skip
    have z3 := eq_false c3
    by_cases c4 : y.e < ep
    · have z4 := eq_true c4
      have hS := opL_hit (f := meetF n ep) hf hy
      rw [show meetF n ep y = (0, ⟨n, ep, 0, 0⟩) by unfold meetF; rw [if_neg (by omega), if_neg c3, if_pos c4]] at hS
      have s4 := s4 ⟨n, ep, 0, 0⟩
      have s4 : AM.sto t1 4 (.ptr j (i * 4)) (.agg [.int .i64 n, .int .i64 ep, .int .i64 0, .int .i64 0]) = some (.und, t1.put j (.row (nbC.cells (L.set i ⟨n, ep, 0, 0⟩)) true)) := s4
      rw [hS]
      simp (config := {contextual := true, maxDischargeDepth := 12}) only [tb_at, h0, h1, h2, hlen, n00, n20, q1, nchkV_ptr, l0, l1, l2, l3, l4, llt, b0, b1, blt, i1, decide_true, decide_false, Bool.not_true, Bool.not_false, bin_eql, bin_neq, notV_bool, zp, z1, z2, z3, z4, ap_build, fillP_nil, fillP_cons, s4, ↓bD, bU, forall_const, bS, implies_true, isNx, eq_self, ↓wp_cond, ↓wp_loop, ↓reduceIte, reduceCtorEq, Nat.reduceEqDiff, Nat.reduceLT, Nat.reduceAdd, Nat.reduceMul, bT, ↓sg_bsl, ↓st_callf, bX, ap_mkfn, ap_conv, ↓wi_seq, ↓wi_base, ↓wi_block, ↓wi_cond, ↓wi_loop, ↓wi_rf, ↓wy_seq, ↓wy_base, ↓wy_block, ↓wy_cond, ↓wy_loop, ↓wy_yld, bin_shr1, q_known, ae_callvV, callvV_fn, List.append_nil, List.cons_append, List.nil_append, fs40, fs41, mmV_max2]
      all_goals first | exact ⟨_, rfl, rfl, hsP _, hCp _⟩ | exact ⟨hsP _, hCp _⟩ | skip
    have z4 := eq_false c4
    have hS := opL_same (f := meetF n ep) hf hy (show meetF n ep y = (0, y) by unfold meetF; rw [if_neg (by omega), if_neg c3, if_neg c4])
    rw [hS]
    simp (config := {contextual := true, maxDischargeDepth := 12}) only [tb_at, h0, h1, h2, hlen, n00, n20, q1, nchkV_ptr, l0, l1, l2, l3, l4, llt, b0, b1, blt, i1, decide_true, decide_false, Bool.not_true, Bool.not_false, bin_eql, bin_neq, notV_bool, zp, z1, z2, z3, z4, ↓bD, bU, forall_const, bS, implies_true, isNx, eq_self, ↓wp_cond, ↓wp_loop, ↓reduceIte, reduceCtorEq, Nat.reduceEqDiff, Nat.reduceLT, Nat.reduceAdd, Nat.reduceMul, bT, ↓sg_bsl, ↓st_callf, bX, ap_mkfn, ap_conv, ↓wi_seq, ↓wi_base, ↓wi_block, ↓wi_cond, ↓wi_loop, ↓wi_rf, ↓wy_seq, ↓wy_base, ↓wy_block, ↓wy_cond, ↓wy_loop, ↓wy_yld, bin_shr1, q_known, ae_callvV, callvV_fn, List.append_nil, List.cons_append, List.nil_append, fs40, fs41, mmV_max2]
    all_goals first | exact ⟨_, rfl, rfl, hk1, hC1⟩ | exact ⟨hk1, hC1⟩ | skip
theorem q_RMeet {s : St} {id j : Nat} {cap : Option Nat} {rep : Int} {L : List Nb} (hk : AkR s id j cap rep L) (n ep : Int) : ∃ t, acall R_RMeet false [.ptr id 0, .int .i64 n, .int .i64 ep] s = some (.int .i64 (opL (meetF n ep) L n).1, t) ∧ AkR t id j cap rep (opL (meetF n ep) L n).2 ∧ Chg [j] s t := by
  obtain ⟨r, t, h1, rfl, h2, h3⟩ := run_awp n_RMeet (args := [.ptr id 0, .int .i64 n, .int .i64 ep]) (by simp [a20]) (w_RMeet (s := lowd s) hk.low n ep)
  obtain ⟨t', g1, g2, _, g4⟩ := run_chg s_RMeet h1 h3
  exact ⟨t', g1, hk.same_Meet h2 g2 g4.next, g4⟩
theorem w_RAck {s : St} {id j : Nat} {cap : Option Nat} {rep : Int} {L : List Nb} (hk : AkR s id j cap rep L) (n m l : Int) : ∀ env : Env, elen env = a21.ntmps → (∀ i x_, [.ptr id 0, .int .i64 n, .int .i64 m, .int .i64 l][i]? = some x_ → E env i = x_) → awp (tb [(35, R_Rfind), (36, R_rnum)]) a21.body (fun x e t => (∀ i, x ≠ .exit i) ∧ ∃ r, aresults e t a21.results = some r ∧ (r = .int .i64 (opL (ackF m l) L n).1 ∧ AkR t id j cap rep (opL (ackF m l) L n).2 ∧ Chg [j] s t)) env s := by
  intro env hlen ha
  have h0 : E env 0 = _ := ha 0 _ rfl
  have h1 : E env 1 = _ := ha 1 _ rfl
  have h2 : E env 2 = _ := ha 2 _ rfl
  have h3 : E env 3 = _ := ha 3 _ rfl
  have hlen : elen env = _ := hlen
  simp only [a21] at hlen
  unfold a21
  try dsimp only [oO, oG]
  have n00 : ((0 : Int) = 0) = True := eq_true rfl
  have n20 : ((2 : Int) = 0) = False := eq_false (by decide)
  cases hf : fndB L n with
  | none =>
    have hS := opL_miss (f := ackF m l) hf
    have q1 := q_Rfind false hk n
    rw [show rfI L n = -1 by unfold rfI; rw [hf]] at q1
    have zm : ((-1 : Int) < 0) = True := eq_true (by decide)
    rw [hS]
    simp (config := {contextual := true, maxDischargeDepth := 12}) only [tb_at, h0, h1, h2, h3, hlen, n00, n20, q1, zm, decide_true, decide_false, Bool.not_true, Bool.not_false, bin_eql, bin_neq, notV_bool, ↓bD, bU, forall_const, bS, implies_true, isNx, eq_self, ↓wp_cond, ↓wp_loop, ↓reduceIte, reduceCtorEq, Nat.reduceEqDiff, Nat.reduceLT, Nat.reduceAdd, Nat.reduceMul, bT, ↓sg_bsl, ↓st_callf, bX, ap_mkfn, ap_conv, ↓wi_seq, ↓wi_base, ↓wi_block, ↓wi_cond, ↓wi_loop, ↓wi_rf, ↓wy_seq, ↓wy_base, ↓wy_block, ↓wy_cond, ↓wy_loop, ↓wy_yld, bin_shr1, q_known, ae_callvV, callvV_fn, List.append_nil, List.cons_append, List.nil_append, fs40, fs41, mmV_max2]
    all_goals first | exact ⟨_, rfl, rfl, hk, Chg.refl _ _⟩ | exact ⟨hk, Chg.refl _ _⟩ | skip
  | some i =>
    obtain ⟨y, hy, hyr⟩ := fndB_some hf
    have q1 := q_Rfind false hk n
    rw [show rfI L n = (i : Int) by unfold rfI; rw [hf]] at q1
    obtain ⟨t1, rfl⟩ : ∃ t1, t1 = s := ⟨_, rfl⟩
    have hK1 : Keep t1 t1 := .refl _
    have zp := eq_false (show ¬ (i : Int) < 0 by omega)
    have hC1 : Chg [j] t1 t1 := hK1.chg _
    have hk1 := hk.keep hK1
    obtain ⟨i1, l0, l1, l2, l3, l4, llt⟩ := hk1.at hy
    obtain ⟨s4, sa, sg, hsP⟩ := hk1.sto hy
    obtain ⟨b0, b1, blt⟩ := row2_lod hk1.box
    have hdl := St.get_lt (hk1.dat (fun e => by rw [e] at hy; simp at hy))
    have hCp : ∀ bl, Chg [j] t1 (t1.put j bl) := fun bl => hC1.put _ (.inl (by simp)) hdl
    have qm := q_rnum false m (s := t1)
    have ql := q_rnum false l (s := t1)
    have qm : acall R_rnum false [.int .i64 m] t1 = some (.bool (numI m), t1) := qm
    have ql : acall R_rnum false [.int .i64 l] t1 = some (.bool (numI l), t1) := ql
    cases c1 : numI m
    · rw [c1] at qm
      have hS := opL_same (f := ackF m l) hf hy (show ackF m l y = (2, y) by unfold ackF; rw [if_pos (.inl c1)])
      rw [hS]
      simp (config := {contextual := true, maxDischargeDepth := 12}) only [tb_at, h0, h1, h2, h3, hlen, n00, n20, q1, nchkV_ptr, l0, l1, l2, l3, l4, llt, b0, b1, blt, i1, decide_true, decide_false, Bool.not_true, Bool.not_false, bin_eql, bin_neq, notV_bool, zp, qm, ↓bD, bU, forall_const, bS, implies_true, isNx, eq_self, ↓wp_cond, ↓wp_loop, ↓reduceIte, reduceCtorEq, Nat.reduceEqDiff, Nat.reduceLT, Nat.reduceAdd, Nat.reduceMul, bT, ↓sg_bsl, ↓st_callf, bX, ap_mkfn, ap_conv, ↓wi_seq, ↓wi_base, ↓wi_block, ↓wi_cond, ↓wi_loop, ↓wi_rf, ↓wy_seq, ↓wy_base, ↓wy_block, ↓wy_cond, ↓wy_loop, ↓wy_yld, bin_shr1, q_known, ae_callvV, callvV_fn, List.append_nil, List.cons_append, List.nil_append, fs40, fs41, mmV_max2]
      all_goals first | exact ⟨_, rfl, rfl, hk1, hC1⟩ | exact ⟨hk1, hC1⟩ | skip
    rw [c1] at qm
    cases c2 : numI l
    · rw [c2] at ql
      have hS := opL_same (f := ackF m l) hf hy (show ackF m l y = (2, y) by unfold ackF; rw [if_pos (.inr c2)])
      rw [hS]
      simp (config := {contextual := true, maxDischargeDepth := 12}) only [tb_at, h0, h1, h2, h3, hlen, n00, n20, q1, nchkV_ptr, l0, l1, l2, l3, l4, llt, b0, b1, blt, i1, decide_true, decide_false, Bool.not_true, Bool.not_false, bin_eql, bin_neq, notV_bool, zp, qm, ql, ↓bD, bU, forall_const, bS, implies_true, isNx, eq_self, ↓wp_cond, ↓wp_loop, ↓reduceIte, reduceCtorEq, Nat.reduceEqDiff, Nat.reduceLT, Nat.reduceAdd, Nat.reduceMul, bT, ↓sg_bsl, ↓st_callf, bX, ap_mkfn, ap_conv, ↓wi_seq, ↓wi_base, ↓wi_block, ↓wi_cond, ↓wi_loop, ↓wi_rf, ↓wy_seq, ↓wy_base, ↓wy_block, ↓wy_cond, ↓wy_loop, ↓wy_yld, bin_shr1, q_known, ae_callvV, callvV_fn, List.append_nil, List.cons_append, List.nil_append, fs40, fs41, mmV_max2]
      all_goals first | exact ⟨_, rfl, rfl, hk1, hC1⟩ | exact ⟨hk1, hC1⟩ | skip
    rw [c2] at ql
    have hneg : ¬ (numI m = false ∨ numI l = false) := by rw [c1, c2]; decide
    by_cases c3 : l < m
    · have z3 := eq_true c3
      have hS := opL_same (f := ackF m l) hf hy (show ackF m l y = (3, y) by unfold ackF; rw [if_neg hneg, if_pos c3])
      rw [hS]
      simp (config := {contextual := true, maxDischargeDepth := 12}) only [tb_at, h0, h1, h2, h3, hlen, n00, n20, q1, nchkV_ptr, l0, l1, l2, l3, l4, llt, b0, b1, blt, i1, decide_true, decide_false, Bool.not_true, Bool.not_false, bin_eql, bin_neq, notV_bool, zp, qm, ql, z3, ↓bD, bU, forall_const, bS, implies_true, isNx, eq_self, ↓wp_cond, ↓wp_loop, ↓reduceIte, reduceCtorEq, Nat.reduceEqDiff, Nat.reduceLT, Nat.reduceAdd, Nat.reduceMul, bT, ↓sg_bsl, ↓st_callf, bX, ap_mkfn, ap_conv, ↓wi_seq, ↓wi_base, ↓wi_block, ↓wi_cond, ↓wi_loop, ↓wi_rf, ↓wy_seq, ↓wy_base, ↓wy_block, ↓wy_cond, ↓wy_loop, ↓wy_yld, bin_shr1, q_known, ae_callvV, callvV_fn, List.append_nil, List.cons_append, List.nil_append, fs40, fs41, mmV_max2]
      all_goals first | exact ⟨_, rfl, rfl, hk1, hC1⟩ | exact ⟨hk1, hC1⟩ | skip
    have z3 := eq_false c3
    have hS := opL_hit (f := ackF m l) hf hy
    rw [show ackF m l y = (0, { y with a := max y.a m }) by unfold ackF; rw [if_neg hneg, if_neg c3]] at hS
    have sa := sa (max y.a m)
    rw [hS]
    simp (config := {contextual := true, maxDischargeDepth := 12}) only [tb_at, h0, h1, h2, h3, hlen, n00, n20, q1, nchkV_ptr, l0, l1, l2, l3, l4, llt, b0, b1, blt, i1, decide_true, decide_false, Bool.not_true, Bool.not_false, bin_eql, bin_neq, notV_bool, zp, qm, ql, z3, sa, ↓bD, bU, forall_const, bS, implies_true, isNx, eq_self, ↓wp_cond, ↓wp_loop, ↓reduceIte, reduceCtorEq, Nat.reduceEqDiff, Nat.reduceLT, Nat.reduceAdd, Nat.reduceMul, bT, ↓sg_bsl, ↓st_callf, bX, ap_mkfn, ap_conv, ↓wi_seq, ↓wi_base, ↓wi_block, ↓wi_cond, ↓wi_loop, ↓wi_rf, ↓wy_seq, ↓wy_base, ↓wy_block, ↓wy_cond, ↓wy_loop, ↓wy_yld, bin_shr1, q_known, ae_callvV, callvV_fn, List.append_nil, List.cons_append, List.nil_append, fs40, fs41, mmV_max2]
    all_goals first | exact ⟨_, rfl, rfl, hsP _, hCp _⟩ | exact ⟨hsP _, hCp _⟩ | skip
theorem q_RAck {s : St} {id j : Nat} {cap : Option Nat} {rep : Int} {L : List Nb} (hk : AkR s id j cap rep L) (n m l : Int) : ∃ t, acall R_RAck false [.ptr id 0, .int .i64 n, .int .i64 m, .int .i64 l] s = some (.int .i64 (opL (ackF m l) L n).1, t) ∧ AkR t id j cap rep (opL (ackF m l) L n).2 ∧ Chg [j] s t := by
  obtain ⟨r, t, h1, rfl, h2, h3⟩ := run_awp n_RAck (args := [.ptr id 0, .int .i64 n, .int .i64 m, .int .i64 l]) (by simp [a21]) (w_RAck (s := lowd s) hk.low n m l)
  obtain ⟨t', g1, g2, _, g4⟩ := run_chg s_RAck h1 h3
  exact ⟨t', g1, hk.same_Meet h2 g2 g4.next, g4⟩
theorem w_RRecv {s : St} {id j : Nat} {cap : Option Nat} {rep : Int} {L : List Nb} (hk : AkR s id j cap rep L) (n f l : Int) : ∀ env : Env, elen env = a22.ntmps → (∀ i x_, [.ptr id 0, .int .i64 n, .int .i64 f, .int .i64 l][i]? = some x_ → E env i = x_) → awp (tb [(35, R_Rfind), (36, R_rnum)]) a22.body (fun x e t => (∀ i, x ≠ .exit i) ∧ ∃ r, aresults e t a22.results = some r ∧ (r = .int .i64 (opL (recvF f l) L n).1 ∧ AkR t id j cap rep (opL (recvF f l) L n).2 ∧ Chg [j] s t)) env s := by
  intro env hlen ha
  have h0 : E env 0 = _ := ha 0 _ rfl
  have h1 : E env 1 = _ := ha 1 _ rfl
  have h2 : E env 2 = _ := ha 2 _ rfl
  have h3 : E env 3 = _ := ha 3 _ rfl
  have hlen : elen env = _ := hlen
  simp only [a22] at hlen
  unfold a22
  try dsimp only [oO, oG]
  have n00 : ((0 : Int) = 0) = True := eq_true rfl
  have n20 : ((2 : Int) = 0) = False := eq_false (by decide)
  cases hf : fndB L n with
  | none =>
    have hS := opL_miss (f := recvF f l) hf
    have q1 := q_Rfind false hk n
    rw [show rfI L n = -1 by unfold rfI; rw [hf]] at q1
    have zm : ((-1 : Int) < 0) = True := eq_true (by decide)
    rw [hS]
    simp (config := {contextual := true, maxDischargeDepth := 12}) only [tb_at, h0, h1, h2, h3, hlen, n00, n20, q1, zm, decide_true, decide_false, Bool.not_true, Bool.not_false, bin_eql, bin_neq, notV_bool, ↓bD, bU, forall_const, bS, implies_true, isNx, eq_self, ↓wp_cond, ↓wp_loop, ↓reduceIte, reduceCtorEq, Nat.reduceEqDiff, Nat.reduceLT, Nat.reduceAdd, Nat.reduceMul, bT, ↓sg_bsl, ↓st_callf, bX, ap_mkfn, ap_conv, ↓wi_seq, ↓wi_base, ↓wi_block, ↓wi_cond, ↓wi_loop, ↓wi_rf, ↓wy_seq, ↓wy_base, ↓wy_block, ↓wy_cond, ↓wy_loop, ↓wy_yld, bin_shr1, q_known, ae_callvV, callvV_fn, List.append_nil, List.cons_append, List.nil_append, fs40, fs41, mmV_max2]
    all_goals first | exact ⟨_, rfl, rfl, hk, Chg.refl _ _⟩ | exact ⟨hk, Chg.refl _ _⟩ | skip
  | some i =>
    obtain ⟨y, hy, hyr⟩ := fndB_some hf
    have q1 := q_Rfind false hk n
    rw [show rfI L n = (i : Int) by unfold rfI; rw [hf]] at q1
    obtain ⟨t1, rfl⟩ : ∃ t1, t1 = s := ⟨_, rfl⟩
    have hK1 : Keep t1 t1 := .refl _
    have zp := eq_false (show ¬ (i : Int) < 0 by omega)
    have hC1 : Chg [j] t1 t1 := hK1.chg _
    have hk1 := hk.keep hK1
    obtain ⟨i1, l0, l1, l2, l3, l4, llt⟩ := hk1.at hy
    obtain ⟨s4, sa, sg, hsP⟩ := hk1.sto hy
    obtain ⟨b0, b1, blt⟩ := row2_lod hk1.box
    have hdl := St.get_lt (hk1.dat (fun e => by rw [e] at hy; simp at hy))
    have hCp : ∀ bl, Chg [j] t1 (t1.put j bl) := fun bl => hC1.put _ (.inl (by simp)) hdl
    have qf := q_rnum false f (s := t1)
    have ql := q_rnum false l (s := t1)
    have qf : acall R_rnum false [.int .i64 f] t1 = some (.bool (numI f), t1) := qf
    have ql : acall R_rnum false [.int .i64 l] t1 = some (.bool (numI l), t1) := ql
    cases c2 : numI l
    · rw [c2] at ql
      cases c1 : numI f
      · rw [c1] at qf
        have hS := opL_same (f := recvF f l) hf hy (show recvF f l y = (2, y) by unfold recvF; rw [if_pos (.inr (.inl c2))])
        rw [hS]
        simp (config := {contextual := true, maxDischargeDepth := 12}) only [tb_at, h0, h1, h2, h3, hlen, n00, n20, q1, nchkV_ptr, l0, l1, l2, l3, l4, llt, b0, b1, blt, i1, decide_true, decide_false, Bool.not_true, Bool.not_false, bin_eql, bin_neq, notV_bool, zp, qf, ↓bD, bU, forall_const, bS, implies_true, isNx, eq_self, ↓wp_cond, ↓wp_loop, ↓reduceIte, reduceCtorEq, Nat.reduceEqDiff, Nat.reduceLT, Nat.reduceAdd, Nat.reduceMul, bT, ↓sg_bsl, ↓st_callf, bX, ap_mkfn, ap_conv, ↓wi_seq, ↓wi_base, ↓wi_block, ↓wi_cond, ↓wi_loop, ↓wi_rf, ↓wy_seq, ↓wy_base, ↓wy_block, ↓wy_cond, ↓wy_loop, ↓wy_yld, bin_shr1, q_known, ae_callvV, callvV_fn, List.append_nil, List.cons_append, List.nil_append, fs40, fs41, mmV_max2]
        all_goals first | exact ⟨_, rfl, rfl, hk1, hC1⟩ | exact ⟨hk1, hC1⟩ | skip
      · rw [c1] at qf
        have hS := opL_same (f := recvF f l) hf hy (show recvF f l y = (2, y) by unfold recvF; rw [if_pos (.inr (.inl c2))])
        rw [hS]
        simp (config := {contextual := true, maxDischargeDepth := 12}) only [tb_at, h0, h1, h2, h3, hlen, n00, n20, q1, nchkV_ptr, l0, l1, l2, l3, l4, llt, b0, b1, blt, i1, decide_true, decide_false, Bool.not_true, Bool.not_false, bin_eql, bin_neq, notV_bool, zp, qf, ql, ↓bD, bU, forall_const, bS, implies_true, isNx, eq_self, ↓wp_cond, ↓wp_loop, ↓reduceIte, reduceCtorEq, Nat.reduceEqDiff, Nat.reduceLT, Nat.reduceAdd, Nat.reduceMul, bT, ↓sg_bsl, ↓st_callf, bX, ap_mkfn, ap_conv, ↓wi_seq, ↓wi_base, ↓wi_block, ↓wi_cond, ↓wi_loop, ↓wi_rf, ↓wy_seq, ↓wy_base, ↓wy_block, ↓wy_cond, ↓wy_loop, ↓wy_yld, bin_shr1, q_known, ae_callvV, callvV_fn, List.append_nil, List.cons_append, List.nil_append, fs40, fs41, mmV_max2]
        all_goals first | exact ⟨_, rfl, rfl, hk1, hC1⟩ | exact ⟨hk1, hC1⟩ | skip
    rw [c2] at ql
    have hl1 : l ≤ 1099511627776 := by
      unfold numI at c2
      simp only [Bool.and_eq_true, decide_eq_true_eq] at c2
      exact c2.2
    cases c1 : numI f
    · rw [c1] at qf
      have hor : f < 1 ∨ numI l = false ∨ l < f := by
        unfold numI at c1
        simp only [Bool.and_eq_false_iff, decide_eq_false_iff_not] at c1
        omega
      have hS := opL_same (f := recvF f l) hf hy (show recvF f l y = (2, y) by unfold recvF; rw [if_pos (hor)])
      rw [hS]
      simp (config := {contextual := true, maxDischargeDepth := 12}) only [tb_at, h0, h1, h2, h3, hlen, n00, n20, q1, nchkV_ptr, l0, l1, l2, l3, l4, llt, b0, b1, blt, i1, decide_true, decide_false, Bool.not_true, Bool.not_false, bin_eql, bin_neq, notV_bool, zp, qf, ↓bD, bU, forall_const, bS, implies_true, isNx, eq_self, ↓wp_cond, ↓wp_loop, ↓reduceIte, reduceCtorEq, Nat.reduceEqDiff, Nat.reduceLT, Nat.reduceAdd, Nat.reduceMul, bT, ↓sg_bsl, ↓st_callf, bX, ap_mkfn, ap_conv, ↓wi_seq, ↓wi_base, ↓wi_block, ↓wi_cond, ↓wi_loop, ↓wi_rf, ↓wy_seq, ↓wy_base, ↓wy_block, ↓wy_cond, ↓wy_loop, ↓wy_yld, bin_shr1, q_known, ae_callvV, callvV_fn, List.append_nil, List.cons_append, List.nil_append, fs40, fs41, mmV_max2]
      all_goals first | exact ⟨_, rfl, rfl, hk1, hC1⟩ | exact ⟨hk1, hC1⟩ | skip
    rw [c1] at qf
    have hf0 : 0 ≤ f := by
      unfold numI at c1
      simp only [Bool.and_eq_true, decide_eq_true_eq] at c1
      exact c1.1
    by_cases c3 : f = 0
    · have z3 := eq_true c3
      have hS := opL_same (f := recvF f l) hf hy (show recvF f l y = (2, y) by unfold recvF; rw [if_pos (.inl (by omega))])
      rw [hS]
      simp (config := {contextual := true, maxDischargeDepth := 12}) only [tb_at, h0, h1, h2, h3, hlen, n00, n20, q1, nchkV_ptr, l0, l1, l2, l3, l4, llt, b0, b1, blt, i1, decide_true, decide_false, Bool.not_true, Bool.not_false, bin_eql, bin_neq, notV_bool, zp, qf, ql, z3, ↓bD, bU, forall_const, bS, implies_true, isNx, eq_self, ↓wp_cond, ↓wp_loop, ↓reduceIte, reduceCtorEq, Nat.reduceEqDiff, Nat.reduceLT, Nat.reduceAdd, Nat.reduceMul, bT, ↓sg_bsl, ↓st_callf, bX, ap_mkfn, ap_conv, ↓wi_seq, ↓wi_base, ↓wi_block, ↓wi_cond, ↓wi_loop, ↓wi_rf, ↓wy_seq, ↓wy_base, ↓wy_block, ↓wy_cond, ↓wy_loop, ↓wy_yld, bin_shr1, q_known, ae_callvV, callvV_fn, List.append_nil, List.cons_append, List.nil_append, fs40, fs41, mmV_max2]
      all_goals first | exact ⟨_, rfl, rfl, hk1, hC1⟩ | exact ⟨hk1, hC1⟩ | skip
    have z3 := eq_false c3
    by_cases c4 : l < f
    · have z4' := eq_true c4
      have hS := opL_same (f := recvF f l) hf hy (show recvF f l y = (2, y) by unfold recvF; rw [if_pos (.inr (.inr c4))])
      rw [hS]
      simp (config := {contextual := true, maxDischargeDepth := 12}) only [tb_at, h0, h1, h2, h3, hlen, n00, n20, q1, nchkV_ptr, l0, l1, l2, l3, l4, llt, b0, b1, blt, i1, decide_true, decide_false, Bool.not_true, Bool.not_false, bin_eql, bin_neq, notV_bool, zp, qf, ql, z3, z4', ↓bD, bU, forall_const, bS, implies_true, isNx, eq_self, ↓wp_cond, ↓wp_loop, ↓reduceIte, reduceCtorEq, Nat.reduceEqDiff, Nat.reduceLT, Nat.reduceAdd, Nat.reduceMul, bT, ↓sg_bsl, ↓st_callf, bX, ap_mkfn, ap_conv, ↓wi_seq, ↓wi_base, ↓wi_block, ↓wi_cond, ↓wi_loop, ↓wi_rf, ↓wy_seq, ↓wy_base, ↓wy_block, ↓wy_cond, ↓wy_loop, ↓wy_yld, bin_shr1, q_known, ae_callvV, callvV_fn, List.append_nil, List.cons_append, List.nil_append, fs40, fs41, mmV_max2]
      all_goals first | exact ⟨_, rfl, rfl, hk1, hC1⟩ | exact ⟨hk1, hC1⟩ | skip
    have z4' := eq_false c4
    have hneg : ¬ (f < 1 ∨ numI l = false ∨ l < f) := by rw [c2]; simp; omega
    by_cases c4 : IntKind.i64.wrap (y.g + 1) < f
    · have z4 := eq_true c4
      have hS := opL_same (f := recvF f l) hf hy (show recvF f l y = (3, y) by unfold recvF; rw [if_neg hneg, if_pos c4])
      rw [hS]
      simp (config := {contextual := true, maxDischargeDepth := 12}) only [tb_at, h0, h1, h2, h3, hlen, n00, n20, q1, nchkV_ptr, l0, l1, l2, l3, l4, llt, b0, b1, blt, i1, decide_true, decide_false, Bool.not_true, Bool.not_false, bin_eql, bin_neq, notV_bool, zp, qf, ql, z3, z4', z4, ↓bD, bU, forall_const, bS, implies_true, isNx, eq_self, ↓wp_cond, ↓wp_loop, ↓reduceIte, reduceCtorEq, Nat.reduceEqDiff, Nat.reduceLT, Nat.reduceAdd, Nat.reduceMul, bT, ↓sg_bsl, ↓st_callf, bX, ap_mkfn, ap_conv, ↓wi_seq, ↓wi_base, ↓wi_block, ↓wi_cond, ↓wi_loop, ↓wi_rf, ↓wy_seq, ↓wy_base, ↓wy_block, ↓wy_cond, ↓wy_loop, ↓wy_yld, bin_shr1, q_known, ae_callvV, callvV_fn, List.append_nil, List.cons_append, List.nil_append, fs40, fs41, mmV_max2]
      all_goals first | exact ⟨_, rfl, rfl, hk1, hC1⟩ | exact ⟨hk1, hC1⟩ | skip
    have z4 := eq_false c4
    have hS := opL_hit (f := recvF f l) hf hy
    rw [show recvF f l y = (0, { y with g := max y.g l }) by unfold recvF; rw [if_neg hneg, if_neg c4]] at hS
    have sg := sg (max y.g l)
    rw [hS]
    simp (config := {contextual := true, maxDischargeDepth := 12}) only [tb_at, h0, h1, h2, h3, hlen, n00, n20, q1, nchkV_ptr, l0, l1, l2, l3, l4, llt, b0, b1, blt, i1, decide_true, decide_false, Bool.not_true, Bool.not_false, bin_eql, bin_neq, notV_bool, zp, qf, ql, z3, z4', z4, sg, ↓bD, bU, forall_const, bS, implies_true, isNx, eq_self, ↓wp_cond, ↓wp_loop, ↓reduceIte, reduceCtorEq, Nat.reduceEqDiff, Nat.reduceLT, Nat.reduceAdd, Nat.reduceMul, bT, ↓sg_bsl, ↓st_callf, bX, ap_mkfn, ap_conv, ↓wi_seq, ↓wi_base, ↓wi_block, ↓wi_cond, ↓wi_loop, ↓wi_rf, ↓wy_seq, ↓wy_base, ↓wy_block, ↓wy_cond, ↓wy_loop, ↓wy_yld, bin_shr1, q_known, ae_callvV, callvV_fn, List.append_nil, List.cons_append, List.nil_append, fs40, fs41, mmV_max2]
    all_goals first | exact ⟨_, rfl, rfl, hsP _, hCp _⟩ | exact ⟨hsP _, hCp _⟩ | skip
theorem q_RRecv {s : St} {id j : Nat} {cap : Option Nat} {rep : Int} {L : List Nb} (hk : AkR s id j cap rep L) (n f l : Int) : ∃ t, acall R_RRecv false [.ptr id 0, .int .i64 n, .int .i64 f, .int .i64 l] s = some (.int .i64 (opL (recvF f l) L n).1, t) ∧ AkR t id j cap rep (opL (recvF f l) L n).2 ∧ Chg [j] s t := by
  obtain ⟨r, t, h1, rfl, h2, h3⟩ := run_awp n_RRecv (args := [.ptr id 0, .int .i64 n, .int .i64 f, .int .i64 l]) (by simp [a22]) (w_RRecv (s := lowd s) hk.low n f l)
  obtain ⟨t', g1, g2, _, g4⟩ := run_chg s_RRecv h1 h3
  exact ⟨t', g1, hk.same_Meet h2 g2 g4.next, g4⟩
theorem w_RJump {s : St} {id j : Nat} {cap : Option Nat} {rep : Int} {L : List Nb} (hk : AkR s id j cap rep L) (n l : Int) : ∀ env : Env, elen env = a23.ntmps → (∀ i x_, [.ptr id 0, .int .i64 n, .int .i64 l][i]? = some x_ → E env i = x_) → awp (tb [(35, R_Rfind), (36, R_rnum)]) a23.body (fun x e t => (∀ i, x ≠ .exit i) ∧ ∃ r, aresults e t a23.results = some r ∧ (r = .int .i64 (opL (jumpF l) L n).1 ∧ AkR t id j cap rep (opL (jumpF l) L n).2 ∧ Chg [j] s t)) env s := by
  intro env hlen ha
  have h0 : E env 0 = _ := ha 0 _ rfl
  have h1 : E env 1 = _ := ha 1 _ rfl
  have h2 : E env 2 = _ := ha 2 _ rfl
  have hlen : elen env = _ := hlen
  simp only [a23] at hlen
  unfold a23
  try dsimp only [oO, oG]
  have n00 : ((0 : Int) = 0) = True := eq_true rfl
  have n20 : ((2 : Int) = 0) = False := eq_false (by decide)
  cases hf : fndB L n with
  | none =>
    have hS := opL_miss (f := jumpF l) hf
    have q1 := q_Rfind false hk n
    rw [show rfI L n = -1 by unfold rfI; rw [hf]] at q1
    have zm : ((-1 : Int) < 0) = True := eq_true (by decide)
    rw [hS]
    simp (config := {contextual := true, maxDischargeDepth := 12}) only [tb_at, h0, h1, h2, hlen, n00, n20, q1, zm, decide_true, decide_false, Bool.not_true, Bool.not_false, bin_eql, bin_neq, notV_bool, ↓bD, bU, forall_const, bS, implies_true, isNx, eq_self, ↓wp_cond, ↓wp_loop, ↓reduceIte, reduceCtorEq, Nat.reduceEqDiff, Nat.reduceLT, Nat.reduceAdd, Nat.reduceMul, bT, ↓sg_bsl, ↓st_callf, bX, ap_mkfn, ap_conv, ↓wi_seq, ↓wi_base, ↓wi_block, ↓wi_cond, ↓wi_loop, ↓wi_rf, ↓wy_seq, ↓wy_base, ↓wy_block, ↓wy_cond, ↓wy_loop, ↓wy_yld, bin_shr1, q_known, ae_callvV, callvV_fn, List.append_nil, List.cons_append, List.nil_append, fs40, fs41, mmV_max2]
    all_goals first | exact ⟨_, rfl, rfl, hk, Chg.refl _ _⟩ | exact ⟨hk, Chg.refl _ _⟩ | skip
  | some i =>
    obtain ⟨y, hy, hyr⟩ := fndB_some hf
    have q1 := q_Rfind false hk n
    rw [show rfI L n = (i : Int) by unfold rfI; rw [hf]] at q1
    obtain ⟨t1, rfl⟩ : ∃ t1, t1 = s := ⟨_, rfl⟩
    have hK1 : Keep t1 t1 := .refl _
    have zp := eq_false (show ¬ (i : Int) < 0 by omega)
    have hC1 : Chg [j] t1 t1 := hK1.chg _
    have hk1 := hk.keep hK1
    obtain ⟨i1, l0, l1, l2, l3, l4, llt⟩ := hk1.at hy
    obtain ⟨s4, sa, sg, hsP⟩ := hk1.sto hy
    obtain ⟨b0, b1, blt⟩ := row2_lod hk1.box
    have hdl := St.get_lt (hk1.dat (fun e => by rw [e] at hy; simp at hy))
    have hCp : ∀ bl, Chg [j] t1 (t1.put j bl) := fun bl => hC1.put _ (.inl (by simp)) hdl
    have ql := q_rnum false l (s := t1)
    have ql : acall R_rnum false [.int .i64 l] t1 = some (.bool (numI l), t1) := ql
    cases c2 : numI l
    · rw [c2] at ql
      have hS := opL_same (f := jumpF l) hf hy (show jumpF l y = (2, y) by unfold jumpF; rw [if_pos c2])
      rw [hS]
      simp (config := {contextual := true, maxDischargeDepth := 12}) only [tb_at, h0, h1, h2, hlen, n00, n20, q1, nchkV_ptr, l0, l1, l2, l3, l4, llt, b0, b1, blt, i1, decide_true, decide_false, Bool.not_true, Bool.not_false, bin_eql, bin_neq, notV_bool, zp, ql, ↓bD, bU, forall_const, bS, implies_true, isNx, eq_self, ↓wp_cond, ↓wp_loop, ↓reduceIte, reduceCtorEq, Nat.reduceEqDiff, Nat.reduceLT, Nat.reduceAdd, Nat.reduceMul, bT, ↓sg_bsl, ↓st_callf, bX, ap_mkfn, ap_conv, ↓wi_seq, ↓wi_base, ↓wi_block, ↓wi_cond, ↓wi_loop, ↓wi_rf, ↓wy_seq, ↓wy_base, ↓wy_block, ↓wy_cond, ↓wy_loop, ↓wy_yld, bin_shr1, q_known, ae_callvV, callvV_fn, List.append_nil, List.cons_append, List.nil_append, fs40, fs41, mmV_max2]
      all_goals first | exact ⟨_, rfl, rfl, hk1, hC1⟩ | exact ⟨hk1, hC1⟩ | skip
    rw [c2] at ql
    have hS := opL_hit (f := jumpF l) hf hy
    rw [show jumpF l y = (0, { y with g := max y.g l }) by unfold jumpF; rw [if_neg (by rw [c2]; decide)]] at hS
    have sg := sg (max y.g l)
    rw [hS]
    simp (config := {contextual := true, maxDischargeDepth := 12}) only [tb_at, h0, h1, h2, hlen, n00, n20, q1, nchkV_ptr, l0, l1, l2, l3, l4, llt, b0, b1, blt, i1, decide_true, decide_false, Bool.not_true, Bool.not_false, bin_eql, bin_neq, notV_bool, zp, ql, sg, ↓bD, bU, forall_const, bS, implies_true, isNx, eq_self, ↓wp_cond, ↓wp_loop, ↓reduceIte, reduceCtorEq, Nat.reduceEqDiff, Nat.reduceLT, Nat.reduceAdd, Nat.reduceMul, bT, ↓sg_bsl, ↓st_callf, bX, ap_mkfn, ap_conv, ↓wi_seq, ↓wi_base, ↓wi_block, ↓wi_cond, ↓wi_loop, ↓wi_rf, ↓wy_seq, ↓wy_base, ↓wy_block, ↓wy_cond, ↓wy_loop, ↓wy_yld, bin_shr1, q_known, ae_callvV, callvV_fn, List.append_nil, List.cons_append, List.nil_append, fs40, fs41, mmV_max2]
    all_goals first | exact ⟨_, rfl, rfl, hsP _, hCp _⟩ | exact ⟨hsP _, hCp _⟩ | skip
theorem q_RJump {s : St} {id j : Nat} {cap : Option Nat} {rep : Int} {L : List Nb} (hk : AkR s id j cap rep L) (n l : Int) : ∃ t, acall R_RJump false [.ptr id 0, .int .i64 n, .int .i64 l] s = some (.int .i64 (opL (jumpF l) L n).1, t) ∧ AkR t id j cap rep (opL (jumpF l) L n).2 ∧ Chg [j] s t := by
  obtain ⟨r, t, h1, rfl, h2, h3⟩ := run_awp n_RJump (args := [.ptr id 0, .int .i64 n, .int .i64 l]) (by simp [a23]) (w_RJump (s := lowd s) hk.low n l)
  obtain ⟨t', g1, g2, _, g4⟩ := run_chg s_RJump h1 h3
  exact ⟨t', g1, hk.same_Meet h2 g2 g4.next, g4⟩

end Go.AM
end
/-
  What a replica knows: Get, Needed, All, Copy, alike. Own work of this project; in part printed by a program of it.
-/
section
set_option maxRecDepth 100000
set_option maxHeartbeats 8000000
namespace Go.AM
open Go Go.Proofs

variable {s t u : St}

def getP (L : List Nb) (n : Int) : Nb × Int := match fndB L n with
  | none => (nb0, 2)
  | some i => match L[i]? with
    | none => (nb0, 2)
    | some x => (x, 0)
theorem getP_hit {L : List Nb} {n : Int} {i : Nat} {x : Nb} (h : fndB L n = some i) (hx : L[i]? = some x) : getP L n = (x, 0) := by unfold getP; rw [h]; simp only; rw [hx]
theorem getP_miss {L : List Nb} {n : Int} (h : fndB L n = none) : getP L n = (nb0, 2) := by unfold getP; rw [h]
theorem row4_sto {id : Nat} {cs : List AV} (h : t.get id = some (.row cs true)) (hl : cs.length = 4) (y : Nb) : sto t 4 (.ptr id 0) (.agg (Nb.av y)) = some (.und, t.put id (.row (Nb.av y) true)) := by
  have e : cs.drop 4 = [] := List.drop_eq_nil_of_le (by omega)
  simp only [sto, h]
  rw [if_pos ⟨rfl, rfl, by rw [hl]; exact Nat.le_refl _⟩]
  show some (AV.und, t.put id (.row (setAt cs 0 (Nb.av y)) true)) = _
  have : setAt cs 0 (Nb.av y) = Nb.av y := by simp [setAt, e, Nb.av]
  rw [this]
theorem row4_lods {id : Nat} {y : Nb} (h : t.get id = some (.row (Nb.av y) true)) : lod t 4 (.ptr id 0) = some (.agg (Nb.av y)) ∧ ltN id t := by
  refine ⟨?_, St.get_lt h⟩
  simp [lod, h, Nb.av]
noncomputable def R_RGet : Con := runFn (tb [(35, R_Rfind)]) a31
theorem s_RGet : SoundAt Try.prog 31 R_RGet := run_sound (tb_sound (l := [(35, R_Rfind)]) (by simpa using s_Rfind)) mixed Try.func31 k31 c31
theorem n_RGet : noNxtC a31.body = true := by kernel_rfl
theorem w_Get {s : St} {id j : Nat} {cap : Option Nat} {rep : Int} {L : List Nb} (hk : AkR s id j cap rep L) (hr : rep ≠ 0) (hs : SrtB L) (n : Int) : ∀ env : Env, elen env = a37.ntmps → (∀ i x_, [.ptr id 0, .int .i64 n][i]? = some x_ → E env i = x_) → awp (tb [(33, R_find)]) a37.body (fun x e t => (∀ i, x ≠ .exit i) ∧ aresults e t a37.results = some (.tup [.agg (Nb.av (getP L n).1), .int .i64 (getP L n).2]) ∧ Keep s t) env s := by
  intro env hlen ha
  have h0 : E env 0 = _ := ha 0 _ rfl
  have h1 : E env 1 = _ := ha 1 _ rfl
  have hlen : elen env = _ := hlen
  simp only [a37] at hlen
  unfold a37
  try dsimp only [oO, oG]
  have n00 : ((0 : Int) = 0) = True := eq_true rfl
  have n20 : ((2 : Int) = 0) = False := eq_false (by decide)
  have hKz : Keep s (s.push (.row [.int .i64 0, .int .i64 0, .int .i64 0, .int .i64 0] true)) := (Keep.refl s).push _
  have hgz := St.get_push_new s (.row [.int .i64 0, .int .i64 0, .int .i64 0, .int .i64 0] true)
  have hkz := hk.keep hKz
  have hz0 : (AV.agg [.int .i64 0, .int .i64 0, .int .i64 0, .int .i64 0]) = .agg (Nb.av nb0) := rfl
  cases hf : fndB L n with
  | none =>
    rw [getP_miss hf]
    obtain ⟨u, hu⟩ : ∃ u, u = s.push (.row [.int .i64 0, .int .i64 0, .int .i64 0, .int .i64 0] true) := ⟨_, rfl⟩
    have q1 := q_find_m false hkz hr hs hf
    rw [← hu] at hgz q1 hKz
    have hs4 := row4_sto hgz rfl nb0
    have hlt := St.get_lt hgz
    have hgu : (u.put s.next (.row (Nb.av nb0) true)).get s.next = some (.row (Nb.av nb0) true) := St.get_put_same hgz
    obtain ⟨r0, rlt⟩ := row4_lods hgu
    have hKu : Keep s (u.put s.next (.row (Nb.av nb0) true)) := hKz.put _ (Nat.le_refl _) hlt
    simp (config := {contextual := true, maxDischargeDepth := 12}) only [tb_at, h0, h1, hlen, n00, n20, ← hu, q1, ap_build, fillP_nil, hz0, hs4, r0, rlt, decide_true, decide_false, Bool.not_true, Bool.not_false, bin_eql, bin_neq, ↓bD, bU, forall_const, bS, implies_true, isNx, eq_self, ↓wp_cond, ↓wp_loop, ↓reduceIte, reduceCtorEq, Nat.reduceEqDiff, Nat.reduceLT, Nat.reduceAdd, Nat.reduceMul, bT, ↓sg_bsl, ↓st_callf, bX, ap_mkfn, ap_conv, ↓wi_seq, ↓wi_base, ↓wi_block, ↓wi_cond, ↓wi_loop, ↓wi_rf, ↓wy_seq, ↓wy_base, ↓wy_block, ↓wy_cond, ↓wy_loop, ↓wy_yld, bin_shr1, q_known, ae_callvV, callvV_fn, List.append_nil, List.cons_append, List.nil_append, fs40, fs41, mmV_max2]
    all_goals first | exact hKu | skip
  | some i =>
    obtain ⟨y, hy, hyr⟩ := fndB_some hf
    rw [getP_hit hf hy]
    obtain ⟨u, hu⟩ : ∃ u, u = s.push (.row [.int .i64 0, .int .i64 0, .int .i64 0, .int .i64 0] true) := ⟨_, rfl⟩
    obtain ⟨t1, q1, hK1⟩ := q_find_h hkz hr hs hf hy
    rw [← hu] at hgz q1 hKz hK1 hkz
    have hg1 := hK1.blk hgz
    have hk1 := hkz.keep hK1
    obtain ⟨i1, l0, l1, l2, l3, l4, llt⟩ := hk1.at hy
    obtain ⟨b0, b1, blt⟩ := row2_lod hk1.box
    have hs4 := row4_sto hg1 rfl y
    have hlt := St.get_lt hg1
    have hgu : (t1.put s.next (.row (Nb.av y) true)).get s.next = some (.row (Nb.av y) true) := St.get_put_same hg1
    obtain ⟨r0, rlt⟩ := row4_lods hgu
    have hKu : Keep s (t1.put s.next (.row (Nb.av y) true)) := (hKz.trans hK1).put _ (Nat.le_refl _) hlt
    simp (config := {contextual := true, maxDischargeDepth := 12}) only [tb_at, h0, h1, hlen, n00, n20, ← hu, q1, nchkV_ptr, i1, l0, llt, b0, b1, blt, hs4, r0, rlt, decide_true, decide_false, Bool.not_true, Bool.not_false, bin_eql, bin_neq, ↓bD, bU, forall_const, bS, implies_true, isNx, eq_self, ↓wp_cond, ↓wp_loop, ↓reduceIte, reduceCtorEq, Nat.reduceEqDiff, Nat.reduceLT, Nat.reduceAdd, Nat.reduceMul, bT, ↓sg_bsl, ↓st_callf, bX, ap_mkfn, ap_conv, ↓wi_seq, ↓wi_base, ↓wi_block, ↓wi_cond, ↓wi_loop, ↓wi_rf, ↓wy_seq, ↓wy_base, ↓wy_block, ↓wy_cond, ↓wy_loop, ↓wy_yld, bin_shr1, q_known, ae_callvV, callvV_fn, List.append_nil, List.cons_append, List.nil_append, fs40, fs41, mmV_max2]
    all_goals first | exact hKu | skip
theorem q_Get (cl : Bool) {s : St} {id j : Nat} {cap : Option Nat} {rep : Int} {L : List Nb} (hk : AkR s id j cap rep L) (hr : rep ≠ 0) (hs : SrtB L) (n : Int) : acall R_Get cl [.ptr id 0, .int .i64 n] s = some (.tup [.agg (Nb.av (getP L n).1), .int .i64 (getP L n).2], s) := run_same n_Get (by simp [a37]) rfl (w_Get (s := lowd s) hk.low hr hs n)
theorem w_RGet {s : St} {id j : Nat} {cap : Option Nat} {rep : Int} {L : List Nb} (hk : AkR s id j cap rep L) (n : Int) : ∀ env : Env, elen env = a31.ntmps → (∀ i x_, [.ptr id 0, .int .i64 n][i]? = some x_ → E env i = x_) → awp (tb [(35, R_Rfind)]) a31.body (fun x e t => (∀ i, x ≠ .exit i) ∧ aresults e t a31.results = some (.tup [.agg (Nb.av (getP L n).1), .int .i64 (getP L n).2]) ∧ Keep s t) env s := by
  intro env hlen ha
  have h0 : E env 0 = _ := ha 0 _ rfl
  have h1 : E env 1 = _ := ha 1 _ rfl
  have hlen : elen env = _ := hlen
  simp only [a31] at hlen
  unfold a31
  try dsimp only [oO, oG]
  have n00 : ((0 : Int) = 0) = True := eq_true rfl
  have n20 : ((2 : Int) = 0) = False := eq_false (by decide)
  have hKz : Keep s (s.push (.row [.int .i64 0, .int .i64 0, .int .i64 0, .int .i64 0] true)) := (Keep.refl s).push _
  have hgz := St.get_push_new s (.row [.int .i64 0, .int .i64 0, .int .i64 0, .int .i64 0] true)
  have hkz := hk.keep hKz
  have hz0 : (AV.agg [.int .i64 0, .int .i64 0, .int .i64 0, .int .i64 0]) = .agg (Nb.av nb0) := rfl
  cases hf : fndB L n with
  | none =>
    rw [getP_miss hf]
    obtain ⟨u, hu⟩ : ∃ u, u = s.push (.row [.int .i64 0, .int .i64 0, .int .i64 0, .int .i64 0] true) := ⟨_, rfl⟩
    have q1 := q_Rfind false hkz n
    rw [show rfI L n = -1 by unfold rfI; rw [hf]] at q1
    have zm : ((0 : Int) ≤ -1) = False := eq_false (by decide)
    rw [← hu] at hgz q1 hKz
    have hs4 := row4_sto hgz rfl nb0
    have hlt := St.get_lt hgz
    have hgu : (u.put s.next (.row (Nb.av nb0) true)).get s.next = some (.row (Nb.av nb0) true) := St.get_put_same hgz
    obtain ⟨r0, rlt⟩ := row4_lods hgu
    have hKu : Keep s (u.put s.next (.row (Nb.av nb0) true)) := hKz.put _ (Nat.le_refl _) hlt
    simp (config := {contextual := true, maxDischargeDepth := 12}) only [tb_at, h0, h1, hlen, n00, n20, ← hu, q1, ap_build, fillP_nil, hz0, hs4, r0, rlt, zm, decide_true, decide_false, Bool.not_true, Bool.not_false, bin_eql, bin_neq, ↓bD, bU, forall_const, bS, implies_true, isNx, eq_self, ↓wp_cond, ↓wp_loop, ↓reduceIte, reduceCtorEq, Nat.reduceEqDiff, Nat.reduceLT, Nat.reduceAdd, Nat.reduceMul, bT, ↓sg_bsl, ↓st_callf, bX, ap_mkfn, ap_conv, ↓wi_seq, ↓wi_base, ↓wi_block, ↓wi_cond, ↓wi_loop, ↓wi_rf, ↓wy_seq, ↓wy_base, ↓wy_block, ↓wy_cond, ↓wy_loop, ↓wy_yld, bin_shr1, q_known, ae_callvV, callvV_fn, List.append_nil, List.cons_append, List.nil_append, fs40, fs41, mmV_max2]
    all_goals first | exact hKu | skip
  | some i =>
    obtain ⟨y, hy, hyr⟩ := fndB_some hf
    rw [getP_hit hf hy]
    obtain ⟨u, hu⟩ : ∃ u, u = s.push (.row [.int .i64 0, .int .i64 0, .int .i64 0, .int .i64 0] true) := ⟨_, rfl⟩
    have q1 := q_Rfind false hkz n
    rw [show rfI L n = (i : Int) by unfold rfI; rw [hf]] at q1
    have zp := eq_true (show (0 : Int) ≤ (i : Int) by omega)
    rw [← hu] at hgz q1 hKz hkz
    obtain ⟨t1, ht1⟩ : ∃ t1, t1 = u := ⟨_, rfl⟩
    have hK1 : Keep u t1 := by rw [ht1]; exact .refl _
    rw [← ht1] at hu q1
    have hg1 := hK1.blk hgz
    have hk1 := hkz.keep hK1
    obtain ⟨i1, l0, l1, l2, l3, l4, llt⟩ := hk1.at hy
    obtain ⟨b0, b1, blt⟩ := row2_lod hk1.box
    have hs4 := row4_sto hg1 rfl y
    have hlt := St.get_lt hg1
    have hgu : (t1.put s.next (.row (Nb.av y) true)).get s.next = some (.row (Nb.av y) true) := St.get_put_same hg1
    obtain ⟨r0, rlt⟩ := row4_lods hgu
    have hKu : Keep s (t1.put s.next (.row (Nb.av y) true)) := (hKz.trans hK1).put _ (Nat.le_refl _) hlt
    simp (config := {contextual := true, maxDischargeDepth := 12}) only [tb_at, h0, h1, hlen, n00, n20, ← hu, q1, nchkV_ptr, i1, l0, llt, b0, b1, blt, hs4, r0, rlt, zp, decide_true, decide_false, Bool.not_true, Bool.not_false, bin_eql, bin_neq, ↓bD, bU, forall_const, bS, implies_true, isNx, eq_self, ↓wp_cond, ↓wp_loop, ↓reduceIte, reduceCtorEq, Nat.reduceEqDiff, Nat.reduceLT, Nat.reduceAdd, Nat.reduceMul, bT, ↓sg_bsl, ↓st_callf, bX, ap_mkfn, ap_conv, ↓wi_seq, ↓wi_base, ↓wi_block, ↓wi_cond, ↓wi_loop, ↓wi_rf, ↓wy_seq, ↓wy_base, ↓wy_block, ↓wy_cond, ↓wy_loop, ↓wy_yld, bin_shr1, q_known, ae_callvV, callvV_fn, List.append_nil, List.cons_append, List.nil_append, fs40, fs41, mmV_max2]
    all_goals first | exact hKu | skip
theorem q_RGet (cl : Bool) {s : St} {id j : Nat} {cap : Option Nat} {rep : Int} {L : List Nb} (hk : AkR s id j cap rep L) (n : Int) : acall R_RGet cl [.ptr id 0, .int .i64 n] s = some (.tup [.agg (Nb.av (getP L n).1), .int .i64 (getP L n).2], s) := run_same n_RGet (by simp [a31]) rfl (w_RGet (s := lowd s) hk.low n)
theorem w_gets {s : St} {id j : Nat} {cap : Option Nat} {rep : Int} {L : List Nb} (hk : AkR s id j cap rep L) (hr : rep ≠ 0) (hs : SrtB L) (n : Int) (w_ : Nb) (c : Int) : ∀ env : Env, elen env = a25.ntmps → (∀ i x_, [.ptr id 0, .int .i64 n, .agg (Nb.av w_), .int .i64 c][i]? = some x_ → E env i = x_) → awp (tb [(37, R_Get)]) a25.body (fun x e t => (∀ i, x ≠ .exit i) ∧ aresults e t a25.results = some (.bool (decide ((getP L n).1 = w_) && decide ((getP L n).2 = c))) ∧ Keep s t) env s := by
  intro env hlen ha
  have h0 : E env 0 = _ := ha 0 _ rfl
  have h1 : E env 1 = _ := ha 1 _ rfl
  have h2 : E env 2 = _ := ha 2 _ rfl
  have h3 : E env 3 = _ := ha 3 _ rfl
  have hlen : elen env = _ := hlen
  simp only [a25] at hlen
  unfold a25
  try dsimp only [oO, oG]
  have hbx : boxV 4 (.agg (Nb.av w_)) = some (fun id => .ptr id 0, .row (Nb.av w_) true) := by simp [boxV, AV.cells, AV.one, Nb.av]
  have hK1 : Keep s (s.push (.row (Nb.av w_) true)) := (Keep.refl s).push _
  have hgw := St.get_push_new s (.row (Nb.av w_) true)
  have q := q_Get false (hk.keep hK1) hr hs n
  obtain ⟨u, hu⟩ : ∃ u, u = s.push (.row (Nb.av w_) true) := ⟨_, rfl⟩
  rw [← hu] at q hgw hK1
  have hs4 : sto (u.push (.row [.int .i64 0, .int .i64 0, .int .i64 0, .int .i64 0] true)) 4 (.ptr u.next 0) (.agg (Nb.av (getP L n).1)) = some (.und, u.lowed.push (.row (Nb.av (getP L n).1) true)) := sto_z4 (show sameN u.next u from rfl) _ _ _ _ _ rfl
  have hKz : Keep u (u.lowed.push (.row (Nb.av (getP L n).1) true)) := (Keep.refl u).lowed.push _
  obtain ⟨r0, rlt⟩ := row4_lods (St.get_push_new u.lowed (.row (Nb.av (getP L n).1) true))
  have r0 : lod (u.lowed.push (.row (Nb.av (getP L n).1) true)) 4 (.ptr u.next 0) = some (.agg (Nb.av (getP L n).1)) := r0
  have rlt : ltN u.next (u.lowed.push (.row (Nb.av (getP L n).1) true)) := rlt
  obtain ⟨w0, wlt⟩ := row4_lods (hKz.blk hgw)
  have he := bin_eqb4 (getP L n).1 w_
  have hKf := hK1.trans hKz
  simp (config := {contextual := true, maxDischargeDepth := 12}) only [tb_at, h0, h1, h2, h3, hlen, hbx, ← hu, q, hs4, r0, rlt, w0, wlt, he, decide_true, decide_false, Bool.not_true, Bool.not_false, bin_eql, bin_neq, ↓bD, bU, forall_const, bS, implies_true, isNx, eq_self, ↓wp_cond, ↓wp_loop, ↓reduceIte, reduceCtorEq, Nat.reduceEqDiff, Nat.reduceLT, Nat.reduceAdd, Nat.reduceMul, bT, ↓sg_bsl, ↓st_callf, bX, ap_mkfn, ap_conv, ↓wi_seq, ↓wi_base, ↓wi_block, ↓wi_cond, ↓wi_loop, ↓wi_rf, ↓wy_seq, ↓wy_base, ↓wy_block, ↓wy_cond, ↓wy_loop, ↓wy_yld, bin_shr1, q_known, ae_callvV, callvV_fn, List.append_nil, List.cons_append, List.nil_append, fs40, fs41, mmV_max2]
  all_goals first | exact hKf | skip
theorem q_gets (cl : Bool) {s : St} {id j : Nat} {cap : Option Nat} {rep : Int} {L : List Nb} (hk : AkR s id j cap rep L) (hr : rep ≠ 0) (hs : SrtB L) (n : Int) (w_ : Nb) (c : Int) : acall R_gets cl [.ptr id 0, .int .i64 n, .agg (Nb.av w_), .int .i64 c] s = some (.bool (decide ((getP L n).1 = w_) && decide ((getP L n).2 = c)), s) := run_same n_gets (by simp [a25]) rfl (w_gets (s := lowd s) hk.low hr hs n w_ c)

def needP (L : List Nb) : Int := L.foldl (fun n x => min n x.a) 1099511627776
theorem needP_snoc {L : List Nb} {i : Nat} {x : Nb} (h : L[i]? = some x) : needP (L.take (i + 1)) = min (needP (L.take i)) x.a := by
  unfold needP
  rw [List.take_add_one, h, List.foldl_append]
  rfl
noncomputable def R_RNeeded : Con := runFn (tb []) a30
theorem s_RNeeded : SoundAt Try.prog 30 R_RNeeded := run_sound (tb_sound (l := []) (by simp)) mixed Try.func30 k30 c30
theorem n_RNeeded : noNxtC a30.body = true := by kernel_rfl
theorem w_RNeeded {s : St} {id j : Nat} {cap : Option Nat} {rep : Int} {L : List Nb} (hk : AkR s id j cap rep L) : ∀ env : Env, elen env = a30.ntmps → (∀ i x_, [.ptr id 0][i]? = some x_ → E env i = x_) → awp (tb []) a30.body (fun x e t => (∀ i, x ≠ .exit i) ∧ aresults e t a30.results = some (.int .i64 (needP L)) ∧ Keep s t) env s := by
  intro env hlen ha
  have h0 : E env 0 = _ := ha 0 _ rfl
  have hlen : elen env = _ := hlen
  simp only [a30] at hlen
  unfold a30
  try dsimp only [oO, oG]
  have hL := hk.lenV
  have hll := hk.hn
  obtain ⟨b0, b1, blt⟩ := row2_lod hk.box
  have hn0 : needP (L.take 0) = 1099511627776 := rfl
  simp (config := {contextual := true, maxDischargeDepth := 12}) only [tb_at, h0, hlen, ↓bD, bU, forall_const, bS, implies_true, isNx, eq_self, ↓wp_cond, ↓wp_loop, ↓reduceIte, reduceCtorEq, Nat.reduceEqDiff, Nat.reduceLT, Nat.reduceAdd, Nat.reduceMul, bT, ↓sg_bsl, ↓st_callf, bX, ap_mkfn, ap_conv, ↓wi_seq, ↓wi_base, ↓wi_block, ↓wi_cond, ↓wi_loop, ↓wi_rf, ↓wy_seq, ↓wy_base, ↓wy_block, ↓wy_cond, ↓wy_loop, ↓wy_yld, bin_shr1, q_known, ae_callvV, callvV_fn, List.append_nil, List.cons_append, List.nil_append, fs40, fs41, mmV_max2]
  obtain ⟨I, hI⟩ : ∃ I : Nat → Env → St → Prop, ∀ n e t, I n e t = (t = s ∧ ∃ i : Nat, n + i = L.length ∧ elen e = 25 ∧ E e 0 = .ptr id 0 ∧ E e 3 = .int .i64 (needP (L.take i)) ∧ E e 4 = .int .i64 (i : Int)) := ⟨fun n e t => (t = s ∧ ∃ i : Nat, n + i = L.length ∧ elen e = 25 ∧ E e 0 = .ptr id 0 ∧ E e 3 = .int .i64 (needP (L.take i)) ∧ E e 4 = .int .i64 (i : Int)), fun _ _ _ => rfl⟩
  refine lwp_inv I (n := L.length) ?_ ?_
  · rw [hI]
    exact ⟨rfl, 0, by omega, (by simp only [bE, Nat.reduceEqDiff, bN, Nat.reduceLT, hlen, hn0]; try rfl), (by simp only [bE, Nat.reduceEqDiff, bN, Nat.reduceLT, hlen, h0]; try rfl), (by simp only [bE, Nat.reduceEqDiff, bN, Nat.reduceLT, hlen, hn0]; try rfl), (by simp only [bE, Nat.reduceEqDiff, bN, Nat.reduceLT, hlen, hn0]; try rfl)⟩
  clear h0 hlen
  intro n e t hi
  rw [hI] at hi
  obtain ⟨hK, i, hni, he, e0, e3, e4⟩ := hi
  subst hK
  by_cases hlt : i < L.length
  · obtain ⟨x, hx⟩ := getsome hlt
    have hw := wrap_add1 (n := i) (by omega)
    obtain ⟨i1, l0, l1, l2, l3, l4, llt⟩ := hk.at hx
    have z1 := eq_true (show (i : Int) < (L.length : Int) by omega)
    have hsn := needP_snoc hx
    simp (config := {contextual := true, maxDischargeDepth := 12}) only [tb_at, he, e0, e3, e4, b0, b1, blt, nchkV_ptr, hL, z1, hw, i1, l3, llt, mmV_min, ↓bD, bU, forall_const, bS, implies_true, isNx, eq_self, ↓wp_cond, ↓wp_loop, ↓reduceIte, reduceCtorEq, Nat.reduceEqDiff, Nat.reduceLT, Nat.reduceAdd, Nat.reduceMul, bT, ↓sg_bsl, ↓st_callf, bX, ap_mkfn, ap_conv, ↓wi_seq, ↓wi_base, ↓wi_block, ↓wi_cond, ↓wi_loop, ↓wi_rf, ↓wy_seq, ↓wy_base, ↓wy_block, ↓wy_cond, ↓wy_loop, ↓wy_yld, bin_shr1, q_known, ae_callvV, callvV_fn, List.append_nil, List.cons_append, List.nil_append, fs40, fs41, mmV_max2]
    refine ⟨n - 1, by omega, ?_⟩
    rw [hI]
    exact ⟨rfl, i + 1, by omega, (by simp only [bE, Nat.reduceEqDiff, bN, Nat.reduceLT, he, e0, e3, e4, hsn]; try rfl), (by simp only [bE, Nat.reduceEqDiff, bN, Nat.reduceLT, he, e0, e3, e4, hsn]; try rfl), (by simp only [bE, Nat.reduceEqDiff, bN, Nat.reduceLT, he, e0, e3, e4, hsn]; try rfl), (by simp only [bE, Nat.reduceEqDiff, bN, Nat.reduceLT, he, e0, e3, e4, hsn]; try rfl)⟩
  · obtain rfl : i = L.length := by omega
    have z1 := eq_false (show ¬ (L.length : Int) < (L.length : Int) by omega)
    rw [List.take_length] at e3
    simp (config := {contextual := true, maxDischargeDepth := 12}) only [tb_at, he, e0, e3, e4, b0, b1, blt, nchkV_ptr, hL, z1, ↓bD, bU, forall_const, bS, implies_true, isNx, eq_self, ↓wp_cond, ↓wp_loop, ↓reduceIte, reduceCtorEq, Nat.reduceEqDiff, Nat.reduceLT, Nat.reduceAdd, Nat.reduceMul, bT, ↓sg_bsl, ↓st_callf, bX, ap_mkfn, ap_conv, ↓wi_seq, ↓wi_base, ↓wi_block, ↓wi_cond, ↓wi_loop, ↓wi_rf, ↓wy_seq, ↓wy_base, ↓wy_block, ↓wy_cond, ↓wy_loop, ↓wy_yld, bin_shr1, q_known, ae_callvV, callvV_fn, List.append_nil, List.cons_append, List.nil_append, fs40, fs41, mmV_max2]
    all_goals first | exact .refl _ | skip
theorem q_RNeeded (cl : Bool) {s : St} {id j : Nat} {cap : Option Nat} {rep : Int} {L : List Nb} (hk : AkR s id j cap rep L) : acall R_RNeeded cl [.ptr id 0] s = some (.int .i64 (needP L), s) := run_same n_RNeeded (by simp [a30]) rfl (w_RNeeded (s := lowd s) hk.low)
theorem w_Needed {s : St} {id j : Nat} {cap : Option Nat} {rep : Int} {L : List Nb} (hk : AkR s id j cap rep L) (hr : rep ≠ 0) : ∀ env : Env, elen env = a14.ntmps → (∀ i x_, [.ptr id 0][i]? = some x_ → E env i = x_) → awp (tb [(26, R_Repl)]) a14.body (fun x e t => (∀ i, x ≠ .exit i) ∧ aresults e t a14.results = some (.int .i64 (needP L)) ∧ Keep s t) env s := by
  intro env hlen ha
  have h0 : E env 0 = _ := ha 0 _ rfl
  have hlen : elen env = _ := hlen
  simp only [a14] at hlen
  unfold a14
  try dsimp only [oO, oG]
  have hL := hk.lenV
  have hll := hk.hn
  obtain ⟨b0, b1, blt⟩ := row2_lod hk.box
  have hr0 := eq_false hr
  have q1 := q_Repl false hk
  have hn0 : needP (L.take 0) = 1099511627776 := rfl
  simp (config := {contextual := true, maxDischargeDepth := 12}) only [tb_at, h0, hlen, q1, hr0, b0, b1, blt, nchkV_ptr, hL, decide_true, decide_false, Bool.not_true, Bool.not_false, bin_eql, bin_neq, ↓bD, bU, forall_const, bS, implies_true, isNx, eq_self, ↓wp_cond, ↓wp_loop, ↓reduceIte, reduceCtorEq, Nat.reduceEqDiff, Nat.reduceLT, Nat.reduceAdd, Nat.reduceMul, bT, ↓sg_bsl, ↓st_callf, bX, ap_mkfn, ap_conv, ↓wi_seq, ↓wi_base, ↓wi_block, ↓wi_cond, ↓wi_loop, ↓wi_rf, ↓wy_seq, ↓wy_base, ↓wy_block, ↓wy_cond, ↓wy_loop, ↓wy_yld, bin_shr1, q_known, ae_callvV, callvV_fn, List.append_nil, List.cons_append, List.nil_append, fs40, fs41, mmV_max2]
  obtain ⟨I, hI⟩ : ∃ I : Nat → Env → St → Prop, ∀ n e t, I n e t = (Keep s t ∧ ∃ i : Nat, n + i = L.length ∧ elen e = 24 ∧ E e 3 = .int .i64 (needP (L.take i)) ∧ E e 12 = akV j cap L ∧ E e 13 = .int .i64 (L.length : Int) ∧ E e 14 = .int .i64 (i : Int)) := ⟨fun n e t => (Keep s t ∧ ∃ i : Nat, n + i = L.length ∧ elen e = 24 ∧ E e 3 = .int .i64 (needP (L.take i)) ∧ E e 12 = akV j cap L ∧ E e 13 = .int .i64 (L.length : Int) ∧ E e 14 = .int .i64 (i : Int)), fun _ _ _ => rfl⟩
  refine lwp_inv I (n := L.length) ?_ ?_
  · rw [hI]
    exact ⟨.refl s, 0, by omega, (by simp only [bE, Nat.reduceEqDiff, bN, Nat.reduceLT, hlen, hn0]; try rfl), (by simp only [bE, Nat.reduceEqDiff, bN, Nat.reduceLT, hlen, hn0]; try rfl), (by simp only [bE, Nat.reduceEqDiff, bN, Nat.reduceLT, hlen, hn0]; try rfl), (by simp only [bE, Nat.reduceEqDiff, bN, Nat.reduceLT, hlen, hn0]; try rfl), (by simp only [bE, Nat.reduceEqDiff, bN, Nat.reduceLT, hlen, hn0]; try rfl)⟩
  clear h0 hlen
  intro n e t hi
  rw [hI] at hi
  obtain ⟨hK, i, hni, he, e3, e12, e13, e14⟩ := hi
  by_cases hlt : i < L.length
  · obtain ⟨x, hx⟩ := getsome hlt
    have hw := wrap_add1 (n := i) (by omega)
    obtain ⟨i1, l0, l1, l2, l3, l4, llt⟩ := (hk.keep hK).at hx
    have z1 := eq_true (show (i : Int) < (L.length : Int) by omega)
    have hsn := needP_snoc hx
    have hs4 : sto (t.push (.row [.int .i64 0, .int .i64 0, .int .i64 0, .int .i64 0] true)) 4 (.ptr t.next 0) (.agg (Nb.av x)) = some (.und, t.lowed.push (.row (Nb.av x) true)) := sto_z4 (show sameN t.next t from rfl) _ _ _ _ _ rfl
    obtain ⟨_, _, _, hla, _, hlt2⟩ := box_nb t.lowed x (.refl _)
    have hla : lod1 (t.lowed.push (.row (Nb.av x) true)) (.ptr t.next 2) = some (.int .i64 x.a) := hla
    have hlt2 : ltN t.next (t.lowed.push (.row (Nb.av x) true)) := hlt2
    have hK2 : Keep s (t.lowed.push (.row (Nb.av x) true)) := hK.lowed.push _
    simp (config := {contextual := true, maxDischargeDepth := 12}) only [tb_at, he, e3, e12, e13, e14, z1, hw, i1, l0, llt, hs4, hla, hlt2, mmV_min, ↓bD, bU, forall_const, bS, implies_true, isNx, eq_self, ↓wp_cond, ↓wp_loop, ↓reduceIte, reduceCtorEq, Nat.reduceEqDiff, Nat.reduceLT, Nat.reduceAdd, Nat.reduceMul, bT, ↓sg_bsl, ↓st_callf, bX, ap_mkfn, ap_conv, ↓wi_seq, ↓wi_base, ↓wi_block, ↓wi_cond, ↓wi_loop, ↓wi_rf, ↓wy_seq, ↓wy_base, ↓wy_block, ↓wy_cond, ↓wy_loop, ↓wy_yld, bin_shr1, q_known, ae_callvV, callvV_fn, List.append_nil, List.cons_append, List.nil_append, fs40, fs41, mmV_max2]
    refine ⟨n - 1, by omega, ?_⟩
    rw [hI]
    exact ⟨hK2, i + 1, by omega, (by simp only [bE, Nat.reduceEqDiff, bN, Nat.reduceLT, he, e3, e12, e13, e14, hsn]; try rfl), (by simp only [bE, Nat.reduceEqDiff, bN, Nat.reduceLT, he, e3, e12, e13, e14, hsn]; try rfl), (by simp only [bE, Nat.reduceEqDiff, bN, Nat.reduceLT, he, e3, e12, e13, e14, hsn]; try rfl), (by simp only [bE, Nat.reduceEqDiff, bN, Nat.reduceLT, he, e3, e12, e13, e14, hsn]; try rfl), (by simp only [bE, Nat.reduceEqDiff, bN, Nat.reduceLT, he, e3, e12, e13, e14, hsn]; try rfl)⟩
  · obtain rfl : i = L.length := by omega
    have z1 := eq_false (show ¬ (L.length : Int) < (L.length : Int) by omega)
    rw [List.take_length] at e3
    simp (config := {contextual := true, maxDischargeDepth := 12}) only [tb_at, he, e3, e12, e13, e14, z1, ↓bD, bU, forall_const, bS, implies_true, isNx, eq_self, ↓wp_cond, ↓wp_loop, ↓reduceIte, reduceCtorEq, Nat.reduceEqDiff, Nat.reduceLT, Nat.reduceAdd, Nat.reduceMul, bT, ↓sg_bsl, ↓st_callf, bX, ap_mkfn, ap_conv, ↓wi_seq, ↓wi_base, ↓wi_block, ↓wi_cond, ↓wi_loop, ↓wi_rf, ↓wy_seq, ↓wy_base, ↓wy_block, ↓wy_cond, ↓wy_loop, ↓wy_yld, bin_shr1, q_known, ae_callvV, callvV_fn, List.append_nil, List.cons_append, List.nil_append, fs40, fs41, mmV_max2]
    all_goals first | exact hK | skip
theorem q_Needed (cl : Bool) {s : St} {id j : Nat} {cap : Option Nat} {rep : Int} {L : List Nb} (hk : AkR s id j cap rep L) (hr : rep ≠ 0) : acall R_Needed cl [.ptr id 0] s = some (.int .i64 (needP L), s) := run_same n_Needed (by simp [a14]) rfl (w_Needed (s := lowd s) hk.low hr)

/-- A new list of neighbours. -/
def NwB (s t : St) (v : AV) (L : List Nb) : Prop := (v = .nils ∧ L = []) ∨ ∃ j cap, v = .sl j 0 L.length cap 4 ∧ L ≠ [] ∧ s.next ≤ j ∧ t.get j = some (.row (nbC.cells L) true) ∧ ∀ c, cap = some c → c = L.length
theorem NwB.mono {v : AV} {L : List Nb} (h : NwB s t v L) (k : ∀ id b, t.get id = some b → u.get id = some b) : NwB s u v L :=
  h.imp (fun q => q) fun ⟨j, cap, e, h0, h1, h2, h3⟩ => ⟨j, cap, e, h0, h1, k _ _ h2, h3⟩
theorem NwB.read {v : AV} {L : List Nb} (h : NwB s t v L) : AM.read nbC t v = some L := by
  rcases h with ⟨rfl, rfl⟩ | ⟨j, cap, rfl, h0, h1, h2, _⟩
  · rfl
  · refine read_of rfl h2 (by simp [cells_len]) ?_
    rw [List.drop_zero, ← cells_len]
    simp
theorem NwB.ground {v : AV} {L : List Nb} (h : NwB s t v L) (hg : v.ground = true) : NwB s u v L := by
  rcases h with q | ⟨j, cap, rfl, _⟩
  · exact .inl q
  · simp [AV.ground, AV.plain] at hg
theorem w_Clone {s : St} {id j : Nat} {cap : Option Nat} {rep : Int} {L : List Nb} (hk : AkR s id j cap rep L) : ∀ env : Env, elen env = a32.ntmps → (∀ i x_, [akV j cap L][i]? = some x_ → E env i = x_) → awp (tb []) a32.body (fun x e t => (∀ i, x ≠ .exit i) ∧ ∃ r, aresults e t a32.results = some r ∧ NwB s t r L ∧ Keep s t) env s := by
  intro env hlen ha
  have h0 : E env 0 = _ := ha 0 _ rfl
  have hlen : elen env = _ := hlen
  simp only [a32] at hlen
  unfold a32
  try dsimp only [oO, oG]
  by_cases hLe : L = []
  · have e : akV j cap L = .nils := by unfold akV; rw [if_pos hLe]
    rw [e] at h0
    simp (config := {contextual := true, maxDischargeDepth := 12}) only [tb_at, h0, hlen, bin_nsn, ↓bD, bU, forall_const, bS, implies_true, isNx, eq_self, ↓wp_cond, ↓wp_loop, ↓reduceIte, reduceCtorEq, Nat.reduceEqDiff, Nat.reduceLT, Nat.reduceAdd, Nat.reduceMul, bT, ↓sg_bsl, ↓st_callf, bX, ap_mkfn, ap_conv, ↓wi_seq, ↓wi_base, ↓wi_block, ↓wi_cond, ↓wi_loop, ↓wi_rf, ↓wy_seq, ↓wy_base, ↓wy_block, ↓wy_cond, ↓wy_loop, ↓wy_yld, bin_shr1, q_known, ae_callvV, callvV_fn, List.append_nil, List.cons_append, List.nil_append, fs40, fs41, mmV_max2]
    all_goals first | exact ⟨_, rfl, .inl ⟨rfl, hLe⟩, .refl s⟩ | exact ⟨_, rfl, .inl ⟨rfl, hLe⟩⟩ | exact .inl ⟨rfl, hLe⟩ | skip
  have e : akV j cap L = .sl j 0 L.length cap 4 := by unfold akV; rw [if_neg hLe]
  have hr := hk.rd
  rw [e] at h0 hr
  have hll := hk.hn
  have hpos := List.length_pos_iff.2 hLe
  have hbs : bslV [] 0 4 [] = some (fun id => .sl id 0 0 (some 0) 4, .row [] true) := rfl
  have hs1 := read_shown ((((Keep.refl s).push (.row [] true)).read hr))
  have hs2 := read_len ((((Keep.refl s).push (.row [] true)).read hr))
  have hg : (s.push (.row [] true)).get s.next = some (.row [] true) := St.get_push_new _ _
  have hs1 : shown (s.push (.row [] true)) 4 (.sl j 0 L.length cap 4) = some (nbC.cells L) := hs1
  obtain ⟨w, t, hap, hN, hK⟩ : ∃ w t, appV (s.push (.row [] true)) 4 32 (.sl s.next 0 0 (some 0) 4) (.sl j 0 L.length cap 4) = some (w, t) ∧ NwB s t w L ∧ Keep s t := by
    simp only [appV, hs1, hs2, aappend, hg, if_true]
    rw [if_neg (by omega), if_pos ⟨by simp, by unfold roomBytes; omega⟩, if_neg (by omega)]
    refine ⟨_, _, rfl, .inr ⟨_, none, by rw [Nat.zero_add], hLe, by simp, ?_, fun c hc => by cases hc⟩, ((Keep.refl s).push _).push _⟩
    rw [St.get_push_new]
    simp
  simp (config := {contextual := true, maxDischargeDepth := 12}) only [tb_at, h0, hlen, bin_nss, hbs, hap, ↓bD, bU, forall_const, bS, implies_true, isNx, eq_self, ↓wp_cond, ↓wp_loop, ↓reduceIte, reduceCtorEq, Nat.reduceEqDiff, Nat.reduceLT, Nat.reduceAdd, Nat.reduceMul, bT, ↓sg_bsl, ↓st_callf, bX, ap_mkfn, ap_conv, ↓wi_seq, ↓wi_base, ↓wi_block, ↓wi_cond, ↓wi_loop, ↓wi_rf, ↓wy_seq, ↓wy_base, ↓wy_block, ↓wy_cond, ↓wy_loop, ↓wy_yld, bin_shr1, q_known, ae_callvV, callvV_fn, List.append_nil, List.cons_append, List.nil_append, fs40, fs41, mmV_max2]
  all_goals first | exact ⟨_, rfl, hN, hK⟩ | exact ⟨_, rfl, hN⟩ | skip
theorem q_Clone {s : St} {id j : Nat} {cap : Option Nat} {rep : Int} {L : List Nb} (hk : AkR s id j cap rep L) : ∃ w t, acall R_Clone false [akV j cap L] s = some (w, t) ∧ NwB s t w L ∧ Keep s t :=
  run_any n_Clone (args := [akV j cap L]) (Q := fun r t => NwB s t r L) (by simp [a32]) (fun r t t' hg hn h => h.mono fun id b hb => by rw [hg]; exact hb) (fun r t hgr hk h => h.ground hgr) (w_Clone (s := lowd s) hk.low)
theorem q_CloneF {s : St} {id j : Nat} {cap : Option Nat} {rep : Int} {L : List Nb} (hk : AkR s id j cap rep L) : ∃ w t, acallF R_Clone [akV j cap L] s = some (w, t) ∧ NwB s t w L ∧ Keep s t := by
  obtain ⟨w, t, h1, h2, h3⟩ := q_Clone (s := lowd s) hk.low
  obtain ⟨t', g1, g2, g3, g4⟩ := acallF_keep h1 h3
  exact ⟨w, t', g1, NwB.mono (s := s) h2 fun id b hb => by rw [g2]; exact hb, g4⟩
theorem w_All {s : St} {id j : Nat} {cap : Option Nat} {rep : Int} {L : List Nb} (hk : AkR s id j cap rep L) (hr : rep ≠ 0) : ∀ env : Env, elen env = a12.ntmps → (∀ i x_, [.ptr id 0][i]? = some x_ → E env i = x_) → awp (tb [(26, R_Repl), (32, R_Clone)]) a12.body (fun x e t => (∀ i, x ≠ .exit i) ∧ ∃ r, aresults e t a12.results = some r ∧ NwB s t r L ∧ Keep s t) env s := by
  intro env hlen ha
  have h0 : E env 0 = _ := ha 0 _ rfl
  have hlen : elen env = _ := hlen
  simp only [a12] at hlen
  unfold a12
  try dsimp only [oO, oG]
  obtain ⟨b0, b1, blt⟩ := row2_lod hk.box
  have hr0 := eq_false hr
  have q1 := q_Repl false hk
  obtain ⟨w, t1, q2, hN, hK1⟩ := q_Clone hk
  simp (config := {contextual := true, maxDischargeDepth := 12}) only [tb_at, h0, hlen, q1, hr0, b0, b1, blt, nchkV_ptr, q2, decide_true, decide_false, Bool.not_true, Bool.not_false, bin_eql, bin_neq, ↓bD, bU, forall_const, bS, implies_true, isNx, eq_self, ↓wp_cond, ↓wp_loop, ↓reduceIte, reduceCtorEq, Nat.reduceEqDiff, Nat.reduceLT, Nat.reduceAdd, Nat.reduceMul, bT, ↓sg_bsl, ↓st_callf, bX, ap_mkfn, ap_conv, ↓wi_seq, ↓wi_base, ↓wi_block, ↓wi_cond, ↓wi_loop, ↓wi_rf, ↓wy_seq, ↓wy_base, ↓wy_block, ↓wy_cond, ↓wy_loop, ↓wy_yld, bin_shr1, q_known, ae_callvV, callvV_fn, List.append_nil, List.cons_append, List.nil_append, fs40, fs41, mmV_max2]
  all_goals first | exact ⟨_, rfl, hN, hK1⟩ | exact ⟨_, rfl, hN⟩ | exact ⟨hN, hK1⟩ | skip
theorem q_All {s : St} {id j : Nat} {cap : Option Nat} {rep : Int} {L : List Nb} (hk : AkR s id j cap rep L) (hr : rep ≠ 0) : ∃ w t, acall R_All false [.ptr id 0] s = some (w, t) ∧ NwB s t w L ∧ Keep s t :=
  run_any n_All (args := [.ptr id 0]) (Q := fun r t => NwB s t r L) (by simp [a12]) (fun r t t' hg hn h => h.mono fun id b hb => by rw [hg]; exact hb) (fun r t hgr hk h => h.ground hgr) (w_All (s := lowd s) hk.low hr)
theorem q_AllF {s : St} {id j : Nat} {cap : Option Nat} {rep : Int} {L : List Nb} (hk : AkR s id j cap rep L) (hr : rep ≠ 0) : ∃ w t, acallF R_All [.ptr id 0] s = some (w, t) ∧ NwB s t w L ∧ Keep s t := by
  obtain ⟨w, t, h1, h2, h3⟩ := q_All (s := lowd s) hk.low hr
  obtain ⟨t', g1, g2, g3, g4⟩ := acallF_keep h1 h3
  exact ⟨w, t', g1, NwB.mono (s := s) h2 fun id b hb => by rw [g2]; exact hb, g4⟩

end Go.AM
end
/-
  What a replica knows: Copy, same, alike. Own work of this project; in part printed by a program of it.
-/
section
set_option maxRecDepth 100000
set_option maxHeartbeats 8000000
namespace Go.AM
open Go Go.Proofs

variable {s t u : St}
noncomputable def R_same : Con := runFn (tb []) a18
theorem s_same : SoundAt Try.prog 18 R_same := run_sound (tb_sound (l := []) (by simp)) mixed Try.func18 k18 c18
theorem n_same : noNxtC a18.body = true := by kernel_rfl

theorem ne_of_at {α : Type} {l m : List α} {i : Nat} {x y : α} (h1 : l[i]? = some x) (h2 : m[i]? = some y) (h : x ≠ y) : l ≠ m := fun e => by
  subst e
  rw [h1] at h2
  injection h2 with h2
  exact h h2
theorem w_same {s : St} {v1 v2 : AV} {L1 L2 : List Nb} (h1_ : AM.read nbC s v1 = some L1) (h2_ : AM.read nbC s v2 = some L2) (hl1 : L1.length ≤ 1000) : ∀ env : Env, elen env = a18.ntmps → (∀ i x_, [v1, v2][i]? = some x_ → E env i = x_) → awp (tb []) a18.body (fun x e t => (∀ i, x ≠ .exit i) ∧ aresults e t a18.results = some (.bool (decide (L1 = L2))) ∧ Keep s t) env s := by
  intro env hlen ha
  have h0 : E env 0 = _ := ha 0 _ rfl
  have h1 : E env 1 = _ := ha 1 _ rfl
  have hlen : elen env = _ := hlen
  simp only [a18] at hlen
  unfold a18
  try dsimp only [oO, oG]
  have l1 := lenV_read h1_
  have l2 := lenV_read h2_
  by_cases hl : L1.length = L2.length
  rotate_left
  · have z1 := eq_false (show ¬ (L1.length : Int) = (L2.length : Int) by omega)
    rw [decide_eq_false (fun e : L1 = L2 => hl (by rw [e]))]
    simp (config := {contextual := true, maxDischargeDepth := 12}) only [tb_at, h0, h1, hlen, l1, l2, z1, decide_true, decide_false, Bool.not_true, Bool.not_false, bin_eql, bin_neq, ↓bD, bU, forall_const, bS, implies_true, isNx, eq_self, ↓wp_cond, ↓wp_loop, ↓reduceIte, reduceCtorEq, Nat.reduceEqDiff, Nat.reduceLT, Nat.reduceAdd, Nat.reduceMul, bT, ↓sg_bsl, ↓st_callf, bX, ap_mkfn, ap_conv, ↓wi_seq, ↓wi_base, ↓wi_block, ↓wi_cond, ↓wi_loop, ↓wi_rf, ↓wy_seq, ↓wy_base, ↓wy_block, ↓wy_cond, ↓wy_loop, ↓wy_yld, bin_shr1, q_known, ae_callvV, callvV_fn, List.append_nil, List.cons_append, List.nil_append, fs40, fs41, mmV_max2]
    all_goals first | exact .refl s | skip
  have z1 := eq_true (show (L1.length : Int) = (L2.length : Int) by omega)
  simp (config := {contextual := true, maxDischargeDepth := 12}) only [tb_at, h0, h1, hlen, l1, l2, z1, decide_true, decide_false, Bool.not_true, Bool.not_false, bin_eql, bin_neq, ↓bD, bU, forall_const, bS, implies_true, isNx, eq_self, ↓wp_cond, ↓wp_loop, ↓reduceIte, reduceCtorEq, Nat.reduceEqDiff, Nat.reduceLT, Nat.reduceAdd, Nat.reduceMul, bT, ↓sg_bsl, ↓st_callf, bX, ap_mkfn, ap_conv, ↓wi_seq, ↓wi_base, ↓wi_block, ↓wi_cond, ↓wi_loop, ↓wi_rf, ↓wy_seq, ↓wy_base, ↓wy_block, ↓wy_cond, ↓wy_loop, ↓wy_yld, bin_shr1, q_known, ae_callvV, callvV_fn, List.append_nil, List.cons_append, List.nil_append, fs40, fs41, mmV_max2]
  obtain ⟨I, hI⟩ : ∃ I : Nat → Env → St → Prop, ∀ n e t, I n e t = (Keep s t ∧ ∃ i : Nat, n + i = L1.length ∧ elen e = 26 ∧ E e 0 = v1 ∧ E e 1 = v2 ∧ E e 5 = .int .i64 (i : Int) ∧ L1.take i = L2.take i) := ⟨fun n e t => (Keep s t ∧ ∃ i : Nat, n + i = L1.length ∧ elen e = 26 ∧ E e 0 = v1 ∧ E e 1 = v2 ∧ E e 5 = .int .i64 (i : Int) ∧ L1.take i = L2.take i), fun _ _ _ => rfl⟩
  refine lwp_inv I (n := L1.length) ?_ ?_
  · rw [hI]
    exact ⟨.refl s, 0, by omega, (by simp only [bE, Nat.reduceEqDiff, bN, Nat.reduceLT, hlen]; try rfl), (by simp only [bE, Nat.reduceEqDiff, bN, Nat.reduceLT, hlen, h0]; try rfl), (by simp only [bE, Nat.reduceEqDiff, bN, Nat.reduceLT, hlen, h1]; try rfl), (by simp only [bE, Nat.reduceEqDiff, bN, Nat.reduceLT, hlen]; try rfl), by simp⟩
  clear h0 h1 hlen
  intro n e t hi
  rw [hI] at hi
  obtain ⟨hK, i, hni, he, e0, e1, e5, hti⟩ := hi
  by_cases hlt : i < L1.length
  · obtain ⟨x, hx⟩ := getsome hlt
    obtain ⟨y, hy⟩ := getsome (show i < L2.length by omega)
    have hw2 := wrap_add1 (n := i) (by omega)
    obtain ⟨i1, a1, _, _, _, _, a2⟩ := nb_lods (hK.read h1_) hx
    obtain ⟨i2, b1, _, _, _, _, b2⟩ := nb_lods (hK.read h2_) hy
    have hq4 := bin_neb4 x y
    have z2 := eq_true (show (i : Int) < (L1.length : Int) by omega)
    by_cases hxy : x = y
    rotate_left
    · rw [decide_eq_false hxy] at hq4
      rw [decide_eq_false (ne_of_at hx hy hxy)]
      simp (config := {contextual := true, maxDischargeDepth := 12}) only [tb_at, he, e0, e1, e5, l1, z2, i1, i2, a1, a2, b1, b2, hq4, decide_true, decide_false, Bool.not_true, Bool.not_false, bin_eql, bin_neq, ↓bD, bU, forall_const, bS, implies_true, isNx, eq_self, ↓wp_cond, ↓wp_loop, ↓reduceIte, reduceCtorEq, Nat.reduceEqDiff, Nat.reduceLT, Nat.reduceAdd, Nat.reduceMul, bT, ↓sg_bsl, ↓st_callf, bX, ap_mkfn, ap_conv, ↓wi_seq, ↓wi_base, ↓wi_block, ↓wi_cond, ↓wi_loop, ↓wi_rf, ↓wy_seq, ↓wy_base, ↓wy_block, ↓wy_cond, ↓wy_loop, ↓wy_yld, bin_shr1, q_known, ae_callvV, callvV_fn, List.append_nil, List.cons_append, List.nil_append, fs40, fs41, mmV_max2]
      all_goals first | exact hK | skip
    rw [decide_eq_true hxy] at hq4
    have hti' : L1.take (i + 1) = L2.take (i + 1) := by rw [List.take_add_one, List.take_add_one, hti, hx, hy, hxy]
    simp (config := {contextual := true, maxDischargeDepth := 12}) only [tb_at, he, e0, e1, e5, l1, z2, hw2, i1, i2, a1, a2, b1, b2, hq4, decide_true, decide_false, Bool.not_true, Bool.not_false, bin_eql, bin_neq, ↓bD, bU, forall_const, bS, implies_true, isNx, eq_self, ↓wp_cond, ↓wp_loop, ↓reduceIte, reduceCtorEq, Nat.reduceEqDiff, Nat.reduceLT, Nat.reduceAdd, Nat.reduceMul, bT, ↓sg_bsl, ↓st_callf, bX, ap_mkfn, ap_conv, ↓wi_seq, ↓wi_base, ↓wi_block, ↓wi_cond, ↓wi_loop, ↓wi_rf, ↓wy_seq, ↓wy_base, ↓wy_block, ↓wy_cond, ↓wy_loop, ↓wy_yld, bin_shr1, q_known, ae_callvV, callvV_fn, List.append_nil, List.cons_append, List.nil_append, fs40, fs41, mmV_max2]
    refine ⟨n - 1, by omega, ?_⟩
    rw [hI]
    exact ⟨hK, i + 1, by omega, (by simp only [bE, Nat.reduceEqDiff, bN, Nat.reduceLT, he, e0, e1, e5]; try rfl), (by simp only [bE, Nat.reduceEqDiff, bN, Nat.reduceLT, he, e0, e1, e5]; try rfl), (by simp only [bE, Nat.reduceEqDiff, bN, Nat.reduceLT, he, e0, e1, e5]; try rfl), (by simp only [bE, Nat.reduceEqDiff, bN, Nat.reduceLT, he, e0, e1, e5]; try rfl), hti'⟩
  · obtain rfl : i = L1.length := by omega
    have z2 := eq_false (show ¬ (L1.length : Int) < (L1.length : Int) by omega)
    have he12 : L1 = L2 := by
      rw [List.take_length, hl, List.take_length] at hti
      exact hti
    rw [decide_eq_true he12]
    simp (config := {contextual := true, maxDischargeDepth := 12}) only [tb_at, he, e0, e1, e5, l1, z2, ↓bD, bU, forall_const, bS, implies_true, isNx, eq_self, ↓wp_cond, ↓wp_loop, ↓reduceIte, reduceCtorEq, Nat.reduceEqDiff, Nat.reduceLT, Nat.reduceAdd, Nat.reduceMul, bT, ↓sg_bsl, ↓st_callf, bX, ap_mkfn, ap_conv, ↓wi_seq, ↓wi_base, ↓wi_block, ↓wi_cond, ↓wi_loop, ↓wi_rf, ↓wy_seq, ↓wy_base, ↓wy_block, ↓wy_cond, ↓wy_loop, ↓wy_yld, bin_shr1, q_known, ae_callvV, callvV_fn, List.append_nil, List.cons_append, List.nil_append, fs40, fs41, mmV_max2]
    all_goals first | exact hK | skip
theorem q_same (cl : Bool) {s : St} {v1 v2 : AV} {L1 L2 : List Nb} (h1_ : AM.read nbC s v1 = some L1) (h2_ : AM.read nbC s v2 = some L2) (hl1 : L1.length ≤ 1000) : acall R_same cl [v1, v2] s = some (.bool (decide (L1 = L2)), s) := run_same n_same (by simp [a18]) rfl (w_same (s := lowd s) (read_low' h1_) (read_low' h2_) hl1)

theorem boxV_2b {a b : AV} (ha : a.one = true) (hb : b.one = true) : boxV 2 (.agg [a, b]) = some (fun id => .ptr id 0, .row [a, b] true) := by simp [boxV, AV.cells, ha, hb]
theorem fsb0 (x : AV) (hx : x.cells = [x] ∧ x.one = true) (z w : AV) (K : List AV → Option (List AV)) : fstep [z, w] 0 1 x K = K [x, w] := by simp [fstep, hx.1, hx.2, setAt]
theorem fsb1 (x : AV) (hx : x.cells = [x] ∧ x.one = true) (z w : AV) (K : List AV → Option (List AV)) : fstep [z, w] 1 1 x K = K [z, x] := by simp [fstep, hx.1, hx.2, setAt]
theorem NwB.one {v : AV} {L : List Nb} (h : NwB s t v L) : v.cells = [v] ∧ v.one = true := by
  rcases h with ⟨rfl, _⟩ | ⟨j, cap, rfl, _⟩ <;> exact ⟨rfl, rfl⟩
/-- A new pair of a number and a new list. -/
theorem NwB.akr {s0 : St} {v : AV} {L : List Nb} {id : Nat} {rep : Int} (h : NwB s t v L) (hs0 : s0.next ≤ s.next) (hb : u.get id = some (.row [.int .i64 rep, v] true)) (hk : ∀ k b, t.get k = some b → s.next ≤ k → u.get k = some b) (hn : L.length ≤ 100) (hid : s0.next ≤ id) : ∃ j cap, AkR u id j cap rep L ∧ s0.next ≤ j := by
  rcases h with ⟨rfl, rfl⟩ | ⟨j, cap, rfl, h0, h1, h2, h3⟩
  · exact ⟨id, none, ⟨hb, fun q => absurd rfl q, (fun c hc => by cases hc), hn, St.get_lt hb⟩, hid⟩
  · have hg := hk _ _ h2 h1
    exact ⟨j, cap, ⟨by unfold akV; rw [if_neg h0]; exact hb, fun _ => hg, h3, hn, St.get_lt hg⟩, Nat.le_trans hs0 h1⟩
theorem w_Copy {s : St} {id j : Nat} {cap : Option Nat} {rep : Int} {L : List Nb} (hk : AkR s id j cap rep L) (hr : rep ≠ 0) : ∀ env : Env, elen env = a24.ntmps → (∀ i x_, [.ptr id 0][i]? = some x_ → E env i = x_) → awp (tb [(26, R_Repl), (32, R_Clone)]) a24.body (fun x e t => (∀ i, x ≠ .exit i) ∧ ∃ r, aresults e t a24.results = some r ∧ (∃ id' j' cap', r = .ptr id' 0 ∧ AkR t id' j' cap' rep L ∧ s.next ≤ id' ∧ s.next ≤ j') ∧ Keep s t) env s := by
  intro env hlen ha
  have h0 : E env 0 = _ := ha 0 _ rfl
  have hlen : elen env = _ := hlen
  simp only [a24] at hlen
  unfold a24
  try dsimp only [oO, oG]
  have hr0 := eq_false hr
  have q1 := q_Repl false hk
  have hKR : Keep s (s.reserve 1) := keep_reserve s 1
  have hkR := hk.keep hKR
  obtain ⟨b0, b1, blt⟩ := row2_lod hkR.box
  obtain ⟨w, t2, q2, hN, hK2⟩ := q_CloneF hkR
  have ho := hN.one
  have f0 := fsb0 (.int .i64 rep) ⟨rfl, rfl⟩ (.int .i64 0) .nils
  have f1 := fsb1 w ho (.int .i64 rep) .nils
  have hbx := boxV_2b (a := .int .i64 rep) (b := w) rfl ho.2
  have hun : t2.get s.next = some .unborn := by rw [hK2.get _ (by simp), St.get_reserve]; simp
  have hlt := St.get_lt hun
  obtain ⟨j', cap', hA, hj'⟩ := hN.akr (s0 := s) (u := t2.born s.next (.row [.int .i64 rep, w] true)) (id := s.next) (rep := rep) (by simp) (St.get_born_same hun) (fun k b hb hk2 => by rw [St.get_born_ne _ _ hlt (by simp at hk2; omega)]; exact hb) hk.hn (Nat.le_refl _)
  have hKf : Keep s (t2.born s.next (.row [.int .i64 rep, w] true)) := (hKR.trans hK2).born _ (Nat.le_refl _) hlt
  simp (config := {contextual := true, maxDischargeDepth := 12}) only [tb_at, h0, hlen, q1, hr0, b0, b1, blt, nchkV_ptr, q2, ap_build, fillP_nil, fillP_cons, f0, f1, hbx, hun, decide_true, decide_false, Bool.not_true, Bool.not_false, bin_eql, bin_neq, ↓bD, bU, forall_const, bS, implies_true, isNx, eq_self, ↓wp_cond, ↓wp_loop, ↓reduceIte, reduceCtorEq, Nat.reduceEqDiff, Nat.reduceLT, Nat.reduceAdd, Nat.reduceMul, bT, ↓sg_bsl, ↓st_callf, bX, ap_mkfn, ap_conv, ↓wi_seq, ↓wi_base, ↓wi_block, ↓wi_cond, ↓wi_loop, ↓wi_rf, ↓wy_seq, ↓wy_base, ↓wy_block, ↓wy_cond, ↓wy_loop, ↓wy_yld, bin_shr1, q_known, ae_callvV, callvV_fn, List.append_nil, List.cons_append, List.nil_append, fs40, fs41, mmV_max2]
  all_goals first | exact ⟨_, rfl, ⟨_, _, _, rfl, hA, Nat.le_refl _, hj'⟩, hKf⟩ | exact ⟨_, rfl, _, _, _, rfl, hA, Nat.le_refl _, hj'⟩ | skip
theorem q_Copy {s : St} {id j : Nat} {cap : Option Nat} {rep : Int} {L : List Nb} (hk : AkR s id j cap rep L) (hr : rep ≠ 0) : ∃ id' j' cap' t, acall R_Copy false [.ptr id 0] s = some (.ptr id' 0, t) ∧ AkR t id' j' cap' rep L ∧ s.next ≤ id' ∧ s.next ≤ j' ∧ Keep s t := by
  obtain ⟨r, t, h1, ⟨id', j', cap', rfl, h2, h4, h5⟩, h3⟩ := run_any (s := s) n_Copy (args := [.ptr id 0]) (Q := fun r t => ∃ id' j' cap', r = .ptr id' 0 ∧ AkR t id' j' cap' rep L ∧ s.next ≤ id' ∧ s.next ≤ j') (by simp [a24]) (fun r t t' hg hn ⟨id', j', cap', e, h, h4, h5⟩ => ⟨id', j', cap', e, ⟨by rw [hg]; exact h.box, fun q => by rw [hg]; exact h.dat q, h.hcap, h.hn, by rw [hn]; exact h.jlt⟩, h4, h5⟩) (fun r t hgr hk ⟨id', j', cap', e, _⟩ => by
    rw [e] at hgr
    simp [AV.ground, AV.plain] at hgr) (w_Copy (s := lowd s) hk.low hr)
  exact ⟨id', j', cap', t, h1, h2, h4, h5, h3⟩

theorem sg_callf3 {call : Nat → List AV → St → Option (AV × St)} {base : Nat} {d : Option Nat} {r : Option Nat} {rest : List AOper} {Q : Env → St → Prop} {env : Env} {s : St} (f : Nat) (l : List AO) (t : Nat) (w : Bool) : awops call base (⟨d, .call f false l, some (t, w), r, true⟩ :: rest) Q env s = gcall s (E env t) w (acallF (call f) (l.map (aev env)) s) fun v t => awops call base rest Q (pE env d v) t := by
  rw [st_guard, st_callf]
  rfl
/-- The reference's disk: a list of blocks. -/
theorem NwB.put {v : AV} {L : List Nb} (h : NwB s t v L) {i : Nat} {x : Nb} (hx : L[i]? = some x) : ∃ j, iadV 4 v (.int .i64 (i : Int)) = some (.ptr j (i * 4)) ∧ s.next ≤ j ∧ ltN j t ∧ ∀ c : Int, ∃ bl L', AM.sto t 1 (.ptr j (i * 4 + 2)) (.int .i64 c) = some (.und, t.put j bl) ∧ L'.length = L.length ∧ NwB s (t.put j bl) v L' := by
  rcases h with ⟨_, rfl⟩ | ⟨j, cap, rfl, h0, h1, h2, h3⟩
  · simp at hx
  · have hi := getlt hx
    have hia : iadV 4 (.sl j 0 L.length cap 4) (.int .i64 (i : Int)) = some (.ptr j (0 + i * 4)) := iadV_nat hi
    rw [Nat.zero_add] at hia
    have hcl : (nbC.cells L).length = L.length * 4 := by rw [cells_len, nbC_sz]
    refine ⟨j, hia, h1, St.get_lt h2, fun c => ⟨.row (nbC.cells (L.set i { x with a := c })) true, L.set i { x with a := c }, ?_, by rw [List.length_set], .inr ⟨j, cap, by rw [List.length_set], ?_, h1, St.get_put_same h2, fun c' hc => by rw [List.length_set]; exact h3 c' hc⟩⟩⟩
    · simp only [AM.sto, h2]
      rw [if_pos ⟨rfl, rfl, by omega⟩]
      show some (AV.und, t.put j (.row (setAt (nbC.cells L) (i * 4 + 2) [.int .i64 c]) true)) = _
      rw [cells_set_a c hx]
    · intro e
      have := congrArg List.length e
      rw [List.length_set] at this
      simp at this
      exact h0 this
noncomputable def R_alike : Con := runFn (tb [(26, R_Repl), (14, R_Needed), (30, R_RNeeded), (31, R_RGet), (25, R_gets), (12, R_All), (18, R_same)]) a11
theorem s_alike : SoundAt Try.prog 11 R_alike := run_sound (tb_sound (l := [(26, R_Repl), (14, R_Needed), (30, R_RNeeded), (31, R_RGet), (25, R_gets), (12, R_All), (18, R_same)]) (by simpa using ⟨s_Repl, s_Needed, s_RNeeded, s_RGet, s_gets, s_All, s_same⟩)) mixed Try.func11 k11 c11
theorem n_alike : noNxtC a11.body = true := by kernel_rfl
theorem w_alike {s : St} {id j : Nat} {cap : Option Nat} {rep : Int} {L : List Nb} (hk : AkR s id j cap rep L) {ix jx : Nat} {capx : Option Nat} (hx : AkR s ix jx capx rep L) (hr : rep ≠ 0) (hs : SrtB L) : ∀ env : Env, elen env = a11.ntmps → (∀ i x_, [.ptr id 0, .ptr ix 0][i]? = some x_ → E env i = x_) → awp (tb [(26, R_Repl), (14, R_Needed), (30, R_RNeeded), (31, R_RGet), (25, R_gets), (12, R_All), (18, R_same)]) a11.body (fun x e t => (∀ i, x ≠ .exit i) ∧ aresults e t a11.results = some (.bool true) ∧ Keep s t) env s := by
  intro env hlen ha
  have h0 : E env 0 = _ := ha 0 _ rfl
  have h1 : E env 1 = _ := ha 1 _ rfl
  have hlen : elen env = _ := hlen
  simp only [a11] at hlen
  unfold a11
  try dsimp only [oO, oG]
  have hll := hk.hn
  have q1 := q_Repl true hk
  have q2 := q_Needed false hk hr
  have q3 := q_RNeeded false hx
  obtain ⟨b0, b1, blt⟩ := row2_lod hx.box
  simp (config := {contextual := true, maxDischargeDepth := 12}) only [tb_at, h0, h1, hlen, q1, q2, q3, b0, b1, blt, nchkV_ptr, reserve0, decide_true, decide_false, Bool.not_true, Bool.not_false, bin_eql, bin_neq, notV_bool, pickV_t, pickV_f, gcall_tt, gpure_tf, Bool.and_self, beq_self_eq_true, bin_np, bin_npn, bin_npx, ↓bD, bU, forall_const, bS, implies_true, isNx, eq_self, ↓wp_cond, ↓wp_loop, ↓reduceIte, reduceCtorEq, Nat.reduceEqDiff, Nat.reduceLT, Nat.reduceAdd, Nat.reduceMul, bT, ↓sg_bsl, ↓st_callf, bX, ap_mkfn, ap_conv, ↓wi_seq, ↓wi_base, ↓wi_block, ↓wi_cond, ↓wi_loop, ↓wi_rf, ↓wy_seq, ↓wy_base, ↓wy_block, ↓wy_cond, ↓wy_loop, ↓wy_yld, bin_shr1, q_known, ae_callvV, callvV_fn, List.append_nil, List.cons_append, List.nil_append, fs40, fs41, mmV_max2, ↓sg_callf3]
  obtain ⟨I, hI⟩ : ∃ I : Nat → Env → St → Prop, ∀ n0 e w_, I n0 e w_ = (Keep s w_ ∧ ∃ k : Nat, n0 + k = 68 ∧ elen e = 70 ∧ E e 0 = .ptr id 0 ∧ E e 1 = .ptr ix 0 ∧ E e 5 = .int .i64 ((k : Int) - 1)) := ⟨fun n0 e w_ => (Keep s w_ ∧ ∃ k : Nat, n0 + k = 68 ∧ elen e = 70 ∧ E e 0 = .ptr id 0 ∧ E e 1 = .ptr ix 0 ∧ E e 5 = .int .i64 ((k : Int) - 1)), fun _ _ _ => rfl⟩
  refine lwp_inv I (n := 68) ?_ ?_
  · rw [hI]
    exact ⟨.refl s, 0, rfl, (by simp only [bE, Nat.reduceEqDiff, bN, Nat.reduceLT, hlen]; try rfl), (by simp only [bE, Nat.reduceEqDiff, bN, Nat.reduceLT, hlen, h0]; try rfl), (by simp only [bE, Nat.reduceEqDiff, bN, Nat.reduceLT, hlen, h1]; try rfl), (by simp only [bE, Nat.reduceEqDiff, bN, Nat.reduceLT, hlen]; try rfl)⟩
  clear h0 h1 hlen q1 q2 q3 b0 b1 blt
  intro n0 e w_ hi
  rw [hI] at hi
  obtain ⟨hK, k, hnk, he, e0, e1, e5⟩ := hi
  by_cases hlt : k < 68
  · have z1 := eq_true (show (k : Int) - 1 ≤ 66 by omega)
    have hw : IntKind.i64.wrap ((k : Int) - 1 + 1) = ((k + 1 : Nat) : Int) - 1 := by
      rw [show (k : Int) - 1 + 1 = ((k + 1 : Nat) : Int) - 1 by omega]
      exact wrapI (by omega) (by omega)
    have qg := q_RGet false (hx.keep hK) ((k : Int) - 1)
    have hs4 : AM.sto (w_.push (.row [.int .i64 0, .int .i64 0, .int .i64 0, .int .i64 0] true)) 4 (.ptr w_.next 0) (.agg (Nb.av (getP L ((k : Int) - 1)).1)) = some (.und, w_.lowed.push (.row (Nb.av (getP L ((k : Int) - 1)).1) true)) := sto_z4 (show sameN w_.next w_ from rfl) _ _ _ _ _ rfl
    have hKz : Keep w_ (w_.lowed.push (.row (Nb.av (getP L ((k : Int) - 1)).1) true)) := (Keep.refl w_).lowed.push _
    obtain ⟨r0, rlt⟩ := row4_lods (St.get_push_new w_.lowed (.row (Nb.av (getP L ((k : Int) - 1)).1) true))
    have r0 : lod (w_.lowed.push (.row (Nb.av (getP L ((k : Int) - 1)).1) true)) 4 (.ptr w_.next 0) = some (.agg (Nb.av (getP L ((k : Int) - 1)).1)) := r0
    have rlt : ltN w_.next (w_.lowed.push (.row (Nb.av (getP L ((k : Int) - 1)).1) true)) := rlt
    have hK2 := hK.trans hKz
    have qs := q_gets false (hk.keep hK2) hr hs ((k : Int) - 1) (getP L ((k : Int) - 1)).1 (getP L ((k : Int) - 1)).2
    rw [decide_eq_true rfl, decide_eq_true rfl] at qs
    simp (config := {contextual := true, maxDischargeDepth := 12}) only [tb_at, he, e0, e1, e5, z1, hw, qg, hs4, r0, rlt, qs, decide_true, decide_false, Bool.not_true, Bool.not_false, bin_eql, bin_neq, notV_bool, pickV_t, pickV_f, gcall_tt, gpure_tf, Bool.and_self, beq_self_eq_true, bin_np, bin_npn, bin_npx, ↓bD, bU, forall_const, bS, implies_true, isNx, eq_self, ↓wp_cond, ↓wp_loop, ↓reduceIte, reduceCtorEq, Nat.reduceEqDiff, Nat.reduceLT, Nat.reduceAdd, Nat.reduceMul, bT, ↓sg_bsl, ↓st_callf, bX, ap_mkfn, ap_conv, ↓wi_seq, ↓wi_base, ↓wi_block, ↓wi_cond, ↓wi_loop, ↓wi_rf, ↓wy_seq, ↓wy_base, ↓wy_block, ↓wy_cond, ↓wy_loop, ↓wy_yld, bin_shr1, q_known, ae_callvV, callvV_fn, List.append_nil, List.cons_append, List.nil_append, fs40, fs41, mmV_max2, ↓sg_callf3]
    refine ⟨n0 - 1, by omega, ?_⟩
    rw [hI]
    exact ⟨hK2, k + 1, by omega, (by simp only [bE, Nat.reduceEqDiff, bN, Nat.reduceLT, he, e0, e1, e5]; try rfl), (by simp only [bE, Nat.reduceEqDiff, bN, Nat.reduceLT, he, e0, e1, e5]; try rfl), (by simp only [bE, Nat.reduceEqDiff, bN, Nat.reduceLT, he, e0, e1, e5]; try rfl), (by simp only [bE, Nat.reduceEqDiff, bN, Nat.reduceLT, he, e0, e1, e5]; try rfl)⟩
  obtain rfl : k = 68 := by omega
  have z1 := eq_false (show ¬ ((68 : Nat) : Int) - 1 ≤ 66 by omega)
  obtain ⟨v, u, qa, hN, hKu⟩ := q_All (hk.keep hK) hr
  have hKsu := hK.trans hKu
  obtain ⟨b0, b1, blt⟩ := row2_lod (hx.keep hKsu).box
  have qs := q_same false hN.read (hx.keep hKsu).rd (by omega)
  rw [decide_eq_true rfl] at qs
  simp (config := {contextual := true, maxDischargeDepth := 12}) only [tb_at, he, e0, e1, e5, z1, qa, b0, b1, blt, nchkV_ptr, qs, decide_true, decide_false, Bool.not_true, Bool.not_false, bin_eql, bin_neq, notV_bool, pickV_t, pickV_f, gcall_tt, gpure_tf, Bool.and_self, beq_self_eq_true, bin_np, bin_npn, bin_npx, ↓bD, bU, forall_const, bS, implies_true, isNx, eq_self, ↓wp_cond, ↓wp_loop, ↓reduceIte, reduceCtorEq, Nat.reduceEqDiff, Nat.reduceLT, Nat.reduceAdd, Nat.reduceMul, bT, ↓sg_bsl, ↓st_callf, bX, ap_mkfn, ap_conv, ↓wi_seq, ↓wi_base, ↓wi_block, ↓wi_cond, ↓wi_loop, ↓wi_rf, ↓wy_seq, ↓wy_base, ↓wy_block, ↓wy_cond, ↓wy_loop, ↓wy_yld, bin_shr1, q_known, ae_callvV, callvV_fn, List.append_nil, List.cons_append, List.nil_append, fs40, fs41, mmV_max2, ↓sg_callf3]
  have hbase : ∃ wb, wb = w_ := ⟨_, rfl⟩
  obtain ⟨wb, hwb⟩ := hbase
  rw [← hwb] at hN
  have hKwu : Keep wb u := by rw [hwb]; exact hKu
  have hKsb : Keep s wb := by rw [hwb]; exact hK
  have hwl : v.one = true := hN.one.2
  clear hI hK qa qs b0 b1 blt
  obtain ⟨J, hJ⟩ : ∃ J : Nat → Env → St → Prop, ∀ n0 e y_, J n0 e y_ = (∃ L2 : List Nb, Keep wb y_ ∧ NwB wb y_ v L2 ∧ L2.length = L.length ∧ ∃ k : Nat, n0 + k = L.length ∧ elen e = 70 ∧ E e 0 = .ptr id 0 ∧ E e 1 = .ptr ix 0 ∧ E e 8 = v ∧ E e 9 = .int .i64 (k : Int)) := ⟨fun n0 e y_ => (∃ L2 : List Nb, Keep wb y_ ∧ NwB wb y_ v L2 ∧ L2.length = L.length ∧ ∃ k : Nat, n0 + k = L.length ∧ elen e = 70 ∧ E e 0 = .ptr id 0 ∧ E e 1 = .ptr ix 0 ∧ E e 8 = v ∧ E e 9 = .int .i64 (k : Int)), fun _ _ _ => rfl⟩
  refine lwp_inv J (n := L.length) ?_ ?_
  · rw [hJ]
    exact ⟨L, hKwu, hN, rfl, 0, by omega, (by simp only [bE, Nat.reduceEqDiff, bN, Nat.reduceLT, he, e0, e1, e5]; try rfl), (by simp only [bE, Nat.reduceEqDiff, bN, Nat.reduceLT, he, e0, e1, e5]; try rfl), (by simp only [bE, Nat.reduceEqDiff, bN, Nat.reduceLT, he, e0, e1, e5]; try rfl), (by simp only [bE, Nat.reduceEqDiff, bN, Nat.reduceLT, he, e0, e1, e5]; try rfl), (by simp only [bE, Nat.reduceEqDiff, bN, Nat.reduceLT, he, e0, e1, e5]; try rfl)⟩
  clear he e0 e1 e5
  intro n0 e y_ hi
  rw [hJ] at hi
  obtain ⟨L2, hKy, hN2, hl2, k, hnk, he, e0, e1, e8, e9⟩ := hi
  have hKsy := hKsb.trans hKy
  by_cases hlt : k < L.length
  · obtain ⟨z, hz⟩ := getsome (show k < L2.length by omega)
    have z1 := eq_true (show (k : Int) < (L.length : Int) by omega)
    have hw := wrap_add1 (n := k) (by omega)
    have hlv : lenV v = some (.int .i64 (L.length : Int)) := by rw [← hl2]; exact lenV_read hN2.read
    obtain ⟨j2, qi, hj2, hlt2, hsto⟩ := hN2.put hz
    obtain ⟨bl, L3, qs, hl3, hN3⟩ := hsto 77
    have hK3 : Keep wb (y_.put j2 bl) := hKy.put _ hj2 hlt2
    simp (config := {contextual := true, maxDischargeDepth := 12}) only [tb_at, he, e0, e1, e8, e9, z1, hw, hlv, qi, qs, hwl, decide_true, decide_false, Bool.not_true, Bool.not_false, bin_eql, bin_neq, notV_bool, pickV_t, pickV_f, gcall_tt, gpure_tf, Bool.and_self, beq_self_eq_true, bin_np, bin_npn, bin_npx, ↓bD, bU, forall_const, bS, implies_true, isNx, eq_self, ↓wp_cond, ↓wp_loop, ↓reduceIte, reduceCtorEq, Nat.reduceEqDiff, Nat.reduceLT, Nat.reduceAdd, Nat.reduceMul, bT, ↓sg_bsl, ↓st_callf, bX, ap_mkfn, ap_conv, ↓wi_seq, ↓wi_base, ↓wi_block, ↓wi_cond, ↓wi_loop, ↓wi_rf, ↓wy_seq, ↓wy_base, ↓wy_block, ↓wy_cond, ↓wy_loop, ↓wy_yld, bin_shr1, q_known, ae_callvV, callvV_fn, List.append_nil, List.cons_append, List.nil_append, fs40, fs41, mmV_max2, ↓sg_callf3]
    refine ⟨n0 - 1, by omega, ?_⟩
    rw [hJ]
    exact ⟨L3, hK3, hN3, by omega, k + 1, by omega, (by simp only [bE, Nat.reduceEqDiff, bN, Nat.reduceLT, he, e0, e1, e8, e9]; try rfl), (by simp only [bE, Nat.reduceEqDiff, bN, Nat.reduceLT, he, e0, e1, e8, e9]; try rfl), (by simp only [bE, Nat.reduceEqDiff, bN, Nat.reduceLT, he, e0, e1, e8, e9]; try rfl), (by simp only [bE, Nat.reduceEqDiff, bN, Nat.reduceLT, he, e0, e1, e8, e9]; try rfl), (by simp only [bE, Nat.reduceEqDiff, bN, Nat.reduceLT, he, e0, e1, e8, e9]; try rfl)⟩
  obtain rfl : k = L.length := by omega
  have z1 := eq_false (show ¬ (L.length : Int) < (L.length : Int) by omega)
  have hlv : lenV v = some (.int .i64 (L.length : Int)) := by rw [← hl2]; exact lenV_read hN2.read
  obtain ⟨v2, u2, qa, hN4, hKu2⟩ := q_AllF (hk.keep hKsy) hr
  obtain ⟨b0, b1, blt⟩ := row2_lod (hx.keep (hKsy.trans hKu2)).box
  have qs := q_same false hN4.read (hx.keep (hKsy.trans hKu2)).rd (by omega)
  rw [decide_eq_true rfl] at qs
  have hKf := hKsy.trans hKu2
  simp (config := {contextual := true, maxDischargeDepth := 12}) only [tb_at, he, e0, e1, e8, e9, z1, hlv, qa, b0, b1, blt, nchkV_ptr, qs, decide_true, decide_false, Bool.not_true, Bool.not_false, bin_eql, bin_neq, notV_bool, pickV_t, pickV_f, gcall_tt, gpure_tf, Bool.and_self, beq_self_eq_true, bin_np, bin_npn, bin_npx, ↓bD, bU, forall_const, bS, implies_true, isNx, eq_self, ↓wp_cond, ↓wp_loop, ↓reduceIte, reduceCtorEq, Nat.reduceEqDiff, Nat.reduceLT, Nat.reduceAdd, Nat.reduceMul, bT, ↓sg_bsl, ↓st_callf, bX, ap_mkfn, ap_conv, ↓wi_seq, ↓wi_base, ↓wi_block, ↓wi_cond, ↓wi_loop, ↓wi_rf, ↓wy_seq, ↓wy_base, ↓wy_block, ↓wy_cond, ↓wy_loop, ↓wy_yld, bin_shr1, q_known, ae_callvV, callvV_fn, List.append_nil, List.cons_append, List.nil_append, fs40, fs41, mmV_max2, ↓sg_callf3]
  all_goals first | exact hKf | skip
theorem q_alike (cl : Bool) {s : St} {id j : Nat} {cap : Option Nat} {rep : Int} {L : List Nb} (hk : AkR s id j cap rep L) {ix jx : Nat} {capx : Option Nat} (hx : AkR s ix jx capx rep L) (hr : rep ≠ 0) (hs : SrtB L) : acall R_alike cl [.ptr id 0, .ptr ix 0] s = some (.bool true, s) := run_same n_alike (by simp [a11]) rfl (w_alike (s := lowd s) hk.low hx.low hr hs)

end Go.AM
end
/-
  What a replica knows at first: New of both sides. Own work of this project; in part printed by a program of it.
-/
section
set_option maxRecDepth 100000
set_option maxHeartbeats 8000000
namespace Go.AM
open Go Go.Proofs

variable {s t u : St}

/-! ### Plain: which lists are allowed -/
def nbI (n : Int) : Nb := ⟨n, 0, 0, 0⟩
def okL (own : Int) (l : List Int) : Prop := (1 ≤ own ∧ own ≤ 64) ∧ (∀ x ∈ l, (1 ≤ x ∧ x ≤ 64) ∧ x ≠ own) ∧ l.Nodup
def fI (l : List Int) : Nat → List Int
  | 0 => []
  | k + 1 => if l.count ((k : Int) + 1) = 1 then fI l k ++ [(k : Int) + 1] else fI l k
theorem fI_mem {l : List Int} {x : Int} : ∀ {k : Nat}, x ∈ fI l k ↔ (1 ≤ x ∧ x ≤ (k : Int)) ∧ l.count x = 1
  | 0 => by
    simp [fI]
    intro h1 h2
    omega
  | k + 1 => by
    unfold fI
    by_cases h : l.count ((k : Int) + 1) = 1
    · rw [if_pos h, List.mem_append, fI_mem, List.mem_singleton]
      constructor
      · rintro (⟨⟨h1, h2⟩, h3⟩ | rfl)
        · exact ⟨⟨h1, by omega⟩, h3⟩
        · exact ⟨⟨by omega, by omega⟩, h⟩
      · rintro ⟨⟨h1, h2⟩, h3⟩
        by_cases hx : x = (k : Int) + 1
        · exact .inr hx
        · exact .inl ⟨⟨h1, by omega⟩, h3⟩
    · rw [if_neg h, fI_mem]
      constructor
      · rintro ⟨⟨h1, h2⟩, h3⟩
        exact ⟨⟨h1, by omega⟩, h3⟩
      · rintro ⟨⟨h1, h2⟩, h3⟩
        refine ⟨⟨h1, ?_⟩, h3⟩
        by_cases hx : x = (k : Int) + 1
        · subst hx
          exact absurd h3 h
        · omega
theorem fI_asc (l : List Int) : ∀ k, (fI l k).Pairwise (· < ·)
  | 0 => .nil
  | k + 1 => by
    unfold fI
    split
    · rw [List.pairwise_append]
      refine ⟨fI_asc l k, by simp, fun a ha b hb => ?_⟩
      rw [List.mem_singleton] at hb
      have := (fI_mem.1 ha).1.2
      omega
    · exact fI_asc l k
theorem asc_nodup {l : List Int} (h : l.Pairwise (· < ·)) : l.Nodup := h.imp fun {a b} q e => by omega
theorem sub_perm : ∀ (f l : List Int), f.Nodup → (∀ x ∈ f, x ∈ l) → f.length = l.length → f.Perm l
  | [], l, _, _, h => by
    have : l = [] := List.length_eq_zero_iff.1 h.symm
    rw [this]
  | x :: f, l, hd, hm, h => by
    have hx := hm x (by simp)
    have hp := List.perm_cons_erase hx
    rw [List.nodup_cons] at hd
    refine .trans (.cons x (sub_perm f (l.erase x) hd.2 (fun y hy => ?_) ?_)) hp.symm
    · exact (List.mem_erase_of_ne fun e => hd.1 (by rw [← e]; exact hy)).2 (hm y (by simp [hy]))
    · rw [List.length_erase_of_mem hx]
      simp at h
      omega
theorem ok_fI {own : Int} {l : List Int} (h : okL own l) : fI l 64 = sortI l := by
  obtain ⟨_, h2, h3⟩ := h
  have hf := fI_asc l 64
  have hp : (fI l 64).Perm l := by
    refine (List.perm_ext_iff_of_nodup (asc_nodup hf) h3).2 fun x => ?_
    rw [fI_mem]
    constructor
    · rintro ⟨_, hc⟩
      exact List.count_pos_iff.1 (by omega)
    · intro hx
      refine ⟨(h2 x hx).1, ?_⟩
      have h1 := List.count_pos_iff.2 hx
      have h4 := List.nodup_iff_count.1 h3 x
      omega
  exact int_sorted_unique _ _ (hp.trans (sortI_perm l).symm) (hf.imp fun {a b} q => by omega) (sortI_sorted l)
theorem fI_ok {own : Int} {l : List Int} (h0 : 1 ≤ own ∧ own ≤ 64) (h1 : ∀ n : Int, 1 ≤ n → n ≤ 64 → ¬ (l.count n = 1 ∧ n = own)) (h2 : (fI l 64).length = l.length) : okL own l := by
  have hp := sub_perm _ _ (asc_nodup (fI_asc l 64)) (fun x hx => List.count_pos_iff.1 (by have := (fI_mem.1 hx).2; omega)) h2
  refine ⟨h0, fun x hx => ?_, hp.nodup_iff.1 (asc_nodup (fI_asc l 64))⟩
  obtain ⟨k1, k2⟩ := fI_mem.1 (hp.mem_iff.2 hx)
  exact ⟨k1, fun e => h1 x k1.1 k1.2 ⟨k2, e⟩⟩
theorem asc_snoc {l : List Int} {k : Nat} {b : Int} (h : (l.take k).Pairwise (· < ·)) (hb : l[k]? = some b) (hc : ∀ c, 0 < k → l[k - 1]? = some c → c < b) : (l.take (k + 1)).Pairwise (· < ·) := by
  rw [List.take_add_one, hb]
  show (l.take k ++ [b]).Pairwise _
  cases k with
  | zero => simp
  | succ k =>
    obtain ⟨c, hck⟩ := getsome (show k < l.length by have := getlt hb; omega)
    have hcb := hc c (by omega) hck
    rw [List.pairwise_append]
    refine ⟨h, by simp, fun a ha d hd => ?_⟩
    rw [List.mem_singleton] at hd
    subst hd
    rw [List.take_add_one, hck] at h ha
    replace h : (l.take k ++ [c]).Pairwise (· < ·) := h
    replace ha : a ∈ l.take k ++ [c] := ha
    rw [List.pairwise_append] at h
    rcases List.mem_append.1 ha with q | q
    · have := h.2.2 a q c (by simp)
      omega
    · rw [List.mem_singleton] at q
      omega
theorem sorted_le {l : List Int} (h : l.Pairwise (· ≤ ·)) {i j : Nat} {a b : Int} (ha : l[i]? = some a) (hb : l[j]? = some b) (hij : i < j) : a ≤ b := by
  have hi := getlt ha
  have hj := getlt hb
  have := List.pairwise_iff_getElem.1 h i j hi hj hij
  rw [List.getElem?_eq_getElem hi] at ha
  rw [List.getElem?_eq_getElem hj] at hb
  injection ha with ha
  injection hb with hb
  omega
theorem nodup_ne {l : List Int} (h : l.Nodup) {i j : Nat} {a : Int} (ha : l[i]? = some a) (hb : l[j]? = some a) (hij : i < j) : False := by
  have hi := getlt ha
  have hj := getlt hb
  have := List.pairwise_iff_getElem.1 h i j hi hj hij
  rw [List.getElem?_eq_getElem hi] at ha
  rw [List.getElem?_eq_getElem hj] at hb
  injection ha with ha
  injection hb with hb
  exact this (by omega)
theorem okL_sort {own : Int} {l : List Int} (h0 : 1 ≤ own ∧ own ≤ 64) (h1 : ∀ x ∈ sortI l, (1 ≤ x ∧ x ≤ 64) ∧ x ≠ own) (h2 : (sortI l).Pairwise (· < ·)) : okL own l :=
  ⟨h0, fun x hx => h1 x ((sortI_perm l).mem_iff.2 hx), (sortI_perm l).nodup_iff.1 (asc_nodup h2)⟩
theorem okL_srt {own : Int} {l : List Int} (h : okL own l) : SrtB ((sortI l).map nbI) := by
  unfold SrtB
  rw [List.pairwise_map]
  have hd := (sortI_perm l).nodup_iff.2 h.2.2
  have := (sortI_sorted l).and hd
  exact this.imp fun {a b} q => by
    have h1 := q.1
    have h2 := q.2
    show a < b
    omega
/-! ### Memory -/
theorem appV_oneC {β : Type} {C : Cod β} {M : List Nat} {s t : St} {v : AV} {l : List β} (hK : Chg M s t) (hO : Own C s t v l) (x : β) (bytes : Nat) (hb : (l.length + 1) * bytes ≤ roomBytes) :
    ∃ v' t', appV (t.push (.row (C.enc x) true)) C.sz bytes v (.sl t.next 0 1 (some 1) C.sz) = some (v', t') ∧ Chg M s t' ∧ Own C s t' v' (l ++ [x]) := by
  have hr : read C (t.push (.row (C.enc x) true)) (.sl t.next 0 1 (some 1) C.sz) = some [x] := by
    refine read_of rfl (St.get_push_new _ _) (by simp [C.len]) ?_
    rw [cells_one, List.drop_zero, Nat.one_mul, ← C.len x]
    simp
  have hK' := hK.push (.row (C.enc x) true)
  rcases hO.push (.row (C.enc x) true) with ⟨rfl, rfl⟩ | ⟨j, rfl, h0, h1, h⟩
  · refine ⟨.sl (t.push (.row (C.enc x) true)).next 0 1 none C.sz, (t.push (.row (C.enc x) true)).push (.row (C.enc x) true), ?_, hK'.push _, .inr ⟨(t.push (.row (C.enc x) true)).next, by simp, by simp, hK'.next, ?_⟩⟩
    · simp only [appV, read_shown hr, read_len hr, aappend]
      rw [if_neg (by simp), if_pos (by simpa using hb), cells_one]
      rfl
    · rw [List.nil_append, cells_one]
      exact St.get_push_new _ _
  · refine ⟨.sl (t.push (.row (C.enc x) true)).next 0 (l.length + 1) none C.sz, ((t.push (.row (C.enc x) true)).put j .dead).push (.row (C.cells (l ++ [x])) true), ?_, (hK'.put .dead (.inr h1) (St.get_lt h)).push _, .inr ⟨(t.push (.row (C.enc x) true)).next, by simp, by simp, hK'.next, by simpa using St.get_push_new ((t.push (.row (C.enc x) true)).put j .dead) _⟩⟩
    simp only [appV, read_shown hr, read_len hr, aappend, if_true, h]
    rw [if_neg (by simp), if_pos ⟨by simp [cells_len], by simpa using hb⟩]
    have e : (C.cells l).take (l.length * C.sz) = C.cells l := by rw [← cells_len]; simp
    rw [List.drop_zero, e, cells_append]
    rfl
theorem read_chg {β : Type} {C : Cod β} {M : List Nat} {v : AV} {l : List β} (h : AM.read C s v = some l) (hC : Chg M s t) (hm : v = .nils ∨ bid v ∉ M) : AM.read C t v = some l := by
  cases v with
  | nils => exact h
  | sl id off n cap z =>
    obtain ⟨rfl, hn, cs, own, hg, h1, h2, _⟩ := read_sl h
    rcases hm with q | q
    · cases q
    · exact read_of hn (hC.blk hg q) h1 h2
  | _ => simp [AM.read] at h
theorem Own.nwb {v : AV} {L : List Nb} (h : Own nbC s t v L) : NwB s t v L := by
  rcases h with q | ⟨j, rfl, h0, h1, h2⟩
  · exact .inl q
  · exact .inr ⟨j, none, rfl, h0, h1, h2, fun c hc => by cases hc⟩
theorem own_one {C : Cod Nb} {v : AV} {L : List Nb} (h : Own C s t v L) : v.cells = [v] ∧ v.one = true := by
  rcases h with ⟨rfl, _⟩ | ⟨j, rfl, _⟩ <;> exact ⟨rfl, rfl⟩
theorem own_away {C : Cod Nb} {v : AV} {L : List Nb} {id : Nat} (h : Own C s t v L) (hid : id < s.next) : ∀ o n c z, v ≠ .sl id o n c z := by
  rcases h with ⟨rfl, _⟩ | ⟨j, rfl, _, h1, _⟩
  · intro o n c z e; cases e
  · intro o n c z e
    injection e with e
    omega
/-- One more of them behind the list of a box. -/
theorem box_app {ib : Nat} {own : Int} {w : AV} {L : List Nb} (hC : Chg [ib] s t) (hb : t.get ib = some (.row [.int .i64 own, w] true)) (hib : ib < s.next) (hO : Own nbC s t w L) (x : Nb) (hl : L.length < 1000) :
    ∃ w' u', appV (t.push (.row (Nb.av x) true)) 4 32 w (.sl t.next 0 1 (some 1) 4) = some (w', u') ∧ AM.sto u' 1 (.ptr ib 1) w' = some (.und, u'.put ib (.row [.int .i64 own, w'] true)) ∧ ltN ib u' ∧ Chg [ib] s (u'.put ib (.row [.int .i64 own, w'] true)) ∧ (u'.put ib (.row [.int .i64 own, w'] true)).get ib = some (.row [.int .i64 own, w'] true) ∧ Own nbC s (u'.put ib (.row [.int .i64 own, w'] true)) w' (L ++ [x]) := by
  obtain ⟨w', u', h1, h2, h3⟩ := appV_oneC hC hO x 32 (by unfold roomBytes; omega)
  have h1 : appV (t.push (.row (Nb.av x) true)) 4 32 w (.sl t.next 0 1 (some 1) 4) = some (w', u') := h1
  have hb' : u'.get ib = some (.row [.int .i64 own, w] true) := appV_frame h1 (own_away hO hib) (get_push_some _ hb)
  have h4 := own_one h3
  have hlt := St.get_lt hb'
  refine ⟨w', u', h1, (row2_sto hb' h4.1 h4.2).2, hlt, h2.put _ (.inl (by simp)) hlt, St.get_put_same hb', ?_⟩
  rcases h3 with q | ⟨j, q, h5, h6, h7⟩
  · exact .inl q
  · refine .inr ⟨j, q, h5, h6, ?_⟩
    rw [St.get_put_ne _ _ hlt (by omega)]
    exact h7

end Go.AM
end
/-
  New of the program. Own work of this project; in part printed by a program of it.
-/
section
set_option maxRecDepth 100000
set_option maxHeartbeats 8000000
namespace Go.AM
open Go Go.Proofs

variable {s t u : St}

theorem w_Values {s : St} {v : AV} {l : List Int} (hr : AM.read inC s v = some l) : ∀ env : Env, elen env = a29.ntmps → (∀ i x_, [v][i]? = some x_ → E env i = x_) → awp (tb []) a29.body (fun x e t => (∀ i, x ≠ .exit i) ∧ ∃ r, aresults e t a29.results = some r ∧ (∃ p, r = .fn 40 [.ptr p 0] ∧ t.get p = some (.row [v] true) ∧ s.next ≤ p) ∧ Keep s t) env s := by
  intro env hlen ha
  have h0 : E env 0 = _ := ha 0 _ rfl
  have hlen : elen env = _ := hlen
  simp only [a29] at hlen
  unfold a29
  try dsimp only [oO, oG]
  try dsimp only [oO, oG]
  have hbx : boxV 1 v = some (fun id => .ptr id 0, .row [v] true) := by
    cases v with
    | nils => rfl
    | sl => rfl
    | _ => simp [AM.read] at hr
  have hg := St.get_push_new s (.row [v] true)
  have hK : Keep s (s.push (.row [v] true)) := (Keep.refl s).push _
  simp (config := {contextual := true, maxDischargeDepth := 12}) only [tb_at, h0, hlen, hbx, ↓bD, bU, forall_const, bS, implies_true, isNx, eq_self, ↓wp_cond, ↓wp_loop, ↓reduceIte, reduceCtorEq, Nat.reduceEqDiff, Nat.reduceLT, Nat.reduceAdd, Nat.reduceMul, bT, ↓sg_bsl, ↓st_callf, bX, ap_mkfn, ap_conv, ↓wi_seq, ↓wi_base, ↓wi_block, ↓wi_cond, ↓wi_loop, ↓wi_rf, ↓wy_seq, ↓wy_base, ↓wy_block, ↓wy_cond, ↓wy_loop, ↓wy_yld, bin_shr1, q_known, ae_callvV, callvV_fn, List.append_nil, List.cons_append, List.nil_append, fs40, fs41, mmV_max2, ↓sg_callf3]
  all_goals first | exact ⟨_, rfl, ⟨_, rfl, hg, Nat.le_refl _⟩, hK⟩ | exact ⟨_, rfl, _, rfl, hg, Nat.le_refl _⟩ | skip
theorem q_Values {s : St} {v : AV} {l : List Int} (hr : AM.read inC s v = some l) : ∃ p t, acall R_Values false [v] s = some (.fn 40 [.ptr p 0], t) ∧ t.get p = some (.row [v] true) ∧ Keep s t := by
  obtain ⟨r, t, h1, ⟨p, rfl, h2, _⟩, h3⟩ := run_any (s := s) n_Values (args := [v]) (Q := fun r t => ∃ p, r = .fn 40 [.ptr p 0] ∧ t.get p = some (.row [v] true) ∧ s.next ≤ p) (by simp [a29]) (fun r t t' hg hn ⟨p, e, h, h4⟩ => ⟨p, e, by rw [hg]; exact h, h4⟩) (fun r t hgr hk ⟨p, e, _⟩ => by
    rw [e] at hgr
    simp [AV.ground, AV.plain, AV.plains] at hgr) (w_Values (s := lowd s) (read_low' hr))
  exact ⟨p, t, h1, h2, h3⟩
noncomputable def R_New : Con := runFn (tb [(27, R_repl), (29, R_Values), (28, conF inC pSrt)]) a9
theorem s_New : SoundAt Try.prog 9 R_New := run_sound (tb_sound (l := [(27, R_repl), (29, R_Values), (28, conF inC pSrt)]) (by simpa using ⟨s_repl, s_Values, s_Srt⟩)) mixed Try.func9 k9 c9
theorem n_New : noNxtC a9.body = true := by kernel_rfl
theorem w_New {s : St} {nv : AV} {own : Int} {l : List Int} (hr : AM.read inC s nv = some l) (hl : l.length ≤ 100) : ∀ env : Env, elen env = a9.ntmps → (∀ i x_, [.int .i64 own, nv][i]? = some x_ → E env i = x_) → awp (tb [(27, R_repl), (29, R_Values), (28, conF inC pSrt)]) a9.body (fun x e t => (∀ i, x ≠ .exit i) ∧ ∃ r, aresults e t a9.results = some r ∧ ((okL own l → ∃ id j cap, r = .tup [.ptr id 0, .int .i64 0] ∧ AkR t id j cap own ((sortI l).map nbI) ∧ s.next ≤ id ∧ s.next ≤ j) ∧ (¬ okL own l → r = .tup [.nilp, .int .i64 2])) ∧ Keep s t) env s := by
  intro env hlen ha
  have h0 : E env 0 = _ := ha 0 _ rfl
  have h1 : E env 1 = _ := ha 1 _ rfl
  have hlen : elen env = _ := hlen
  simp only [a9] at hlen
  unfold a9
  try dsimp only [oO, oG]
  have q1 := q_repl false own (s := s)
  by_cases h0w : 1 ≤ own ∧ own ≤ 64
  rotate_left
  · have hno : ¬ okL own l := fun q => h0w q.1
    have hf : (decide (1 ≤ own) && decide (own ≤ 64)) = false := by
      rw [← Bool.decide_and]
      exact decide_eq_false h0w
    rw [hf] at q1
    have hKK := Keep.refl s
    simp (config := {contextual := true, maxDischargeDepth := 12}) only [tb_at, h0, h1, hlen, q1, decide_true, decide_false, Bool.not_true, Bool.not_false, bin_eql, bin_neq, ↓bD, bU, forall_const, bS, implies_true, isNx, eq_self, ↓wp_cond, ↓wp_loop, ↓reduceIte, reduceCtorEq, Nat.reduceEqDiff, Nat.reduceLT, Nat.reduceAdd, Nat.reduceMul, bT, ↓sg_bsl, ↓st_callf, bX, ap_mkfn, ap_conv, ↓wi_seq, ↓wi_base, ↓wi_block, ↓wi_cond, ↓wi_loop, ↓wi_rf, ↓wy_seq, ↓wy_base, ↓wy_block, ↓wy_cond, ↓wy_loop, ↓wy_yld, bin_shr1, q_known, ae_callvV, callvV_fn, List.append_nil, List.cons_append, List.nil_append, fs40, fs41, mmV_max2, ↓sg_callf3]
    all_goals first | exact ⟨_, rfl, ⟨fun q => absurd q hno, fun _ => rfl⟩, hKK⟩ | exact ⟨_, rfl, fun q => absurd q hno, fun _ => rfl⟩ | exact ⟨⟨fun q => absurd q hno, fun _ => rfl⟩, hKK⟩ | exact ⟨fun q => absurd q hno, fun _ => rfl⟩ | skip
  have ht : (decide (1 ≤ own) && decide (own ≤ 64)) = true := by
    rw [← Bool.decide_and]
    exact decide_eq_true h0w
  rw [ht] at q1
  have f0 := fsb0 (.int .i64 own) ⟨rfl, rfl⟩ (.int .i64 0) .nils
  have hbx := boxV_2b (a := .int .i64 own) (b := .nils) rfl rfl
  have hK0 : Keep s (s.push (.row [.int .i64 own, .nils] true)) := (Keep.refl s).push _
  have hg0 := St.get_push_new s (.row [.int .i64 own, .nils] true)
  obtain ⟨p, u1, q2, hp, hK1⟩ := q_Values (hK0.read hr)
  obtain ⟨lv, u, q3, hK2, hO1⟩ := acall_fresh (D := inC) (pSrt_low hp ((hK0.trans hK1).read hr) (by omega)) (fun x hx => by cases hx)
  have q3 : acall (conF inC pSrt) false [.fn 40 [.ptr p 0]] u1 = some (lv, u) := q3
  have hg1 := (hK1.trans hK2).blk hg0
  have hKu := (hK0.trans hK1).trans hK2
  have hlS := sortI_len l
  have hlv := lenV_read hO1.read
  simp (config := {contextual := true, maxDischargeDepth := 12}) only [tb_at, h0, h1, hlen, q1, ap_build, fillP_nil, fillP_cons, f0, hbx, q2, q3, hlv, decide_true, decide_false, Bool.not_true, Bool.not_false, bin_eql, bin_neq, ↓bD, bU, forall_const, bS, implies_true, isNx, eq_self, ↓wp_cond, ↓wp_loop, ↓reduceIte, reduceCtorEq, Nat.reduceEqDiff, Nat.reduceLT, Nat.reduceAdd, Nat.reduceMul, bT, ↓sg_bsl, ↓st_callf, bX, ap_mkfn, ap_conv, ↓wi_seq, ↓wi_base, ↓wi_block, ↓wi_cond, ↓wi_loop, ↓wi_rf, ↓wy_seq, ↓wy_base, ↓wy_block, ↓wy_cond, ↓wy_loop, ↓wy_yld, bin_shr1, q_known, ae_callvV, callvV_fn, List.append_nil, List.cons_append, List.nil_append, fs40, fs41, mmV_max2, ↓sg_callf3]
  have hib : s.next < u.next := St.get_lt hg1
  have hsep : lv = .nils ∨ bid lv ∉ [s.next] := by
    rcases hO1 with ⟨q, _⟩ | ⟨j, q, h5, h6, h7⟩
    · exact .inl q
    · refine .inr ?_
      subst q
      have hlt := St.get_lt (hK1.blk hg0)
      simp only [bid, List.mem_singleton]
      omega
  obtain ⟨I, hI⟩ : ∃ I : Nat → Env → St → Prop, ∀ n0 e t, I n0 e t = (∃ k w, n0 + k = (sortI l).length ∧ elen e = 60 ∧ E e 0 = .int .i64 own ∧ E e 6 = .ptr s.next 0 ∧ E e 7 = lv ∧ E e 19 = lv ∧ E e 20 = .int .i64 ((sortI l).length : Int) ∧ E e 21 = .int .i64 (k : Int) ∧ Chg [s.next] u t ∧ t.get s.next = some (.row [.int .i64 own, w] true) ∧ Own nbC u t w (((sortI l).take k).map nbI) ∧ (∀ x ∈ (sortI l).take k, (1 ≤ x ∧ x ≤ 64) ∧ x ≠ own) ∧ ((sortI l).take k).Pairwise (· < ·)) := ⟨fun n0 e t => (∃ k w, n0 + k = (sortI l).length ∧ elen e = 60 ∧ E e 0 = .int .i64 own ∧ E e 6 = .ptr s.next 0 ∧ E e 7 = lv ∧ E e 19 = lv ∧ E e 20 = .int .i64 ((sortI l).length : Int) ∧ E e 21 = .int .i64 (k : Int) ∧ Chg [s.next] u t ∧ t.get s.next = some (.row [.int .i64 own, w] true) ∧ Own nbC u t w (((sortI l).take k).map nbI) ∧ (∀ x ∈ (sortI l).take k, (1 ≤ x ∧ x ≤ 64) ∧ x ≠ own) ∧ ((sortI l).take k).Pairwise (· < ·)), fun _ _ _ => rfl⟩
  refine lwp_inv I (n := (sortI l).length) ?_ ?_
  · rw [hI]
    exact ⟨0, .nils, by omega, (by simp only [bE, Nat.reduceEqDiff, bN, Nat.reduceLT, hlen, h0, h1]; try rfl), (by simp only [bE, Nat.reduceEqDiff, bN, Nat.reduceLT, hlen, h0, h1]; try rfl), (by simp only [bE, Nat.reduceEqDiff, bN, Nat.reduceLT, hlen, h0, h1]; try rfl), (by simp only [bE, Nat.reduceEqDiff, bN, Nat.reduceLT, hlen, h0, h1]; try rfl), (by simp only [bE, Nat.reduceEqDiff, bN, Nat.reduceLT, hlen, h0, h1]; try rfl), (by simp only [bE, Nat.reduceEqDiff, bN, Nat.reduceLT, hlen, h0, h1]; try rfl), (by simp only [bE, Nat.reduceEqDiff, bN, Nat.reduceLT, hlen, h0, h1]; try rfl), Chg.refl _ _, hg1, .nil _ _ _, by simp, by simp⟩
  clear h0 h1 hlen q1 q2 q3 ha
  intro n0 e t hi
  rw [hI] at hi
  obtain ⟨k, w, hnk, he, e0, e6, e7, e19, e20, e21, hC, hbox, hO, hpre, hasc⟩ := hi
  have hKK : Keep s t := hKu.chgn hC (by simp)
  have hrd := read_chg hO1.read hC hsep
  by_cases hlt : k < (sortI l).length
  rotate_left
  · have hk : k = (sortI l).length := by omega
    rw [hk, List.take_length] at hO hpre hasc
    have hok : okL own l := okL_sort h0w hpre hasc
    have z1 := eq_false (show ¬ (k : Int) < ((sortI l).length : Int) by omega)
    obtain ⟨j, cap, hA, hj⟩ := hO.nwb.akr (s0 := s) (u := t) (id := s.next) (rep := own) (by omega) hbox (fun _ _ h _ => h) (by rw [List.length_map]; omega) (Nat.le_refl _)
    simp (config := {contextual := true, maxDischargeDepth := 12}) only [tb_at, he, e0, e6, e7, e19, e20, e21, z1, decide_true, decide_false, Bool.not_true, Bool.not_false, bin_eql, bin_neq, ↓bD, bU, forall_const, bS, implies_true, isNx, eq_self, ↓wp_cond, ↓wp_loop, ↓reduceIte, reduceCtorEq, Nat.reduceEqDiff, Nat.reduceLT, Nat.reduceAdd, Nat.reduceMul, bT, ↓sg_bsl, ↓st_callf, bX, ap_mkfn, ap_conv, ↓wi_seq, ↓wi_base, ↓wi_block, ↓wi_cond, ↓wi_loop, ↓wi_rf, ↓wy_seq, ↓wy_base, ↓wy_block, ↓wy_cond, ↓wy_loop, ↓wy_yld, bin_shr1, q_known, ae_callvV, callvV_fn, List.append_nil, List.cons_append, List.nil_append, fs40, fs41, mmV_max2, ↓sg_callf3]
    all_goals first | exact ⟨_, rfl, ⟨fun _ => ⟨_, _, _, rfl, hA, Nat.le_refl _, hj⟩, fun q => absurd hok q⟩, hKK⟩ | exact ⟨_, rfl, fun _ => ⟨_, _, _, rfl, hA, Nat.le_refl _, hj⟩, fun q => absurd hok q⟩ | exact ⟨⟨fun _ => ⟨_, _, _, rfl, hA, Nat.le_refl _, hj⟩, fun q => absurd hok q⟩, hKK⟩ | exact ⟨fun _ => ⟨_, _, _, rfl, hA, Nat.le_refl _, hj⟩, fun q => absurd hok q⟩ | skip
  have z1 := eq_true (show (k : Int) < ((sortI l).length : Int) by omega)
  obtain ⟨b, hb⟩ := getsome hlt
  obtain ⟨i1, i2, i3⟩ := in_lods hrd hb
  have q4 := q_repl false b (s := t)
  have hbm : b ∈ l := (sortI_perm l).mem_iff.1 (List.mem_of_getElem? hb)
  by_cases c1 : 1 ≤ b ∧ b ≤ 64
  rotate_left
  · have hno : ¬ okL own l := fun q => c1 (q.2.1 b hbm).1
    rw [show (decide (1 ≤ b) && decide (b ≤ 64)) = false by rw [← Bool.decide_and]; exact decide_eq_false c1] at q4
    simp (config := {contextual := true, maxDischargeDepth := 12}) only [tb_at, he, e0, e6, e7, e19, e20, e21, z1, i1, i2, i3, q4, notV_bool, pickV_t, pickV_f, decide_true, decide_false, Bool.not_true, Bool.not_false, bin_eql, bin_neq, ↓bD, bU, forall_const, bS, implies_true, isNx, eq_self, ↓wp_cond, ↓wp_loop, ↓reduceIte, reduceCtorEq, Nat.reduceEqDiff, Nat.reduceLT, Nat.reduceAdd, Nat.reduceMul, bT, ↓sg_bsl, ↓st_callf, bX, ap_mkfn, ap_conv, ↓wi_seq, ↓wi_base, ↓wi_block, ↓wi_cond, ↓wi_loop, ↓wi_rf, ↓wy_seq, ↓wy_base, ↓wy_block, ↓wy_cond, ↓wy_loop, ↓wy_yld, bin_shr1, q_known, ae_callvV, callvV_fn, List.append_nil, List.cons_append, List.nil_append, fs40, fs41, mmV_max2, ↓sg_callf3]
    all_goals first | exact ⟨_, rfl, ⟨fun q => absurd q hno, fun _ => rfl⟩, hKK⟩ | exact ⟨_, rfl, fun q => absurd q hno, fun _ => rfl⟩ | exact ⟨⟨fun q => absurd q hno, fun _ => rfl⟩, hKK⟩ | exact ⟨fun q => absurd q hno, fun _ => rfl⟩ | skip
  rw [show (decide (1 ≤ b) && decide (b ≤ 64)) = true by rw [← Bool.decide_and]; exact decide_eq_true c1] at q4
  by_cases c2 : b = own
  · have hno : ¬ okL own l := fun q => (q.2.1 b hbm).2 c2
    have z2 := eq_true c2
    simp (config := {contextual := true, maxDischargeDepth := 12}) only [tb_at, he, e0, e6, e7, e19, e20, e21, z1, z2, i1, i2, i3, q4, notV_bool, pickV_t, pickV_f, decide_true, decide_false, Bool.not_true, Bool.not_false, bin_eql, bin_neq, ↓bD, bU, forall_const, bS, implies_true, isNx, eq_self, ↓wp_cond, ↓wp_loop, ↓reduceIte, reduceCtorEq, Nat.reduceEqDiff, Nat.reduceLT, Nat.reduceAdd, Nat.reduceMul, bT, ↓sg_bsl, ↓st_callf, bX, ap_mkfn, ap_conv, ↓wi_seq, ↓wi_base, ↓wi_block, ↓wi_cond, ↓wi_loop, ↓wi_rf, ↓wy_seq, ↓wy_base, ↓wy_block, ↓wy_cond, ↓wy_loop, ↓wy_yld, bin_shr1, q_known, ae_callvV, callvV_fn, List.append_nil, List.cons_append, List.nil_append, fs40, fs41, mmV_max2, ↓sg_callf3]
    all_goals first | exact ⟨_, rfl, ⟨fun q => absurd q hno, fun _ => rfl⟩, hKK⟩ | exact ⟨_, rfl, fun q => absurd q hno, fun _ => rfl⟩ | exact ⟨⟨fun q => absurd q hno, fun _ => rfl⟩, hKK⟩ | exact ⟨fun q => absurd q hno, fun _ => rfl⟩ | skip
  have z2 := eq_false c2
  have hbxb : bslV [.int .i64 0, .int .i64 0, .int .i64 0, .int .i64 0] 1 4 [(0, .agg [.int .i64 b, .int .i64 0, .int .i64 0, .int .i64 0])] = some (fun id => .sl id 0 1 (some 1) 4, .row [.int .i64 b, .int .i64 0, .int .i64 0, .int .i64 0] true) := rfl
  have ff0 : ∀ K : List AV → Option (List AV), fstep [.int .i64 0, .int .i64 0, .int .i64 0, .int .i64 0] 0 1 (.int .i64 b) K = K [.int .i64 b, .int .i64 0, .int .i64 0, .int .i64 0] := fun K => rfl
  have ff1 : ∀ K : List AV → Option (List AV), fstep [.int .i64 0, .int .i64 0, .int .i64 0, .int .i64 0] 0 4 (.agg [.int .i64 b, .int .i64 0, .int .i64 0, .int .i64 0]) K = K [.int .i64 b, .int .i64 0, .int .i64 0, .int .i64 0] := fun K => rfl
  obtain ⟨b0, b1, blt⟩ := row2_lod hbox
  obtain ⟨w', u', hap, hst, hlt', hC', hbox', hO'⟩ := box_app hC hbox hib hO (nbI b) (by rw [List.length_map, List.length_take]; omega)
  have hap : appV (t.push (.row [.int .i64 b, .int .i64 0, .int .i64 0, .int .i64 0] true)) 4 32 w (.sl t.next 0 1 (some 1) 4) = some (w', u') := hap
  have hb0 : lod1 (t.push (.row [.int .i64 b, .int .i64 0, .int .i64 0, .int .i64 0] true)) (.ptr s.next 1) = some w := (row2_lod (get_push_some _ hbox)).2.1
  have hw2 := wrap_add1 (n := k) (by omega)
  have htk : (sortI l).take (k + 1) = (sortI l).take k ++ [b] := by rw [List.take_add_one, hb]; rfl
  have hOn : Own nbC u (u'.put s.next (.row [.int .i64 own, w'] true)) w' (((sortI l).take (k + 1)).map nbI) := by
    rw [htk, List.map_append]
    exact hO'
  have hpre' : ∀ x ∈ (sortI l).take (k + 1), (1 ≤ x ∧ x ≤ 64) ∧ x ≠ own := fun x hx => by
    rw [htk] at hx
    rcases List.mem_append.1 hx with q | q
    · exact hpre x q
    · rw [List.mem_singleton] at q
      subst q
      exact ⟨c1, c2⟩
  by_cases c3 : 0 < k
  rotate_left
  · have z3 := eq_false (show ¬ (0 : Int) < (k : Int) by omega)
    have hasc' : ((sortI l).take (k + 1)).Pairwise (· < ·) := asc_snoc hasc hb (fun c h => absurd h c3)
    simp (config := {contextual := true, maxDischargeDepth := 12}) only [tb_at, he, e0, e6, e7, e19, e20, e21, z1, z2, z3, i1, i2, i3, q4, b0, b1, blt, ap_build, fillP_nil, fillP_cons, ff0, ff1, aa_bsl1, hbxb, hap, hst, hlt', hb0, hw2, nchkV_ptr, notV_bool, pickV_t, pickV_f, decide_true, decide_false, Bool.not_true, Bool.not_false, bin_eql, bin_neq, ↓bD, bU, forall_const, bS, implies_true, isNx, eq_self, ↓wp_cond, ↓wp_loop, ↓reduceIte, reduceCtorEq, Nat.reduceEqDiff, Nat.reduceLT, Nat.reduceAdd, Nat.reduceMul, bT, ↓sg_bsl, ↓st_callf, bX, ap_mkfn, ap_conv, ↓wi_seq, ↓wi_base, ↓wi_block, ↓wi_cond, ↓wi_loop, ↓wi_rf, ↓wy_seq, ↓wy_base, ↓wy_block, ↓wy_cond, ↓wy_loop, ↓wy_yld, bin_shr1, q_known, ae_callvV, callvV_fn, List.append_nil, List.cons_append, List.nil_append, fs40, fs41, mmV_max2, ↓sg_callf3]
    refine ⟨n0 - 1, by omega, ?_⟩
    rw [hI]
    exact ⟨k + 1, w', by omega, (by simp only [bE, Nat.reduceEqDiff, bN, Nat.reduceLT, he, e0, e6, e7, e19, e20, e21]; try rfl), (by simp only [bE, Nat.reduceEqDiff, bN, Nat.reduceLT, he, e0, e6, e7, e19, e20, e21]; try rfl), (by simp only [bE, Nat.reduceEqDiff, bN, Nat.reduceLT, he, e0, e6, e7, e19, e20, e21]; try rfl), (by simp only [bE, Nat.reduceEqDiff, bN, Nat.reduceLT, he, e0, e6, e7, e19, e20, e21]; try rfl), (by simp only [bE, Nat.reduceEqDiff, bN, Nat.reduceLT, he, e0, e6, e7, e19, e20, e21]; try rfl), (by simp only [bE, Nat.reduceEqDiff, bN, Nat.reduceLT, he, e0, e6, e7, e19, e20, e21]; try rfl), (by simp only [bE, Nat.reduceEqDiff, bN, Nat.reduceLT, he, e0, e6, e7, e19, e20, e21]; try rfl), hC', hbox', hOn, hpre', hasc'⟩
  have z3 := eq_true (show (0 : Int) < (k : Int) by omega)
  obtain ⟨c, hc⟩ := getsome (show k - 1 < (sortI l).length by omega)
  have hwk : IntKind.i64.wrap ((k : Int) - 1) = ((k - 1 : Nat) : Int) := by
    rw [show (k : Int) - 1 = ((k - 1 : Nat) : Int) by omega]
    exact wrapI (by omega) (by omega)
  obtain ⟨j1, j2, j3⟩ := in_lods hrd hc
  have hcb := sorted_le (sortI_sorted l) hc hb (by omega)
  by_cases c4 : c = b
  · subst c4
    have hno : ¬ okL own l := fun q => nodup_ne ((sortI_perm l).nodup_iff.2 q.2.2) hc hb (by omega)
    simp (config := {contextual := true, maxDischargeDepth := 12}) only [tb_at, he, e0, e6, e7, e19, e20, e21, z1, z2, z3, i1, i2, i3, hwk, j1, j2, j3, q4, notV_bool, pickV_t, pickV_f, decide_true, decide_false, Bool.not_true, Bool.not_false, bin_eql, bin_neq, ↓bD, bU, forall_const, bS, implies_true, isNx, eq_self, ↓wp_cond, ↓wp_loop, ↓reduceIte, reduceCtorEq, Nat.reduceEqDiff, Nat.reduceLT, Nat.reduceAdd, Nat.reduceMul, bT, ↓sg_bsl, ↓st_callf, bX, ap_mkfn, ap_conv, ↓wi_seq, ↓wi_base, ↓wi_block, ↓wi_cond, ↓wi_loop, ↓wi_rf, ↓wy_seq, ↓wy_base, ↓wy_block, ↓wy_cond, ↓wy_loop, ↓wy_yld, bin_shr1, q_known, ae_callvV, callvV_fn, List.append_nil, List.cons_append, List.nil_append, fs40, fs41, mmV_max2, ↓sg_callf3]
    all_goals first | exact ⟨_, rfl, ⟨fun q => absurd q hno, fun _ => rfl⟩, hKK⟩ | exact ⟨_, rfl, fun q => absurd q hno, fun _ => rfl⟩ | exact ⟨⟨fun q => absurd q hno, fun _ => rfl⟩, hKK⟩ | exact ⟨fun q => absurd q hno, fun _ => rfl⟩ | skip
  have z4 := eq_false c4
  have hasc' : ((sortI l).take (k + 1)).Pairwise (· < ·) := asc_snoc hasc hb (fun d _ hd => by
    rw [hc] at hd
    injection hd with hd
    omega)
  simp (config := {contextual := true, maxDischargeDepth := 12}) only [tb_at, he, e0, e6, e7, e19, e20, e21, z1, z2, z3, z4, i1, i2, i3, hwk, j1, j2, j3, q4, b0, b1, blt, ap_build, fillP_nil, fillP_cons, ff0, ff1, aa_bsl1, hbxb, hap, hst, hlt', hb0, hw2, nchkV_ptr, notV_bool, pickV_t, pickV_f, decide_true, decide_false, Bool.not_true, Bool.not_false, bin_eql, bin_neq, ↓bD, bU, forall_const, bS, implies_true, isNx, eq_self, ↓wp_cond, ↓wp_loop, ↓reduceIte, reduceCtorEq, Nat.reduceEqDiff, Nat.reduceLT, Nat.reduceAdd, Nat.reduceMul, bT, ↓sg_bsl, ↓st_callf, bX, ap_mkfn, ap_conv, ↓wi_seq, ↓wi_base, ↓wi_block, ↓wi_cond, ↓wi_loop, ↓wi_rf, ↓wy_seq, ↓wy_base, ↓wy_block, ↓wy_cond, ↓wy_loop, ↓wy_yld, bin_shr1, q_known, ae_callvV, callvV_fn, List.append_nil, List.cons_append, List.nil_append, fs40, fs41, mmV_max2, ↓sg_callf3]
  refine ⟨n0 - 1, by omega, ?_⟩
  rw [hI]
  exact ⟨k + 1, w', by omega, (by simp only [bE, Nat.reduceEqDiff, bN, Nat.reduceLT, he, e0, e6, e7, e19, e20, e21]; try rfl), (by simp only [bE, Nat.reduceEqDiff, bN, Nat.reduceLT, he, e0, e6, e7, e19, e20, e21]; try rfl), (by simp only [bE, Nat.reduceEqDiff, bN, Nat.reduceLT, he, e0, e6, e7, e19, e20, e21]; try rfl), (by simp only [bE, Nat.reduceEqDiff, bN, Nat.reduceLT, he, e0, e6, e7, e19, e20, e21]; try rfl), (by simp only [bE, Nat.reduceEqDiff, bN, Nat.reduceLT, he, e0, e6, e7, e19, e20, e21]; try rfl), (by simp only [bE, Nat.reduceEqDiff, bN, Nat.reduceLT, he, e0, e6, e7, e19, e20, e21]; try rfl), (by simp only [bE, Nat.reduceEqDiff, bN, Nat.reduceLT, he, e0, e6, e7, e19, e20, e21]; try rfl), hC', hbox', hOn, hpre', hasc'⟩

end Go.AM
end
/-
  New of the reference. Own work of this project; in part printed by a program of it.
-/
section
set_option maxRecDepth 100000
set_option maxHeartbeats 8000000
namespace Go.AM
open Go Go.Proofs

variable {s t u : St}
theorem q_New {s : St} {nv : AV} {own : Int} {l : List Int} (hr : AM.read inC s nv = some l) (hl : l.length ≤ 100) : ∃ r t, acall R_New false [.int .i64 own, nv] s = some (r, t) ∧ ((okL own l → ∃ id j cap, r = .tup [.ptr id 0, .int .i64 0] ∧ AkR t id j cap own ((sortI l).map nbI) ∧ s.next ≤ id ∧ s.next ≤ j) ∧ (¬ okL own l → r = .tup [.nilp, .int .i64 2])) ∧ Keep s t :=
  run_any n_New (args := [.int .i64 own, nv]) (Q := (fun r t => (okL own l → ∃ id j cap, r = .tup [.ptr id 0, .int .i64 0] ∧ AkR t id j cap own ((sortI l).map nbI) ∧ s.next ≤ id ∧ s.next ≤ j) ∧ (¬ okL own l → r = .tup [.nilp, .int .i64 2]))) (by simp [a9]) (fun r t t' hg hn ⟨h1, h2⟩ => ⟨fun q => by
    obtain ⟨id, j, cap, e, h, h4, h5⟩ := h1 q
    exact ⟨id, j, cap, e, ⟨by rw [hg]; exact h.box, fun q => by rw [hg]; exact h.dat q, h.hcap, h.hn, by rw [hn]; exact h.jlt⟩, h4, h5⟩, h2⟩) (fun r t hgr hk ⟨h1, h2⟩ => ⟨fun q => by
    obtain ⟨id, j, cap, e, _⟩ := h1 q
    rw [e] at hgr
    simp [AV.ground, AV.plain, AV.plains] at hgr, h2⟩) (w_New (s := lowd s) (read_low' hr) hl)
theorem q_New_ok {s : St} {nv : AV} {own : Int} {l : List Int} (hr : AM.read inC s nv = some l) (hl : l.length ≤ 100) (hok : okL own l) : ∃ id j cap t, acall R_New false [.int .i64 own, nv] s = some (.tup [.ptr id 0, .int .i64 0], t) ∧ AkR t id j cap own ((sortI l).map nbI) ∧ s.next ≤ id ∧ s.next ≤ j ∧ Keep s t := by
  obtain ⟨r, t, h1, ⟨h2, _⟩, h3⟩ := q_New (own := own) hr hl
  obtain ⟨id, j, cap, rfl, h4, h5, h6⟩ := h2 hok
  exact ⟨id, j, cap, t, h1, h4, h5, h6, h3⟩
theorem q_New_no {s : St} {nv : AV} {own : Int} {l : List Int} (hr : AM.read inC s nv = some l) (hl : l.length ≤ 100) (hno : ¬ okL own l) : ∃ t, acall R_New false [.int .i64 own, nv] s = some (.tup [.nilp, .int .i64 2], t) ∧ Keep s t := by
  obtain ⟨r, t, h1, ⟨_, h2⟩, h3⟩ := q_New (own := own) hr hl
  rw [h2 hno] at h1
  exact ⟨t, h1, h3⟩

theorem count_take {l : List Int} {i : Nat} {b : Int} (h : l[i]? = some b) (n : Int) : (l.take (i + 1)).count n = (l.take i).count n + (if b = n then 1 else 0) := by
  rw [List.take_add_one, h, List.count_append]
  show _ + List.count n [b] = _
  rw [List.count_singleton]
  by_cases e : b = n
  · subst e; simp
  · rw [if_neg e, if_neg (by simpa using e)]
theorem fI_len (l : List Int) : ∀ k, (fI l k).length ≤ k
  | 0 => by simp [fI]
  | k + 1 => by
    unfold fI
    have := fI_len l k
    split
    · simp; omega
    · omega
noncomputable def R_RNew : Con := runFn (tb []) a10
theorem s_RNew : SoundAt Try.prog 10 R_RNew := run_sound (tb_sound (l := []) (by simp)) mixed Try.func10 k10 c10
theorem n_RNew : noNxtC a10.body = true := by kernel_rfl
theorem w_RNew {s : St} {nv : AV} {own : Int} {l : List Int} (hr : AM.read inC s nv = some l) (hl : l.length ≤ 100) : ∀ env : Env, elen env = a10.ntmps → (∀ i x_, [.int .i64 own, nv][i]? = some x_ → E env i = x_) → awp (tb []) a10.body (fun x e t => (∀ i, x ≠ .exit i) ∧ ∃ r, aresults e t a10.results = some r ∧ ((okL own l → ∃ id j cap, r = .tup [.ptr id 0, .int .i64 0] ∧ AkR t id j cap own ((sortI l).map nbI) ∧ s.next ≤ id ∧ s.next ≤ j) ∧ (¬ okL own l → r = .tup [.nilp, .int .i64 2])) ∧ Keep s t) env s := by
  intro env hlen ha
  have h0 : E env 0 = _ := ha 0 _ rfl
  have h1 : E env 1 = _ := ha 1 _ rfl
  have hlen : elen env = _ := hlen
  simp only [a10] at hlen
  unfold a10
  try dsimp only [oO, oG]
  have hKK := Keep.refl s
  by_cases h0a : own < 1
  · have hno : ¬ okL own l := fun q => by have := q.1; omega
    have z0 := eq_true h0a
    simp (config := {contextual := true, maxDischargeDepth := 12}) only [tb_at, h0, h1, hlen, z0, ap_build, fillP_nil, fillP_cons, nchkV_ptr, notV_bool, pickV_t, pickV_f, decide_true, decide_false, Bool.not_true, Bool.not_false, bin_eql, bin_neq, ↓bD, bU, forall_const, bS, implies_true, isNx, eq_self, ↓wp_cond, ↓wp_loop, ↓reduceIte, reduceCtorEq, Nat.reduceEqDiff, Nat.reduceLT, Nat.reduceAdd, Nat.reduceMul, bT, ↓sg_bsl, ↓st_callf, bX, ap_mkfn, ap_conv, ↓wi_seq, ↓wi_base, ↓wi_block, ↓wi_cond, ↓wi_loop, ↓wi_rf, ↓wy_seq, ↓wy_base, ↓wy_block, ↓wy_cond, ↓wy_loop, ↓wy_yld, bin_shr1, q_known, ae_callvV, callvV_fn, List.append_nil, List.cons_append, List.nil_append, fs40, fs41, mmV_max2, ↓sg_callf3]
    all_goals first | exact ⟨_, rfl, ⟨fun q => absurd q hno, fun _ => rfl⟩, hKK⟩ | exact ⟨_, rfl, fun q => absurd q hno, fun _ => rfl⟩ | exact ⟨⟨fun q => absurd q hno, fun _ => rfl⟩, hKK⟩ | exact ⟨fun q => absurd q hno, fun _ => rfl⟩ | skip
  have z0 := eq_false h0a
  by_cases h0b : 64 < own
  · have hno : ¬ okL own l := fun q => by have := q.1; omega
    have z0' := eq_true h0b
    simp (config := {contextual := true, maxDischargeDepth := 12}) only [tb_at, h0, h1, hlen, z0, z0', ap_build, fillP_nil, fillP_cons, nchkV_ptr, notV_bool, pickV_t, pickV_f, decide_true, decide_false, Bool.not_true, Bool.not_false, bin_eql, bin_neq, ↓bD, bU, forall_const, bS, implies_true, isNx, eq_self, ↓wp_cond, ↓wp_loop, ↓reduceIte, reduceCtorEq, Nat.reduceEqDiff, Nat.reduceLT, Nat.reduceAdd, Nat.reduceMul, bT, ↓sg_bsl, ↓st_callf, bX, ap_mkfn, ap_conv, ↓wi_seq, ↓wi_base, ↓wi_block, ↓wi_cond, ↓wi_loop, ↓wi_rf, ↓wy_seq, ↓wy_base, ↓wy_block, ↓wy_cond, ↓wy_loop, ↓wy_yld, bin_shr1, q_known, ae_callvV, callvV_fn, List.append_nil, List.cons_append, List.nil_append, fs40, fs41, mmV_max2, ↓sg_callf3]
    all_goals first | exact ⟨_, rfl, ⟨fun q => absurd q hno, fun _ => rfl⟩, hKK⟩ | exact ⟨_, rfl, fun q => absurd q hno, fun _ => rfl⟩ | exact ⟨⟨fun q => absurd q hno, fun _ => rfl⟩, hKK⟩ | exact ⟨fun q => absurd q hno, fun _ => rfl⟩ | skip
  have z0' := eq_false h0b
  have h0w : 1 ≤ own ∧ own ≤ 64 := by omega
  clear hKK
  have f0 := fsb0 (.int .i64 own) ⟨rfl, rfl⟩ (.int .i64 0) .nils
  have hbx := boxV_2b (a := .int .i64 own) (b := .nils) rfl rfl
  have hK0 : Keep s (s.push (.row [.int .i64 own, .nils] true)) := (Keep.refl s).push _
  have hg0 := St.get_push_new s (.row [.int .i64 own, .nils] true)
  obtain ⟨u, hu⟩ : ∃ u, u = s.push (.row [.int .i64 own, .nils] true) := ⟨_, rfl⟩
  simp (config := {contextual := true, maxDischargeDepth := 12}) only [tb_at, h0, h1, hlen, z0, z0', f0, hbx, ← hu, ap_build, fillP_nil, fillP_cons, nchkV_ptr, notV_bool, pickV_t, pickV_f, decide_true, decide_false, Bool.not_true, Bool.not_false, bin_eql, bin_neq, ↓bD, bU, forall_const, bS, implies_true, isNx, eq_self, ↓wp_cond, ↓wp_loop, ↓reduceIte, reduceCtorEq, Nat.reduceEqDiff, Nat.reduceLT, Nat.reduceAdd, Nat.reduceMul, bT, ↓sg_bsl, ↓st_callf, bX, ap_mkfn, ap_conv, ↓wi_seq, ↓wi_base, ↓wi_block, ↓wi_cond, ↓wi_loop, ↓wi_rf, ↓wy_seq, ↓wy_base, ↓wy_block, ↓wy_cond, ↓wy_loop, ↓wy_yld, bin_shr1, q_known, ae_callvV, callvV_fn, List.append_nil, List.cons_append, List.nil_append, fs40, fs41, mmV_max2, ↓sg_callf3]
  rw [← hu] at hK0 hg0
  have hib : s.next < u.next := St.get_lt hg0
  obtain ⟨I, hI⟩ : ∃ I : Nat → Env → St → Prop, ∀ n0 e t, I n0 e t = (∃ (k : Nat) (w : AV), n0 + k = 64 ∧ elen e = 70 ∧ E e 0 = .int .i64 own ∧ E e 1 = nv ∧ E e 6 = .ptr s.next 0 ∧ E e 7 = .int .i64 ((k : Int) + 1) ∧ Chg [s.next] u t ∧ t.get s.next = some (.row [.int .i64 own, w] true) ∧ Own nbC u t w ((fI l k).map nbI) ∧ (∀ n : Int, 1 ≤ n → n ≤ k → ¬ (l.count n = 1 ∧ n = own))) := ⟨fun n0 e t => (∃ (k : Nat) (w : AV), n0 + k = 64 ∧ elen e = 70 ∧ E e 0 = .int .i64 own ∧ E e 1 = nv ∧ E e 6 = .ptr s.next 0 ∧ E e 7 = .int .i64 ((k : Int) + 1) ∧ Chg [s.next] u t ∧ t.get s.next = some (.row [.int .i64 own, w] true) ∧ Own nbC u t w ((fI l k).map nbI) ∧ (∀ n : Int, 1 ≤ n → n ≤ k → ¬ (l.count n = 1 ∧ n = own))), fun _ _ _ => rfl⟩
  refine lwp_inv I (n := 64) ?_ ?_
  · rw [hI]
    exact ⟨0, .nils, by omega, (by simp only [bE, Nat.reduceEqDiff, bN, Nat.reduceLT, hlen, h0, h1]; try rfl), (by simp only [bE, Nat.reduceEqDiff, bN, Nat.reduceLT, hlen, h0, h1]; try rfl), (by simp only [bE, Nat.reduceEqDiff, bN, Nat.reduceLT, hlen, h0, h1]; try rfl), (by simp only [bE, Nat.reduceEqDiff, bN, Nat.reduceLT, hlen, h0, h1]; try rfl), (by simp only [bE, Nat.reduceEqDiff, bN, Nat.reduceLT, hlen, h0, h1]; try rfl), Chg.refl _ _, hg0, .nil _ _ _, fun n h1 h2 => by omega⟩
  clear h0 h1 hlen ha hu
  intro n0 e t hi
  rw [hI] at hi
  obtain ⟨k, w, hnk, he, e0, e1, e6, e7, hC, hbox, hO, hpre⟩ := hi
  have hKK : Keep s t := hK0.chgn hC (by simp)
  have hrd := hKK.read hr
  have hlv := lenV_read hrd
  have hwl := lenV_read hO.read
  rw [List.length_map] at hwl
  have hfl := fI_len l k
  obtain ⟨b0, b1, blt⟩ := row2_lod hbox
  by_cases hlt : k < 64
  rotate_left
  · obtain rfl : k = 64 := by omega
    have z1 := eq_false (show ¬ ((64 : Nat) : Int) + 1 ≤ 64 by omega)
    by_cases hle : (fI l 64).length = l.length
    · have hok : okL own l := fI_ok h0w hpre hle
      have z2 := eq_true (show ((fI l 64).length : Int) = (l.length : Int) by omega)
      rw [ok_fI hok] at hO
      obtain ⟨j, cap, hA, hj⟩ := hO.nwb.akr (s0 := s) (u := t) (id := s.next) (rep := own) (by omega) hbox (fun _ _ h _ => h) (by rw [List.length_map, sortI_len]; omega) (Nat.le_refl _)
      simp (config := {contextual := true, maxDischargeDepth := 12}) only [tb_at, he, e0, e1, e6, e7, z1, z2, b0, b1, blt, hlv, hwl, ap_build, fillP_nil, fillP_cons, nchkV_ptr, notV_bool, pickV_t, pickV_f, decide_true, decide_false, Bool.not_true, Bool.not_false, bin_eql, bin_neq, ↓bD, bU, forall_const, bS, implies_true, isNx, eq_self, ↓wp_cond, ↓wp_loop, ↓reduceIte, reduceCtorEq, Nat.reduceEqDiff, Nat.reduceLT, Nat.reduceAdd, Nat.reduceMul, bT, ↓sg_bsl, ↓st_callf, bX, ap_mkfn, ap_conv, ↓wi_seq, ↓wi_base, ↓wi_block, ↓wi_cond, ↓wi_loop, ↓wi_rf, ↓wy_seq, ↓wy_base, ↓wy_block, ↓wy_cond, ↓wy_loop, ↓wy_yld, bin_shr1, q_known, ae_callvV, callvV_fn, List.append_nil, List.cons_append, List.nil_append, fs40, fs41, mmV_max2, ↓sg_callf3]
      all_goals first | exact ⟨_, rfl, ⟨fun _ => ⟨_, _, _, rfl, hA, Nat.le_refl _, hj⟩, fun q => absurd hok q⟩, hKK⟩ | exact ⟨_, rfl, fun _ => ⟨_, _, _, rfl, hA, Nat.le_refl _, hj⟩, fun q => absurd hok q⟩ | exact ⟨⟨fun _ => ⟨_, _, _, rfl, hA, Nat.le_refl _, hj⟩, fun q => absurd hok q⟩, hKK⟩ | exact ⟨fun _ => ⟨_, _, _, rfl, hA, Nat.le_refl _, hj⟩, fun q => absurd hok q⟩ | skip
    have hno : ¬ okL own l := fun q => hle (by rw [ok_fI q, sortI_len])
    have z2 := eq_false (show ¬ ((fI l 64).length : Int) = (l.length : Int) by omega)
    simp (config := {contextual := true, maxDischargeDepth := 12}) only [tb_at, he, e0, e1, e6, e7, z1, z2, b0, b1, blt, hlv, hwl, ap_build, fillP_nil, fillP_cons, nchkV_ptr, notV_bool, pickV_t, pickV_f, decide_true, decide_false, Bool.not_true, Bool.not_false, bin_eql, bin_neq, ↓bD, bU, forall_const, bS, implies_true, isNx, eq_self, ↓wp_cond, ↓wp_loop, ↓reduceIte, reduceCtorEq, Nat.reduceEqDiff, Nat.reduceLT, Nat.reduceAdd, Nat.reduceMul, bT, ↓sg_bsl, ↓st_callf, bX, ap_mkfn, ap_conv, ↓wi_seq, ↓wi_base, ↓wi_block, ↓wi_cond, ↓wi_loop, ↓wi_rf, ↓wy_seq, ↓wy_base, ↓wy_block, ↓wy_cond, ↓wy_loop, ↓wy_yld, bin_shr1, q_known, ae_callvV, callvV_fn, List.append_nil, List.cons_append, List.nil_append, fs40, fs41, mmV_max2, ↓sg_callf3]
    all_goals first | exact ⟨_, rfl, ⟨fun q => absurd q hno, fun _ => rfl⟩, hKK⟩ | exact ⟨_, rfl, fun q => absurd q hno, fun _ => rfl⟩ | exact ⟨⟨fun q => absurd q hno, fun _ => rfl⟩, hKK⟩ | exact ⟨fun q => absurd q hno, fun _ => rfl⟩ | skip
  have z1 := eq_true (show (k : Int) + 1 ≤ 64 by omega)
  have hc0 : (l.take 0).count ((k : Int) + 1) = 0 := by simp
  simp (config := {contextual := true, maxDischargeDepth := 12}) only [tb_at, he, e0, e1, e6, e7, z1, ap_build, fillP_nil, fillP_cons, nchkV_ptr, notV_bool, pickV_t, pickV_f, decide_true, decide_false, Bool.not_true, Bool.not_false, bin_eql, bin_neq, ↓bD, bU, forall_const, bS, implies_true, isNx, eq_self, ↓wp_cond, ↓wp_loop, ↓reduceIte, reduceCtorEq, Nat.reduceEqDiff, Nat.reduceLT, Nat.reduceAdd, Nat.reduceMul, bT, ↓sg_bsl, ↓st_callf, bX, ap_mkfn, ap_conv, ↓wi_seq, ↓wi_base, ↓wi_block, ↓wi_cond, ↓wi_loop, ↓wi_rf, ↓wy_seq, ↓wy_base, ↓wy_block, ↓wy_cond, ↓wy_loop, ↓wy_yld, bin_shr1, q_known, ae_callvV, callvV_fn, List.append_nil, List.cons_append, List.nil_append, fs40, fs41, mmV_max2, ↓sg_callf3]
  obtain ⟨J, hJ⟩ : ∃ J : Nat → Env → St → Prop, ∀ n1 e y_, J n1 e y_ = (∃ i : Nat, n1 + i = l.length ∧ y_ = t ∧ elen e = 70 ∧ E e 0 = .int .i64 own ∧ E e 1 = nv ∧ E e 6 = .ptr s.next 0 ∧ E e 7 = .int .i64 ((k : Int) + 1) ∧ E e 8 = .int .i64 (((l.take i).count ((k : Int) + 1) : Nat) : Int) ∧ E e 9 = .int .i64 (i : Int)) := ⟨fun n1 e y_ => (∃ i : Nat, n1 + i = l.length ∧ y_ = t ∧ elen e = 70 ∧ E e 0 = .int .i64 own ∧ E e 1 = nv ∧ E e 6 = .ptr s.next 0 ∧ E e 7 = .int .i64 ((k : Int) + 1) ∧ E e 8 = .int .i64 (((l.take i).count ((k : Int) + 1) : Nat) : Int) ∧ E e 9 = .int .i64 (i : Int)), fun _ _ _ => rfl⟩
  refine lwp_inv J (n := l.length) ?_ ?_
  · rw [hJ]
    exact ⟨0, by omega, rfl, (by simp only [bE, Nat.reduceEqDiff, bN, Nat.reduceLT, he, e0, e1, e6, e7]; try rfl), (by simp only [bE, Nat.reduceEqDiff, bN, Nat.reduceLT, he, e0, e1, e6, e7]; try rfl), (by simp only [bE, Nat.reduceEqDiff, bN, Nat.reduceLT, he, e0, e1, e6, e7]; try rfl), (by simp only [bE, Nat.reduceEqDiff, bN, Nat.reduceLT, he, e0, e1, e6, e7]; try rfl), (by simp only [bE, Nat.reduceEqDiff, bN, Nat.reduceLT, he, e0, e1, e6, e7]; try rfl), (by rw [hc0]; simp only [bE, Nat.reduceEqDiff, bN, Nat.reduceLT, he, e0, e1, e6, e7]; try rfl), (by simp only [bE, Nat.reduceEqDiff, bN, Nat.reduceLT, he, e0, e1, e6, e7]; try rfl)⟩
  clear he e0 e1 e6 e7
  intro n1 e y_ hj
  rw [hJ] at hj
  obtain ⟨i, hni, rfl, he, e0, e1, e6, e7, e8, e9⟩ := hj
  have hcl : ∀ i, (l.take i).count ((k : Int) + 1) ≤ 100 := fun i => Nat.le_trans (List.count_le_length) (by rw [List.length_take]; omega)
  have hcli := hcl i
  by_cases hit : i < l.length
  · obtain ⟨b, hb⟩ := getsome hit
    obtain ⟨i1, i2, i3⟩ := in_lods hrd hb
    have z2 := eq_true (show (i : Int) < (l.length : Int) by omega)
    have hw2 := wrap_add1 (n := i) (by omega)
    have hct := count_take hb ((k : Int) + 1)
    by_cases hbn : b = (k : Int) + 1
    · rw [if_pos hbn] at hct
      have z3 := eq_true hbn
      have hw3 := wrap_add1 (n := (l.take i).count ((k : Int) + 1)) (by omega)
      simp (config := {contextual := true, maxDischargeDepth := 12}) only [tb_at, he, e0, e1, e6, e7, e8, e9, hlv, z2, z3, i1, i2, i3, hw2, hw3, ap_build, fillP_nil, fillP_cons, nchkV_ptr, notV_bool, pickV_t, pickV_f, decide_true, decide_false, Bool.not_true, Bool.not_false, bin_eql, bin_neq, ↓bD, bU, forall_const, bS, implies_true, isNx, eq_self, ↓wp_cond, ↓wp_loop, ↓reduceIte, reduceCtorEq, Nat.reduceEqDiff, Nat.reduceLT, Nat.reduceAdd, Nat.reduceMul, bT, ↓sg_bsl, ↓st_callf, bX, ap_mkfn, ap_conv, ↓wi_seq, ↓wi_base, ↓wi_block, ↓wi_cond, ↓wi_loop, ↓wi_rf, ↓wy_seq, ↓wy_base, ↓wy_block, ↓wy_cond, ↓wy_loop, ↓wy_yld, bin_shr1, q_known, ae_callvV, callvV_fn, List.append_nil, List.cons_append, List.nil_append, fs40, fs41, mmV_max2, ↓sg_callf3]
      refine ⟨n1 - 1, by omega, ?_⟩
      rw [hJ]
      exact ⟨i + 1, by omega, rfl, (by simp only [bE, Nat.reduceEqDiff, bN, Nat.reduceLT, he, e0, e1, e6, e7, e8, e9]; try rfl), (by simp only [bE, Nat.reduceEqDiff, bN, Nat.reduceLT, he, e0, e1, e6, e7, e8, e9]; try rfl), (by simp only [bE, Nat.reduceEqDiff, bN, Nat.reduceLT, he, e0, e1, e6, e7, e8, e9]; try rfl), (by simp only [bE, Nat.reduceEqDiff, bN, Nat.reduceLT, he, e0, e1, e6, e7, e8, e9]; try rfl), (by simp only [bE, Nat.reduceEqDiff, bN, Nat.reduceLT, he, e0, e1, e6, e7, e8, e9]; try rfl), (by rw [hct]; simp only [bE, Nat.reduceEqDiff, bN, Nat.reduceLT, he, e0, e1, e6, e7, e8, e9]; try rfl), (by simp only [bE, Nat.reduceEqDiff, bN, Nat.reduceLT, he, e0, e1, e6, e7, e8, e9]; try rfl)⟩
    · rw [if_neg hbn, Nat.add_zero] at hct
      have z3 := eq_false hbn
      simp (config := {contextual := true, maxDischargeDepth := 12}) only [tb_at, he, e0, e1, e6, e7, e8, e9, hlv, z2, z3, i1, i2, i3, hw2, ap_build, fillP_nil, fillP_cons, nchkV_ptr, notV_bool, pickV_t, pickV_f, decide_true, decide_false, Bool.not_true, Bool.not_false, bin_eql, bin_neq, ↓bD, bU, forall_const, bS, implies_true, isNx, eq_self, ↓wp_cond, ↓wp_loop, ↓reduceIte, reduceCtorEq, Nat.reduceEqDiff, Nat.reduceLT, Nat.reduceAdd, Nat.reduceMul, bT, ↓sg_bsl, ↓st_callf, bX, ap_mkfn, ap_conv, ↓wi_seq, ↓wi_base, ↓wi_block, ↓wi_cond, ↓wi_loop, ↓wi_rf, ↓wy_seq, ↓wy_base, ↓wy_block, ↓wy_cond, ↓wy_loop, ↓wy_yld, bin_shr1, q_known, ae_callvV, callvV_fn, List.append_nil, List.cons_append, List.nil_append, fs40, fs41, mmV_max2, ↓sg_callf3]
      refine ⟨n1 - 1, by omega, ?_⟩
      rw [hJ]
      exact ⟨i + 1, by omega, rfl, (by simp only [bE, Nat.reduceEqDiff, bN, Nat.reduceLT, he, e0, e1, e6, e7, e8, e9]; try rfl), (by simp only [bE, Nat.reduceEqDiff, bN, Nat.reduceLT, he, e0, e1, e6, e7, e8, e9]; try rfl), (by simp only [bE, Nat.reduceEqDiff, bN, Nat.reduceLT, he, e0, e1, e6, e7, e8, e9]; try rfl), (by simp only [bE, Nat.reduceEqDiff, bN, Nat.reduceLT, he, e0, e1, e6, e7, e8, e9]; try rfl), (by simp only [bE, Nat.reduceEqDiff, bN, Nat.reduceLT, he, e0, e1, e6, e7, e8, e9]; try rfl), (by rw [hct]; simp only [bE, Nat.reduceEqDiff, bN, Nat.reduceLT, he, e0, e1, e6, e7, e8, e9]; try rfl), (by simp only [bE, Nat.reduceEqDiff, bN, Nat.reduceLT, he, e0, e1, e6, e7, e8, e9]; try rfl)⟩
  obtain rfl : i = l.length := by omega
  rw [List.take_length] at e8 hcli
  have z2 := eq_false (show ¬ (l.length : Int) < (l.length : Int) by omega)
  have hwk : IntKind.i64.wrap ((k : Int) + 1 + 1) = ((k + 1 : Nat) : Int) + 1 := by
    rw [show (k : Int) + 1 + 1 = ((k + 1 : Nat) : Int) + 1 by omega]
    exact wrapI (by omega) (by omega)
  by_cases hm : 1 < l.count ((k : Int) + 1)
  · have hno : ¬ okL own l := fun q => by
      have := List.nodup_iff_count.1 q.2.2 ((k : Int) + 1)
      omega
    have z3 := eq_true (show (1 : Int) < ((l.count ((k : Int) + 1) : Nat) : Int) by omega)
    simp (config := {contextual := true, maxDischargeDepth := 12}) only [tb_at, he, e0, e1, e6, e7, e8, e9, hlv, z2, z3, ap_build, fillP_nil, fillP_cons, nchkV_ptr, notV_bool, pickV_t, pickV_f, decide_true, decide_false, Bool.not_true, Bool.not_false, bin_eql, bin_neq, ↓bD, bU, forall_const, bS, implies_true, isNx, eq_self, ↓wp_cond, ↓wp_loop, ↓reduceIte, reduceCtorEq, Nat.reduceEqDiff, Nat.reduceLT, Nat.reduceAdd, Nat.reduceMul, bT, ↓sg_bsl, ↓st_callf, bX, ap_mkfn, ap_conv, ↓wi_seq, ↓wi_base, ↓wi_block, ↓wi_cond, ↓wi_loop, ↓wi_rf, ↓wy_seq, ↓wy_base, ↓wy_block, ↓wy_cond, ↓wy_loop, ↓wy_yld, bin_shr1, q_known, ae_callvV, callvV_fn, List.append_nil, List.cons_append, List.nil_append, fs40, fs41, mmV_max2, ↓sg_callf3]
    all_goals first | exact ⟨_, rfl, ⟨fun q => absurd q hno, fun _ => rfl⟩, hKK⟩ | exact ⟨_, rfl, fun q => absurd q hno, fun _ => rfl⟩ | exact ⟨⟨fun q => absurd q hno, fun _ => rfl⟩, hKK⟩ | exact ⟨fun q => absurd q hno, fun _ => rfl⟩ | skip
  have z3 := eq_false (show ¬ (1 : Int) < ((l.count ((k : Int) + 1) : Nat) : Int) by omega)
  by_cases hm1 : l.count ((k : Int) + 1) = 1
  rotate_left
  · have z4 := eq_false (show ¬ ((l.count ((k : Int) + 1) : Nat) : Int) = 1 by omega)
    have hf1 : fI l (k + 1) = fI l k := by
      rw [fI, if_neg hm1]
    have hOn : Own nbC u y_ w ((fI l (k + 1)).map nbI) := by rw [hf1]; exact hO
    have hpre' : ∀ n : Int, 1 ≤ n → n ≤ ((k + 1 : Nat) : Int) → ¬ (l.count n = 1 ∧ n = own) := fun n h1 h2 => by
      by_cases hn : n ≤ (k : Int)
      · exact hpre n h1 hn
      · rintro ⟨h3, _⟩
        have : n = (k : Int) + 1 := by omega
        subst this
        exact hm1 h3
    simp (config := {contextual := true, maxDischargeDepth := 12}) only [tb_at, he, e0, e1, e6, e7, e8, e9, hlv, z2, z3, z4, hwk, ap_build, fillP_nil, fillP_cons, nchkV_ptr, notV_bool, pickV_t, pickV_f, decide_true, decide_false, Bool.not_true, Bool.not_false, bin_eql, bin_neq, ↓bD, bU, forall_const, bS, implies_true, isNx, eq_self, ↓wp_cond, ↓wp_loop, ↓reduceIte, reduceCtorEq, Nat.reduceEqDiff, Nat.reduceLT, Nat.reduceAdd, Nat.reduceMul, bT, ↓sg_bsl, ↓st_callf, bX, ap_mkfn, ap_conv, ↓wi_seq, ↓wi_base, ↓wi_block, ↓wi_cond, ↓wi_loop, ↓wi_rf, ↓wy_seq, ↓wy_base, ↓wy_block, ↓wy_cond, ↓wy_loop, ↓wy_yld, bin_shr1, q_known, ae_callvV, callvV_fn, List.append_nil, List.cons_append, List.nil_append, fs40, fs41, mmV_max2, ↓sg_callf3]
    refine ⟨n0 - 1, by omega, ?_⟩
    rw [hI]
    exact ⟨k + 1, w, by omega, (by simp only [bE, Nat.reduceEqDiff, bN, Nat.reduceLT, he, e0, e1, e6, e7, e8, e9]; try rfl), (by simp only [bE, Nat.reduceEqDiff, bN, Nat.reduceLT, he, e0, e1, e6, e7, e8, e9]; try rfl), (by simp only [bE, Nat.reduceEqDiff, bN, Nat.reduceLT, he, e0, e1, e6, e7, e8, e9]; try rfl), (by simp only [bE, Nat.reduceEqDiff, bN, Nat.reduceLT, he, e0, e1, e6, e7, e8, e9]; try rfl), (by simp only [bE, Nat.reduceEqDiff, bN, Nat.reduceLT, he, e0, e1, e6, e7, e8, e9]; try rfl), hC, hbox, hOn, hpre'⟩
  have z4 := eq_true (show ((l.count ((k : Int) + 1) : Nat) : Int) = 1 by omega)
  by_cases hm2 : (k : Int) + 1 = own
  · have hno : ¬ okL own l := fun q => (q.2.1 own (List.count_pos_iff.1 (by rw [← hm2]; omega))).2 rfl
    have z5 := eq_true hm2
    simp (config := {contextual := true, maxDischargeDepth := 12}) only [tb_at, he, e0, e1, e6, e7, e8, e9, hlv, z2, z3, z4, z5, ap_build, fillP_nil, fillP_cons, nchkV_ptr, notV_bool, pickV_t, pickV_f, decide_true, decide_false, Bool.not_true, Bool.not_false, bin_eql, bin_neq, ↓bD, bU, forall_const, bS, implies_true, isNx, eq_self, ↓wp_cond, ↓wp_loop, ↓reduceIte, reduceCtorEq, Nat.reduceEqDiff, Nat.reduceLT, Nat.reduceAdd, Nat.reduceMul, bT, ↓sg_bsl, ↓st_callf, bX, ap_mkfn, ap_conv, ↓wi_seq, ↓wi_base, ↓wi_block, ↓wi_cond, ↓wi_loop, ↓wi_rf, ↓wy_seq, ↓wy_base, ↓wy_block, ↓wy_cond, ↓wy_loop, ↓wy_yld, bin_shr1, q_known, ae_callvV, callvV_fn, List.append_nil, List.cons_append, List.nil_append, fs40, fs41, mmV_max2, ↓sg_callf3]
    all_goals first | exact ⟨_, rfl, ⟨fun q => absurd q hno, fun _ => rfl⟩, hKK⟩ | exact ⟨_, rfl, fun q => absurd q hno, fun _ => rfl⟩ | exact ⟨⟨fun q => absurd q hno, fun _ => rfl⟩, hKK⟩ | exact ⟨fun q => absurd q hno, fun _ => rfl⟩ | skip
  have z5 := eq_false hm2
  have hf1 : fI l (k + 1) = fI l k ++ [(k : Int) + 1] := by
    rw [fI, if_pos hm1]
  have hpre' : ∀ n : Int, 1 ≤ n → n ≤ ((k + 1 : Nat) : Int) → ¬ (l.count n = 1 ∧ n = own) := fun n h1 h2 => by
    by_cases hn : n ≤ (k : Int)
    · exact hpre n h1 hn
    · rintro ⟨_, h3⟩
      exact hm2 (by omega)
  have hbxb : bslV [.int .i64 0, .int .i64 0, .int .i64 0, .int .i64 0] 1 4 [(0, .agg [.int .i64 ((k : Int) + 1), .int .i64 0, .int .i64 0, .int .i64 0])] = some (fun id => .sl id 0 1 (some 1) 4, .row [.int .i64 ((k : Int) + 1), .int .i64 0, .int .i64 0, .int .i64 0] true) := rfl
  have ff0 : ∀ K : List AV → Option (List AV), fstep [.int .i64 0, .int .i64 0, .int .i64 0, .int .i64 0] 0 1 (.int .i64 ((k : Int) + 1)) K = K [.int .i64 ((k : Int) + 1), .int .i64 0, .int .i64 0, .int .i64 0] := fun K => rfl
  have ff1 : ∀ K : List AV → Option (List AV), fstep [.int .i64 0, .int .i64 0, .int .i64 0, .int .i64 0] 0 4 (.agg [.int .i64 ((k : Int) + 1), .int .i64 0, .int .i64 0, .int .i64 0]) K = K [.int .i64 ((k : Int) + 1), .int .i64 0, .int .i64 0, .int .i64 0] := fun K => rfl
  obtain ⟨w', u', hap, hst, hlt', hC', hbox', hO'⟩ := box_app hC hbox hib hO (nbI ((k : Int) + 1)) (by rw [List.length_map]; omega)
  have hap : appV (y_.push (.row [.int .i64 ((k : Int) + 1), .int .i64 0, .int .i64 0, .int .i64 0] true)) 4 32 w (.sl y_.next 0 1 (some 1) 4) = some (w', u') := hap
  have hb0 : lod1 (y_.push (.row [.int .i64 ((k : Int) + 1), .int .i64 0, .int .i64 0, .int .i64 0] true)) (.ptr s.next 1) = some w := (row2_lod (get_push_some _ hbox)).2.1
  have hOn : Own nbC u (u'.put s.next (.row [.int .i64 own, w'] true)) w' ((fI l (k + 1)).map nbI) := by
    rw [hf1, List.map_append]
    exact hO'
  simp (config := {contextual := true, maxDischargeDepth := 12}) only [tb_at, he, e0, e1, e6, e7, e8, e9, hlv, z2, z3, z4, z5, hwk, b0, b1, blt, ff0, ff1, aa_bsl1, hbxb, hap, hst, hlt', hb0, ap_build, fillP_nil, fillP_cons, nchkV_ptr, notV_bool, pickV_t, pickV_f, decide_true, decide_false, Bool.not_true, Bool.not_false, bin_eql, bin_neq, ↓bD, bU, forall_const, bS, implies_true, isNx, eq_self, ↓wp_cond, ↓wp_loop, ↓reduceIte, reduceCtorEq, Nat.reduceEqDiff, Nat.reduceLT, Nat.reduceAdd, Nat.reduceMul, bT, ↓sg_bsl, ↓st_callf, bX, ap_mkfn, ap_conv, ↓wi_seq, ↓wi_base, ↓wi_block, ↓wi_cond, ↓wi_loop, ↓wi_rf, ↓wy_seq, ↓wy_base, ↓wy_block, ↓wy_cond, ↓wy_loop, ↓wy_yld, bin_shr1, q_known, ae_callvV, callvV_fn, List.append_nil, List.cons_append, List.nil_append, fs40, fs41, mmV_max2, ↓sg_callf3]
  refine ⟨n0 - 1, by omega, ?_⟩
  rw [hI]
  exact ⟨k + 1, w', by omega, (by simp only [bE, Nat.reduceEqDiff, bN, Nat.reduceLT, he, e0, e1, e6, e7, e8, e9]; try rfl), (by simp only [bE, Nat.reduceEqDiff, bN, Nat.reduceLT, he, e0, e1, e6, e7, e8, e9]; try rfl), (by simp only [bE, Nat.reduceEqDiff, bN, Nat.reduceLT, he, e0, e1, e6, e7, e8, e9]; try rfl), (by simp only [bE, Nat.reduceEqDiff, bN, Nat.reduceLT, he, e0, e1, e6, e7, e8, e9]; try rfl), (by simp only [bE, Nat.reduceEqDiff, bN, Nat.reduceLT, he, e0, e1, e6, e7, e8, e9]; try rfl), hC', hbox', hOn, hpre'⟩
theorem q_RNew {s : St} {nv : AV} {own : Int} {l : List Int} (hr : AM.read inC s nv = some l) (hl : l.length ≤ 100) : ∃ r t, acall R_RNew false [.int .i64 own, nv] s = some (r, t) ∧ ((okL own l → ∃ id j cap, r = .tup [.ptr id 0, .int .i64 0] ∧ AkR t id j cap own ((sortI l).map nbI) ∧ s.next ≤ id ∧ s.next ≤ j) ∧ (¬ okL own l → r = .tup [.nilp, .int .i64 2])) ∧ Keep s t :=
  run_any n_RNew (args := [.int .i64 own, nv]) (Q := (fun r t => (okL own l → ∃ id j cap, r = .tup [.ptr id 0, .int .i64 0] ∧ AkR t id j cap own ((sortI l).map nbI) ∧ s.next ≤ id ∧ s.next ≤ j) ∧ (¬ okL own l → r = .tup [.nilp, .int .i64 2]))) (by simp [a10]) (fun r t t' hg hn ⟨h1, h2⟩ => ⟨fun q => by
    obtain ⟨id, j, cap, e, h, h4, h5⟩ := h1 q
    exact ⟨id, j, cap, e, ⟨by rw [hg]; exact h.box, fun q => by rw [hg]; exact h.dat q, h.hcap, h.hn, by rw [hn]; exact h.jlt⟩, h4, h5⟩, h2⟩) (fun r t hgr hk ⟨h1, h2⟩ => ⟨fun q => by
    obtain ⟨id, j, cap, e, _⟩ := h1 q
    rw [e] at hgr
    simp [AV.ground, AV.plain, AV.plains] at hgr, h2⟩) (w_RNew (s := lowd s) (read_low' hr) hl)
theorem q_RNew_ok {s : St} {nv : AV} {own : Int} {l : List Int} (hr : AM.read inC s nv = some l) (hl : l.length ≤ 100) (hok : okL own l) : ∃ id j cap t, acall R_RNew false [.int .i64 own, nv] s = some (.tup [.ptr id 0, .int .i64 0], t) ∧ AkR t id j cap own ((sortI l).map nbI) ∧ s.next ≤ id ∧ s.next ≤ j ∧ Keep s t := by
  obtain ⟨r, t, h1, ⟨h2, _⟩, h3⟩ := q_RNew (own := own) hr hl
  obtain ⟨id, j, cap, rfl, h4, h5, h6⟩ := h2 hok
  exact ⟨id, j, cap, t, h1, h4, h5, h6, h3⟩
theorem q_RNew_no {s : St} {nv : AV} {own : Int} {l : List Int} (hr : AM.read inC s nv = some l) (hl : l.length ≤ 100) (hno : ¬ okL own l) : ∃ t, acall R_RNew false [.int .i64 own, nv] s = some (.tup [.nilp, .int .i64 2], t) ∧ Keep s t := by
  obtain ⟨r, t, h1, ⟨_, h2⟩, h3⟩ := q_RNew (own := own) hr hl
  rw [h2 hno] at h1
  exact ⟨t, h1, h3⟩

end Go.AM
end
/-
  What the arguments of the statements show: numbers, nodes, states, lists of states. Own work of this project.
-/
section
set_option maxRecDepth 100000
namespace Go.AM
open Go Go.Proofs

variable {P : Program} {s : St}
theorem rd_slice {d : Nat} {t e : TypeId} {vs : List AV} (hu : P.underlying t = some (.slice e)) (h : RdT P s (d + 1) t vs) : vs = [.nils] ∨ ∃ (id n cap : Nat) (rows : List (List AV)), vs = [.sl id 0 n (some cap) (P.cellsOf e)] ∧ n ≤ cap ∧ cap ≤ maxLen ∧ rows.length = cap ∧ s.get id = some (.row rows.flatten false) ∧ ∀ r ∈ rows, RdT P s d e r ∧ r.length = P.cellsOf e := by
  simp only [RdT, hu] at h
  exact h
theorem rd_int {d : Nat} {t : TypeId} {k : IntKind} {vs : List AV} (hu : P.underlying t = some (.int k)) (h : RdT P s (d + 1) t vs) : ∃ n, vs = [.int k n] ∧ (Lit.int k n).wf = true := by
  simp only [RdT, hu] at h
  exact h
theorem rda_int {d : Nat} {t : TypeId} {k : IntKind} {v : AV} (hu : P.underlying t = some (.int k)) (h : RdA P s (d + 1) t v) : ∃ n, v = .int k n ∧ (Lit.int k n).wf = true := by
  obtain ⟨vs, h1, rfl⟩ := h
  obtain ⟨n, rfl, hw⟩ := rd_int hu h1
  exact ⟨n, by simp [argAV, hu], hw⟩
theorem lawC_some {d : Nat} {ts : List TypeId} {xs : List AV} {r : AV} {s' : St} (h : lawC P d ts xs s = some (r, s')) : RdAs P s d ts xs ∧ r = .bool true ∧ s' = s.lowed := by
  unfold lawC at h
  split at h
  · rename_i hr
    injection h with h
    obtain ⟨rfl, rfl⟩ := Prod.mk.inj h
    exact ⟨hr, rfl, rfl⟩
  · cases h
theorem rdas_1 {d : Nat} {t : TypeId} {xs : List AV} (h : RdAs P s d [t] xs) : ∃ v, xs = [v] ∧ RdA P s d t v := by
  obtain ⟨v, r, rfl, h1, h2⟩ := h
  simp only [RdAs] at h2
  subst h2
  exact ⟨v, rfl, h1⟩
theorem rdas_2 {d : Nat} {t1 t2 : TypeId} {xs : List AV} (h : RdAs P s d [t1, t2] xs) : ∃ v w, xs = [v, w] ∧ RdA P s d t1 v ∧ RdA P s d t2 w := by
  obtain ⟨v, r, rfl, h1, h2⟩ := h
  obtain ⟨w, rfl, h3⟩ := rdas_1 h2
  exact ⟨v, w, rfl, h1, h3⟩
theorem rdas_3 {d : Nat} {t1 t2 t3 : TypeId} {xs : List AV} (h : RdAs P s d [t1, t2, t3] xs) : ∃ v w u, xs = [v, w, u] ∧ RdA P s d t1 v ∧ RdA P s d t2 w ∧ RdA P s d t3 u := by
  obtain ⟨v, r, rfl, h1, h2⟩ := h
  obtain ⟨w, u, rfl, h3, h4⟩ := rdas_2 h2
  exact ⟨v, w, u, rfl, h1, h3, h4⟩
end Go.AM
end
/-
  Lists of integers as arguments; AcksNew. Own work of this project; in part printed by a program of it.
-/
section
set_option maxRecDepth 100000
set_option maxHeartbeats 8000000
namespace Go.AM
open Go Go.Proofs

variable {s t u : St}

theorem int_underK : Try.prog.underlying 3 = some (.int .i64) := by kernel_rfl
theorem ints_under : Try.prog.underlying 22 = some (.slice 3) := by kernel_rfl
theorem int_cells : Try.prog.cellsOf 3 = 1 := by kernel_rfl
theorem ints_of_rows {d : Nat} : ∀ {rows : List (List AV)}, (∀ r ∈ rows, RdT Try.prog s (d + 1) 3 r) → ∃ l : List Int, rows.flatten = inC.cells l ∧ l.length = rows.length
  | [], _ => ⟨[], rfl, rfl⟩
  | r :: rows, h => by
    obtain ⟨n, rfl, hw⟩ := rd_int int_underK (h r (by simp))
    obtain ⟨l, h1, h2⟩ := ints_of_rows (rows := rows) fun r' hr' => h r' (by simp [hr'])
    exact ⟨n :: l, by rw [List.flatten_cons, h1, cells_cons]; rfl, by simp [h2]⟩
theorem rda_ints {v : AV} (h : RdA Try.prog s 8 22 v) : ∃ l, read inC s v = some l := by
  obtain ⟨vs, h1, rfl⟩ := h
  rcases rd_slice ints_under h1 with rfl | ⟨id, n, cap, rows, rfl, h1, _, h3, h4, h5⟩
  · exact ⟨[], by simp [argAV, ints_under]; rfl⟩
  · obtain ⟨l, e1, e2⟩ := ints_of_rows fun r hr => (h5 r hr).1
    have e : argAV Try.prog 22 [.sl id 0 n (some cap) (Try.prog.cellsOf 3)] = .sl id 0 n (some cap) 1 := by simp [argAV, ints_under, int_cells]
    rw [e]
    refine ⟨l.take n, ?_⟩
    have hall : read inC s (.sl id 0 cap (some cap) 1) = some l := by
      have hcl : (inC.cells l).length = l.length * 1 := cells_len inC l
      refine read_of (C := inC) (by omega) h4 ?_ ?_
      · rw [e1, hcl]
        show 0 + cap * 1 ≤ _
        omega
      · rw [e1, List.drop_zero, show cap * inC.sz = (inC.cells l).length by rw [hcl]; show cap * 1 = _; omega, List.take_length]
    exact read_take hall n h1
theorem AkR.srtI {id j : Nat} {cap : Option Nat} {own : Int} {l : List Int} (h : AkR s id j cap own ((sortI l).map nbI)) (hok : okL own l) : SrtB ((sortI l).map nbI) ∧ own ≠ 0 := ⟨okL_srt hok, fun e => by have := hok.1; omega⟩
end Go.AM
end
/-
  AcksPlays. Own work of this project; in part printed by a program of it.
-/
section
set_option maxRecDepth 100000
set_option maxHeartbeats 8000000
namespace Go.AM
open Go Go.Proofs

variable {s t u : St}

theorem acts_under : Try.prog.underlying 40 = some (.slice 42) := by kernel_rfl
theorem act_cells : Try.prog.cellsOf 42 = 4 := by kernel_rfl
theorem act_fields : fieldsT Try.prog 42 = some [3, 3, 3, 3] := by kernel_rfl
theorem acts_of_rows {d : Nat} : ∀ {rows : List (List AV)}, (∀ r ∈ rows, RdT Try.prog s (d + 2) 42 r) → ∃ l : List Nb, rows.flatten = nbC.cells l ∧ l.length = rows.length
  | [], _ => ⟨[], rfl, rfl⟩
  | r :: rows, h => by
    obtain ⟨r1, x1, rfl, k1, r2, x2, rfl, k2, r3, x3, rfl, k3, r4, x4, rfl, k4, rfl⟩ := rd_struct act_fields (h r (by simp))
    obtain ⟨a, rfl, _⟩ := rd_int int_underK k1
    obtain ⟨b, rfl, _⟩ := rd_int int_underK k2
    obtain ⟨c, rfl, _⟩ := rd_int int_underK k3
    obtain ⟨f, rfl, _⟩ := rd_int int_underK k4
    obtain ⟨l, h1, h2⟩ := acts_of_rows (rows := rows) fun r' hr' => h r' (by simp [hr'])
    exact ⟨⟨a, b, c, f⟩ :: l, by rw [List.flatten_cons, h1, cells_cons]; rfl, by simp [h2]⟩
theorem rda_acts25 {v : AV} (h : RdA Try.prog s 8 40 v) : ∃ l, read nbC s v = some l := by
  obtain ⟨vs, h1, rfl⟩ := h
  rcases rd_slice acts_under h1 with rfl | ⟨id, n, cap, rows, rfl, h1, _, h3, h4, h5⟩
  · exact ⟨[], by simp [argAV, acts_under]; rfl⟩
  · obtain ⟨l, e1, e2⟩ := acts_of_rows (d := 5) fun r hr => (h5 r hr).1
    have e : argAV Try.prog 40 [.sl id 0 n (some cap) (Try.prog.cellsOf 42)] = .sl id 0 n (some cap) 4 := by simp [argAV, acts_under, act_cells]
    rw [e]
    refine ⟨l.take n, ?_⟩
    have hall : read nbC s (.sl id 0 cap (some cap) 4) = some l := by
      have hcl : (nbC.cells l).length = l.length * 4 := cells_len nbC l
      refine read_of (C := nbC) (by omega) h4 ?_ ?_
      · rw [e1, hcl]
        show 0 + cap * 4 ≤ _
        omega
      · rw [e1, List.drop_zero, show cap * nbC.sz = (nbC.cells l).length by rw [hcl]; show cap * 4 = _; omega, List.take_length]
    exact read_take hall n h1
theorem row4_at {id : Nat} {y : Nb} (h : t.get id = some (.row (Nb.av y) true)) : lod1 t (.ptr id 0) = some (.int .i64 y.r) ∧ lod1 t (.ptr id 1) = some (.int .i64 y.e) ∧ lod1 t (.ptr id 2) = some (.int .i64 y.a) ∧ lod1 t (.ptr id 3) = some (.int .i64 y.g) ∧ ltN id t := by
  refine ⟨?_, ?_, ?_, ?_, St.get_lt h⟩ <;> simp [lod1, h, Nb.av]
/-! ### What keeps the list sorted -/
theorem srt_map {L : List Nb} : SrtB L ↔ (L.map Nb.r).Pairwise (· < ·) := by
  unfold SrtB
  rw [List.pairwise_map]
theorem set_map {L : List Nb} {i : Nat} {x y : Nb} (hx : L[i]? = some x) (h : y.r = x.r) : (L.set i y).map Nb.r = L.map Nb.r := by
  rw [List.map_set, h]
  exact set_id (by rw [List.getElem?_map, hx]; rfl)
theorem opL_map {f : Nb → Int × Nb} {n : Int} (hf : ∀ x : Nb, x.r = n → (f x).2.r = n) (L : List Nb) : (opL f L n).2.map Nb.r = L.map Nb.r := by
  cases h : fndB L n with
  | none => rw [opL_miss h]
  | some i =>
    obtain ⟨x, hx, hr⟩ := fndB_some h
    rw [opL_hit h hx]
    exact set_map hx (by rw [hf x hr, hr])
theorem opL_srt {f : Nb → Int × Nb} {n : Int} (hf : ∀ x : Nb, x.r = n → (f x).2.r = n) {L : List Nb} (h : SrtB L) : SrtB (opL f L n).2 := by
  rw [srt_map, opL_map hf, ← srt_map]
  exact h
theorem meet_r (n ep : Int) (x : Nb) (h : x.r = n) : (meetF n ep x).2.r = n := by
  unfold meetF
  split
  · exact h
  · split
    · exact h
    · split
      · rfl
      · exact h
theorem ack_r {n : Int} (m l : Int) (x : Nb) (h : x.r = n) : (ackF m l x).2.r = n := by
  unfold ackF
  split
  · exact h
  · split <;> exact h
theorem recv_r {n : Int} (f l : Int) (x : Nb) (h : x.r = n) : (recvF f l x).2.r = n := by
  unfold recvF
  split
  · exact h
  · split <;> exact h
theorem jump_r {n : Int} (l : Int) (x : Nb) (h : x.r = n) : (jumpF l x).2.r = n := by
  unfold jumpF
  split <;> exact h
/-! ### fails -/
noncomputable def R_fails : Con := runFn (tb [(9, R_New)]) a19
theorem s_fails : SoundAt Try.prog 19 R_fails := run_sound (tb_sound (l := [(9, R_New)]) (by simpa using s_New)) mixed Try.func19 k19 c19
theorem n_fails : noNxtC a19.body = true := by kernel_rfl
theorem w_fails {s : St} {nv : AV} {own : Int} {l : List Int} (hr : AM.read inC s nv = some l) (hl : l.length ≤ 100) (hno : ¬ okL own l) : ∀ env : Env, elen env = a19.ntmps → (∀ i x_, [.int .i64 own, nv][i]? = some x_ → E env i = x_) → awp (tb [(9, R_New)]) a19.body (fun x e t => (∀ i, x ≠ .exit i) ∧ aresults e t a19.results = some (.bool true) ∧ Keep s t) env s := by
  intro env hlen ha
  have h0 : E env 0 = _ := ha 0 _ rfl
  have h1 : E env 1 = _ := ha 1 _ rfl
  have hlen : elen env = _ := hlen
  simp only [a19] at hlen
  unfold a19
  try dsimp only [oO, oG]
  obtain ⟨t1, q1, hK1⟩ := q_New_no hr hl hno
  have n22 : ((2 : Int) = 2) = True := eq_true rfl
  simp (config := {contextual := true, maxDischargeDepth := 12}) only [tb_at, h0, h1, hlen, q1, n22, bin_np, bin_npn, bin_npx, decide_true, decide_false, Bool.not_true, Bool.not_false, bin_eql, bin_neq, ↓bD, bU, forall_const, bS, implies_true, isNx, eq_self, ↓wp_cond, ↓wp_loop, ↓reduceIte, reduceCtorEq, Nat.reduceEqDiff, Nat.reduceLT, Nat.reduceAdd, Nat.reduceMul, bT, ↓sg_bsl, ↓st_callf, bX, ap_mkfn, ap_conv, ↓wi_seq, ↓wi_base, ↓wi_block, ↓wi_cond, ↓wi_loop, ↓wi_rf, ↓wy_seq, ↓wy_base, ↓wy_block, ↓wy_cond, ↓wy_loop, ↓wy_yld, bin_shr1, q_known, ae_callvV, callvV_fn, List.append_nil, List.cons_append, List.nil_append, fs40, fs41, mmV_max2, ↓sg_callf3, q_known]
  all_goals first | exact hK1 | skip
theorem q_fails (cl : Bool) {s : St} {nv : AV} {own : Int} {l : List Int} (hr : AM.read inC s nv = some l) (hl : l.length ≤ 100) (hno : ¬ okL own l) : acall R_fails cl [.int .i64 own, nv] s = some (.bool true, s) := run_same n_fails (by simp [a19]) rfl (w_fails (s := lowd s) (read_low' hr) hl hno)

/-- What a replica knows and what the reference knows: the same. -/
structure Pk (s t : St) (B id j : Nat) (cap : Option Nat) (ix jx : Nat) (capx : Option Nat) (own : Int) (L : List Nb) : Prop where
  ak : AkR t id j cap own L
  xk : AkR t ix jx capx own L
  srt : SrtB L
  bx : s.next ≤ ix ∧ s.next ≤ jx ∧ ix < B ∧ jx < B ∧ B ≤ id ∧ B ≤ j
theorem Pk.keep {B id j ix jx : Nat} {cap capx : Option Nat} {own : Int} {L : List Nb} (h : Pk s t B id j cap ix jx capx own L) (hK : Keep t u) : Pk s u B id j cap ix jx capx own L := ⟨h.ak.keep hK, h.xk.keep hK, h.srt, h.bx⟩

theorem bin_neN (a : Int) : binOp .neq .no (.int .i64 a) (.int .i64 a) = some (.bool false) := by simp [binOp, intOp]
theorem s_AcksPlays : SoundAt Try.prog 6 (lawC Try.prog 8 [3, 22, 40]) :=
  con_keep (tb_sound (l := [(8, closed [] (.bool true)), (9, R_New), (10, R_RNew), (19, R_fails), (15, R_Meet), (20, R_RMeet), (13, R_Ack), (21, R_RAck), (16, R_Recv), (22, R_RRecv), (17, R_Jump), (23, R_RJump), (24, R_Copy), (11, R_alike)]) (by simpa using ⟨s_known, s_New, s_RNew, s_fails, s_Meet, s_RMeet, s_Ack, s_RAck, s_Recv, s_RRecv, s_Jump, s_RJump, s_Copy, s_alike⟩)) mixed Try.func6 k6 c6 fun args s r s' h => by
    obtain ⟨hh, rfl, rfl⟩ := lawC_some h
    obtain ⟨y1, nv, vl, rfl, k1, k2, k3⟩ := rdas_3 hh
    obtain ⟨own, rfl, _⟩ := rda_int int_underK k1
    obtain ⟨l, hr⟩ := rda_ints k2
    obtain ⟨M, hV⟩ := rda_acts25 k3
    refine ⟨rfl, rfl, by simp [a6], fun env hlen ha => ?_⟩
    have h0 : E env 0 = _ := ha 0 _ rfl
    have h1 : E env 1 = _ := ha 1 _ rfl
    have h2 : E env 2 = _ := ha 2 _ rfl
    have hlen : elen env = _ := hlen
    simp only [a6] at hlen
    unfold a6
    try dsimp only [oO, oG]
    have hL := lenV_read hr
    have hM := lenV_read hV
    have n00 : ((0 : Int) = 0) = True := eq_true rfl
    have n20 : ((2 : Int) = 0) = False := eq_false (by decide)
    by_cases c1 : (10 : Int) < (l.length : Int)
    · have z1 := eq_true c1
      simp (config := {contextual := true, maxDischargeDepth := 12, maxSteps := 4000000}) only [tb_at, h0, h1, h2, hlen, hL, hM, z1, notV_bool, Bool.not_true, Bool.not_false, pickV_t, pickV_f, bin_eql, bin_neq, bin_neb, bin_npn, bin_np, bin_npnx, gcall_tt, gpure_tf, beq_self_eq_true, Bool.true_and, Bool.and_true, decide_true, decide_false, ↓bD, bU, forall_const, bS, implies_true, isNx, eq_self, ↓wp_cond, ↓wp_loop, ↓reduceIte, reduceCtorEq, Nat.reduceEqDiff, Nat.reduceLT, Nat.reduceAdd, Nat.reduceMul, bT, ↓sg_bsl, ↓st_callf, bX, ap_mkfn, ap_conv, ↓wi_seq, ↓wi_base, ↓wi_block, ↓wi_cond, ↓wi_loop, ↓wi_rf, ↓wy_seq, ↓wy_base, ↓wy_block, ↓wy_cond, ↓wy_loop, ↓wy_yld, bin_shr1, q_known, ae_callvV, callvV_fn, List.append_nil, List.cons_append, List.nil_append, fs40, fs41, mmV_max2, ↓sg_callf3, q_known]
      all_goals first | exact .refl s | skip
    have z1 := eq_false c1
    by_cases c2 : (40 : Int) < (M.length : Int)
    · have z2 := eq_true c2
      simp (config := {contextual := true, maxDischargeDepth := 12, maxSteps := 4000000}) only [tb_at, h0, h1, h2, hlen, hL, hM, z1, z2, notV_bool, Bool.not_true, Bool.not_false, pickV_t, pickV_f, bin_eql, bin_neq, bin_neb, bin_npn, bin_np, bin_npnx, gcall_tt, gpure_tf, beq_self_eq_true, Bool.true_and, Bool.and_true, decide_true, decide_false, ↓bD, bU, forall_const, bS, implies_true, isNx, eq_self, ↓wp_cond, ↓wp_loop, ↓reduceIte, reduceCtorEq, Nat.reduceEqDiff, Nat.reduceLT, Nat.reduceAdd, Nat.reduceMul, bT, ↓sg_bsl, ↓st_callf, bX, ap_mkfn, ap_conv, ↓wi_seq, ↓wi_base, ↓wi_block, ↓wi_cond, ↓wi_loop, ↓wi_rf, ↓wy_seq, ↓wy_base, ↓wy_block, ↓wy_cond, ↓wy_loop, ↓wy_yld, bin_shr1, q_known, ae_callvV, callvV_fn, List.append_nil, List.cons_append, List.nil_append, fs40, fs41, mmV_max2, ↓sg_callf3, q_known]
      all_goals first | exact .refl s | skip
    have z2 := eq_false c2
    by_cases hok : okL own l
    rotate_left
    · obtain ⟨t1, q1, hK1⟩ := q_RNew_no hr (by omega) hok
      have q2 := q_fails false (hK1.read hr) (by omega) hok
      simp (config := {contextual := true, maxDischargeDepth := 12, maxSteps := 4000000}) only [tb_at, h0, h1, h2, hlen, hL, hM, z1, z2, q1, q2, n20, notV_bool, Bool.not_true, Bool.not_false, pickV_t, pickV_f, bin_eql, bin_neq, bin_neb, bin_npn, bin_np, bin_npnx, gcall_tt, gpure_tf, beq_self_eq_true, Bool.true_and, Bool.and_true, decide_true, decide_false, ↓bD, bU, forall_const, bS, implies_true, isNx, eq_self, ↓wp_cond, ↓wp_loop, ↓reduceIte, reduceCtorEq, Nat.reduceEqDiff, Nat.reduceLT, Nat.reduceAdd, Nat.reduceMul, bT, ↓sg_bsl, ↓st_callf, bX, ap_mkfn, ap_conv, ↓wi_seq, ↓wi_base, ↓wi_block, ↓wi_cond, ↓wi_loop, ↓wi_rf, ↓wy_seq, ↓wy_base, ↓wy_block, ↓wy_cond, ↓wy_loop, ↓wy_yld, bin_shr1, q_known, ae_callvV, callvV_fn, List.append_nil, List.cons_append, List.nil_append, fs40, fs41, mmV_max2, ↓sg_callf3, q_known]
      all_goals first | exact hK1 | skip
    obtain ⟨ix, jx, capx, t1, q1, hX1, hx1, hx2, hK1⟩ := q_RNew_ok hr (by omega) hok
    obtain ⟨id0, j0, cap0, t2, q2, hA2, ha1, ha2, hK2⟩ := q_New_ok (hK1.read hr) (by omega) hok
    have hK12 := hK1.trans hK2
    have hrp : own ≠ 0 := (hA2.srtI hok).2
    have hP0 : Pk s t2 t1.next id0 j0 cap0 ix jx capx own ((sortI l).map nbI) := ⟨hA2, hX1.keep hK2, (hA2.srtI hok).1, hx1, hx2, St.get_lt hX1.box, hX1.jlt, ha1, ha2⟩
    simp (config := {contextual := true, maxDischargeDepth := 12, maxSteps := 4000000}) only [tb_at, h0, h1, h2, hlen, hL, hM, z1, z2, q1, q2, n00, notV_bool, Bool.not_true, Bool.not_false, pickV_t, pickV_f, bin_eql, bin_neq, bin_neb, bin_npn, bin_np, bin_npnx, gcall_tt, gpure_tf, beq_self_eq_true, Bool.true_and, Bool.and_true, decide_true, decide_false, ↓bD, bU, forall_const, bS, implies_true, isNx, eq_self, ↓wp_cond, ↓wp_loop, ↓reduceIte, reduceCtorEq, Nat.reduceEqDiff, Nat.reduceLT, Nat.reduceAdd, Nat.reduceMul, bT, ↓sg_bsl, ↓st_callf, bX, ap_mkfn, ap_conv, ↓wi_seq, ↓wi_base, ↓wi_block, ↓wi_cond, ↓wi_loop, ↓wi_rf, ↓wy_seq, ↓wy_base, ↓wy_block, ↓wy_cond, ↓wy_loop, ↓wy_yld, bin_shr1, q_known, ae_callvV, callvV_fn, List.append_nil, List.cons_append, List.nil_append, fs40, fs41, mmV_max2, ↓sg_callf3, q_known]
    obtain ⟨I, hI⟩ : ∃ I : Nat → Env → St → Prop, ∀ n e t, I n e t = (Keep s t ∧ ∃ (i : Nat) (id : Nat) (j : Nat) (cap : Option Nat) (L : List Nb), n + i = M.length ∧ elen e = 146 ∧ E e 0 = .int .i64 own ∧ E e 1 = nv ∧ E e 2 = vl ∧ E e 7 = .ptr ix 0 ∧ E e 9 = .ptr id 0 ∧ E e 11 = .int .i64 (i : Int) ∧ Pk s t t1.next id j cap ix jx capx own L) := ⟨fun n e t => (Keep s t ∧ ∃ (i : Nat) (id : Nat) (j : Nat) (cap : Option Nat) (L : List Nb), n + i = M.length ∧ elen e = 146 ∧ E e 0 = .int .i64 own ∧ E e 1 = nv ∧ E e 2 = vl ∧ E e 7 = .ptr ix 0 ∧ E e 9 = .ptr id 0 ∧ E e 11 = .int .i64 (i : Int) ∧ Pk s t t1.next id j cap ix jx capx own L), fun _ _ _ => rfl⟩
    refine lwp_inv I (n := M.length) ?_ ?_
    · rw [hI]
      exact ⟨hK12, 0, id0, j0, cap0, _, by omega, (by simp only [bE, Nat.reduceEqDiff, bN, Nat.reduceLT, hlen]; try rfl), (by simp only [bE, Nat.reduceEqDiff, bN, Nat.reduceLT, hlen, h0]; try rfl), (by simp only [bE, Nat.reduceEqDiff, bN, Nat.reduceLT, hlen, h1]; try rfl), (by simp only [bE, Nat.reduceEqDiff, bN, Nat.reduceLT, hlen, h2]; try rfl), (by simp only [bE, Nat.reduceEqDiff, bN, Nat.reduceLT, hlen]; try rfl), (by simp only [bE, Nat.reduceEqDiff, bN, Nat.reduceLT, hlen]; try rfl), (by simp only [bE, Nat.reduceEqDiff, bN, Nat.reduceLT, hlen]; try rfl), hP0⟩
    clear h0 h1 h2 hlen ha q1 q2
    intro n e t hi
    rw [hI] at hi
    obtain ⟨hK, i, id, j, cap, L, hni, he, e0, e1, e2, e7, e9, e11, hP⟩ := hi
    by_cases hlt : i < M.length
    rotate_left
    · have y1 := eq_false (show ¬ (i : Int) < (M.length : Int) by omega)
      simp (config := {contextual := true, maxDischargeDepth := 12, maxSteps := 4000000}) only [tb_at, he, e0, e1, e2, e7, e9, e11, hM, y1, notV_bool, Bool.not_true, Bool.not_false, pickV_t, pickV_f, bin_eql, bin_neq, bin_neb, bin_npn, bin_np, bin_npnx, gcall_tt, gpure_tf, beq_self_eq_true, Bool.true_and, Bool.and_true, decide_true, decide_false, ↓bD, bU, forall_const, bS, implies_true, isNx, eq_self, ↓wp_cond, ↓wp_loop, ↓reduceIte, reduceCtorEq, Nat.reduceEqDiff, Nat.reduceLT, Nat.reduceAdd, Nat.reduceMul, bT, ↓sg_bsl, ↓st_callf, bX, ap_mkfn, ap_conv, ↓wi_seq, ↓wi_base, ↓wi_block, ↓wi_cond, ↓wi_loop, ↓wi_rf, ↓wy_seq, ↓wy_base, ↓wy_block, ↓wy_cond, ↓wy_loop, ↓wy_yld, bin_shr1, q_known, ae_callvV, callvV_fn, List.append_nil, List.cons_append, List.nil_append, fs40, fs41, mmV_max2, ↓sg_callf3, q_known]
      all_goals first | exact hK | skip
    have y1 := eq_true (show (i : Int) < (M.length : Int) by omega)
    have hw2 := wrap_add1 (n := i) (by omega)
    obtain ⟨ac, hac⟩ := getsome hlt
    obtain ⟨i1, i2, _, _, _, _, i3⟩ := nb_lods (hK.read hV) hac
    have hs4 : sto (t.push (.row [.int .i64 0, .int .i64 0, .int .i64 0, .int .i64 0] true)) 4 (.ptr t.next 0) (.agg (Nb.av ac)) = some (.und, t.lowed.push (.row (Nb.av ac) true)) := sto_z4 (show sameN t.next t from rfl) _ _ _ _ _ rfl
    obtain ⟨tb, htb⟩ : ∃ tb, tb = t.lowed.push (.row (Nb.av ac) true) := ⟨_, rfl⟩
    rw [← htb] at hs4
    have hKb : Keep t tb := by rw [htb]; exact (Keep.refl t).lowed.push _
    have hKsb := hK.trans hKb
    have hgb : tb.get t.next = some (.row (Nb.av ac) true) := by rw [htb]; exact St.get_push_new t.lowed _
    obtain ⟨bx, hbx⟩ : ∃ bx, bx = t.next := ⟨_, rfl⟩
    rw [← hbx] at hgb hs4
    obtain ⟨lb0, lb1, lb2, lb3, lblt⟩ := row4_at hgb
    have hPb := hP.keep hKb
    have hidt := St.get_lt hP.ak.box
    have hjt := hP.ak.jlt
    have hbj : bx ∉ [j] := by simp; omega
    obtain ⟨p1, p2, p3, p4, p5, p6⟩ := hP.bx
    have o1 : ix ∉ [j] := by simp; omega
    have o2 : jx ∉ [j] := by simp; omega
    have o3 : id ∉ [jx] := by simp; omega
    have o4 : j ∉ [jx] := by simp; omega
    by_cases w0 : ac.r = 0
    · have y_0 := eq_true w0
      obtain ⟨tA, qa, hAA, hCA⟩ := q_Meet hPb.ak hrp hP.srt ac.e ac.a
      obtain ⟨tB, qb, hXB, hCB⟩ := q_RMeet (hPb.xk.chg hCA o1 o2) ac.e ac.a
      have hAB := hAA.chg hCB o3 o4
      have hKB : Keep s tB := (hKsb.chgn hCA (by simp; omega)).chgn hCB (by simp; omega)
      have hgA := hCA.blk hgb hbj
      obtain ⟨la0, la1, la2, la3, lalt⟩ := row4_at hgA
      have hPB : Pk s tB t1.next id j cap ix jx capx own (opL (meetF ac.e ac.a) L ac.e).2 := ⟨hAB, hXB, opL_srt (meet_r _ _) hP.srt, hP.bx⟩
      have qk := q_alike false hPB.ak hPB.xk hrp hPB.srt
      have hne := bin_neN (opL (meetF ac.e ac.a) L ac.e).1
      simp (config := {contextual := true, maxDischargeDepth := 12, maxSteps := 4000000}) only [tb_at, he, e0, e1, e2, e7, e9, e11, hM, y1, hw2, i1, i2, i3, ← hbx, hs4, lb0, lb1, lb2, lb3, lblt, y_0, qa, qb, la0, la1, la2, la3, lalt, hne, qk, notV_bool, Bool.not_true, Bool.not_false, pickV_t, pickV_f, bin_eql, bin_neq, bin_neb, bin_npn, bin_np, bin_npnx, gcall_tt, gpure_tf, beq_self_eq_true, Bool.true_and, Bool.and_true, decide_true, decide_false, ↓bD, bU, forall_const, bS, implies_true, isNx, eq_self, ↓wp_cond, ↓wp_loop, ↓reduceIte, reduceCtorEq, Nat.reduceEqDiff, Nat.reduceLT, Nat.reduceAdd, Nat.reduceMul, bT, ↓sg_bsl, ↓st_callf, bX, ap_mkfn, ap_conv, ↓wi_seq, ↓wi_base, ↓wi_block, ↓wi_cond, ↓wi_loop, ↓wi_rf, ↓wy_seq, ↓wy_base, ↓wy_block, ↓wy_cond, ↓wy_loop, ↓wy_yld, bin_shr1, q_known, ae_callvV, callvV_fn, List.append_nil, List.cons_append, List.nil_append, fs40, fs41, mmV_max2, ↓sg_callf3, q_known]
      refine ⟨n - 1, by omega, ?_⟩
      rw [hI]
      exact ⟨hKB, i + 1, id, j, cap, _, by omega, (by simp only [bE, Nat.reduceEqDiff, bN, Nat.reduceLT, he, e0, e1, e2, e7, e9, e11]; try rfl), (by simp only [bE, Nat.reduceEqDiff, bN, Nat.reduceLT, he, e0, e1, e2, e7, e9, e11]; try rfl), (by simp only [bE, Nat.reduceEqDiff, bN, Nat.reduceLT, he, e0, e1, e2, e7, e9, e11]; try rfl), (by simp only [bE, Nat.reduceEqDiff, bN, Nat.reduceLT, he, e0, e1, e2, e7, e9, e11]; try rfl), (by simp only [bE, Nat.reduceEqDiff, bN, Nat.reduceLT, he, e0, e1, e2, e7, e9, e11]; try rfl), (by simp only [bE, Nat.reduceEqDiff, bN, Nat.reduceLT, he, e0, e1, e2, e7, e9, e11]; try rfl), (by simp only [bE, Nat.reduceEqDiff, bN, Nat.reduceLT, he, e0, e1, e2, e7, e9, e11]; try rfl), hPB⟩
    have y_0 := eq_false w0
    by_cases w1 : ac.r = 1
    · have y_1 := eq_true w1
      obtain ⟨tA, qa, hAA, hCA⟩ := q_Ack hPb.ak hrp hP.srt ac.e ac.a ac.g
      obtain ⟨tB, qb, hXB, hCB⟩ := q_RAck (hPb.xk.chg hCA o1 o2) ac.e ac.a ac.g
      have hAB := hAA.chg hCB o3 o4
      have hKB : Keep s tB := (hKsb.chgn hCA (by simp; omega)).chgn hCB (by simp; omega)
      have hgA := hCA.blk hgb hbj
      obtain ⟨la0, la1, la2, la3, lalt⟩ := row4_at hgA
      have hPB : Pk s tB t1.next id j cap ix jx capx own (opL (ackF ac.a ac.g) L ac.e).2 := ⟨hAB, hXB, opL_srt (ack_r _ _) hP.srt, hP.bx⟩
      have qk := q_alike false hPB.ak hPB.xk hrp hPB.srt
      have hne := bin_neN (opL (ackF ac.a ac.g) L ac.e).1
      simp (config := {contextual := true, maxDischargeDepth := 12, maxSteps := 4000000}) only [tb_at, he, e0, e1, e2, e7, e9, e11, hM, y1, hw2, i1, i2, i3, ← hbx, hs4, lb0, lb1, lb2, lb3, lblt, y_0, y_1, qa, qb, la0, la1, la2, la3, lalt, hne, qk, notV_bool, Bool.not_true, Bool.not_false, pickV_t, pickV_f, bin_eql, bin_neq, bin_neb, bin_npn, bin_np, bin_npnx, gcall_tt, gpure_tf, beq_self_eq_true, Bool.true_and, Bool.and_true, decide_true, decide_false, ↓bD, bU, forall_const, bS, implies_true, isNx, eq_self, ↓wp_cond, ↓wp_loop, ↓reduceIte, reduceCtorEq, Nat.reduceEqDiff, Nat.reduceLT, Nat.reduceAdd, Nat.reduceMul, bT, ↓sg_bsl, ↓st_callf, bX, ap_mkfn, ap_conv, ↓wi_seq, ↓wi_base, ↓wi_block, ↓wi_cond, ↓wi_loop, ↓wi_rf, ↓wy_seq, ↓wy_base, ↓wy_block, ↓wy_cond, ↓wy_loop, ↓wy_yld, bin_shr1, q_known, ae_callvV, callvV_fn, List.append_nil, List.cons_append, List.nil_append, fs40, fs41, mmV_max2, ↓sg_callf3, q_known]
      refine ⟨n - 1, by omega, ?_⟩
      rw [hI]
      exact ⟨hKB, i + 1, id, j, cap, _, by omega, (by simp only [bE, Nat.reduceEqDiff, bN, Nat.reduceLT, he, e0, e1, e2, e7, e9, e11]; try rfl), (by simp only [bE, Nat.reduceEqDiff, bN, Nat.reduceLT, he, e0, e1, e2, e7, e9, e11]; try rfl), (by simp only [bE, Nat.reduceEqDiff, bN, Nat.reduceLT, he, e0, e1, e2, e7, e9, e11]; try rfl), (by simp only [bE, Nat.reduceEqDiff, bN, Nat.reduceLT, he, e0, e1, e2, e7, e9, e11]; try rfl), (by simp only [bE, Nat.reduceEqDiff, bN, Nat.reduceLT, he, e0, e1, e2, e7, e9, e11]; try rfl), (by simp only [bE, Nat.reduceEqDiff, bN, Nat.reduceLT, he, e0, e1, e2, e7, e9, e11]; try rfl), (by simp only [bE, Nat.reduceEqDiff, bN, Nat.reduceLT, he, e0, e1, e2, e7, e9, e11]; try rfl), hPB⟩
    have y_1 := eq_false w1
    by_cases w2 : ac.r = 2
    · have y_2 := eq_true w2
      obtain ⟨tA, qa, hAA, hCA⟩ := q_Recv hPb.ak hrp hP.srt ac.e ac.a ac.g
      obtain ⟨tB, qb, hXB, hCB⟩ := q_RRecv (hPb.xk.chg hCA o1 o2) ac.e ac.a ac.g
      have hAB := hAA.chg hCB o3 o4
      have hKB : Keep s tB := (hKsb.chgn hCA (by simp; omega)).chgn hCB (by simp; omega)
      have hgA := hCA.blk hgb hbj
      obtain ⟨la0, la1, la2, la3, lalt⟩ := row4_at hgA
      have hPB : Pk s tB t1.next id j cap ix jx capx own (opL (recvF ac.a ac.g) L ac.e).2 := ⟨hAB, hXB, opL_srt (recv_r _ _) hP.srt, hP.bx⟩
      have qk := q_alike false hPB.ak hPB.xk hrp hPB.srt
      have hne := bin_neN (opL (recvF ac.a ac.g) L ac.e).1
      simp (config := {contextual := true, maxDischargeDepth := 12, maxSteps := 4000000}) only [tb_at, he, e0, e1, e2, e7, e9, e11, hM, y1, hw2, i1, i2, i3, ← hbx, hs4, lb0, lb1, lb2, lb3, lblt, y_0, y_1, y_2, qa, qb, la0, la1, la2, la3, lalt, hne, qk, notV_bool, Bool.not_true, Bool.not_false, pickV_t, pickV_f, bin_eql, bin_neq, bin_neb, bin_npn, bin_np, bin_npnx, gcall_tt, gpure_tf, beq_self_eq_true, Bool.true_and, Bool.and_true, decide_true, decide_false, ↓bD, bU, forall_const, bS, implies_true, isNx, eq_self, ↓wp_cond, ↓wp_loop, ↓reduceIte, reduceCtorEq, Nat.reduceEqDiff, Nat.reduceLT, Nat.reduceAdd, Nat.reduceMul, bT, ↓sg_bsl, ↓st_callf, bX, ap_mkfn, ap_conv, ↓wi_seq, ↓wi_base, ↓wi_block, ↓wi_cond, ↓wi_loop, ↓wi_rf, ↓wy_seq, ↓wy_base, ↓wy_block, ↓wy_cond, ↓wy_loop, ↓wy_yld, bin_shr1, q_known, ae_callvV, callvV_fn, List.append_nil, List.cons_append, List.nil_append, fs40, fs41, mmV_max2, ↓sg_callf3, q_known]
      refine ⟨n - 1, by omega, ?_⟩
      rw [hI]
      exact ⟨hKB, i + 1, id, j, cap, _, by omega, (by simp only [bE, Nat.reduceEqDiff, bN, Nat.reduceLT, he, e0, e1, e2, e7, e9, e11]; try rfl), (by simp only [bE, Nat.reduceEqDiff, bN, Nat.reduceLT, he, e0, e1, e2, e7, e9, e11]; try rfl), (by simp only [bE, Nat.reduceEqDiff, bN, Nat.reduceLT, he, e0, e1, e2, e7, e9, e11]; try rfl), (by simp only [bE, Nat.reduceEqDiff, bN, Nat.reduceLT, he, e0, e1, e2, e7, e9, e11]; try rfl), (by simp only [bE, Nat.reduceEqDiff, bN, Nat.reduceLT, he, e0, e1, e2, e7, e9, e11]; try rfl), (by simp only [bE, Nat.reduceEqDiff, bN, Nat.reduceLT, he, e0, e1, e2, e7, e9, e11]; try rfl), (by simp only [bE, Nat.reduceEqDiff, bN, Nat.reduceLT, he, e0, e1, e2, e7, e9, e11]; try rfl), hPB⟩
    have y_2 := eq_false w2
    by_cases w3 : ac.r = 3
    · have y_3 := eq_true w3
      obtain ⟨tA, qa, hAA, hCA⟩ := q_Jump hPb.ak hrp hP.srt ac.e ac.a
      obtain ⟨tB, qb, hXB, hCB⟩ := q_RJump (hPb.xk.chg hCA o1 o2) ac.e ac.a
      have hAB := hAA.chg hCB o3 o4
      have hKB : Keep s tB := (hKsb.chgn hCA (by simp; omega)).chgn hCB (by simp; omega)
      have hgA := hCA.blk hgb hbj
      obtain ⟨la0, la1, la2, la3, lalt⟩ := row4_at hgA
      have hPB : Pk s tB t1.next id j cap ix jx capx own (opL (jumpF ac.a) L ac.e).2 := ⟨hAB, hXB, opL_srt (jump_r _) hP.srt, hP.bx⟩
      have qk := q_alike false hPB.ak hPB.xk hrp hPB.srt
      have hne := bin_neN (opL (jumpF ac.a) L ac.e).1
      simp (config := {contextual := true, maxDischargeDepth := 12, maxSteps := 4000000}) only [tb_at, he, e0, e1, e2, e7, e9, e11, hM, y1, hw2, i1, i2, i3, ← hbx, hs4, lb0, lb1, lb2, lb3, lblt, y_0, y_1, y_2, y_3, qa, qb, la0, la1, la2, la3, lalt, hne, qk, notV_bool, Bool.not_true, Bool.not_false, pickV_t, pickV_f, bin_eql, bin_neq, bin_neb, bin_npn, bin_np, bin_npnx, gcall_tt, gpure_tf, beq_self_eq_true, Bool.true_and, Bool.and_true, decide_true, decide_false, ↓bD, bU, forall_const, bS, implies_true, isNx, eq_self, ↓wp_cond, ↓wp_loop, ↓reduceIte, reduceCtorEq, Nat.reduceEqDiff, Nat.reduceLT, Nat.reduceAdd, Nat.reduceMul, bT, ↓sg_bsl, ↓st_callf, bX, ap_mkfn, ap_conv, ↓wi_seq, ↓wi_base, ↓wi_block, ↓wi_cond, ↓wi_loop, ↓wi_rf, ↓wy_seq, ↓wy_base, ↓wy_block, ↓wy_cond, ↓wy_loop, ↓wy_yld, bin_shr1, q_known, ae_callvV, callvV_fn, List.append_nil, List.cons_append, List.nil_append, fs40, fs41, mmV_max2, ↓sg_callf3, q_known]
      refine ⟨n - 1, by omega, ?_⟩
      rw [hI]
      exact ⟨hKB, i + 1, id, j, cap, _, by omega, (by simp only [bE, Nat.reduceEqDiff, bN, Nat.reduceLT, he, e0, e1, e2, e7, e9, e11]; try rfl), (by simp only [bE, Nat.reduceEqDiff, bN, Nat.reduceLT, he, e0, e1, e2, e7, e9, e11]; try rfl), (by simp only [bE, Nat.reduceEqDiff, bN, Nat.reduceLT, he, e0, e1, e2, e7, e9, e11]; try rfl), (by simp only [bE, Nat.reduceEqDiff, bN, Nat.reduceLT, he, e0, e1, e2, e7, e9, e11]; try rfl), (by simp only [bE, Nat.reduceEqDiff, bN, Nat.reduceLT, he, e0, e1, e2, e7, e9, e11]; try rfl), (by simp only [bE, Nat.reduceEqDiff, bN, Nat.reduceLT, he, e0, e1, e2, e7, e9, e11]; try rfl), (by simp only [bE, Nat.reduceEqDiff, bN, Nat.reduceLT, he, e0, e1, e2, e7, e9, e11]; try rfl), hPB⟩
    have y_3 := eq_false w3
    obtain ⟨id2, j2, cap2, tC, qc, hA2, g1, g2, hKC⟩ := q_Copy hPb.ak hrp
    have hCX := hPb.xk.keep hKC
    have hKsC := hKsb.trans hKC
    have htbn := hKb.next
    simp (config := {contextual := true, maxDischargeDepth := 12, maxSteps := 4000000}) only [tb_at, he, e0, e1, e2, e7, e9, e11, hM, y1, hw2, i1, i2, i3, ← hbx, hs4, lb0, lb1, lb2, lb3, lblt, y_0, y_1, y_2, y_3, qc, notV_bool, Bool.not_true, Bool.not_false, pickV_t, pickV_f, bin_eql, bin_neq, bin_neb, bin_npn, bin_np, bin_npnx, gcall_tt, gpure_tf, beq_self_eq_true, Bool.true_and, Bool.and_true, decide_true, decide_false, ↓bD, bU, forall_const, bS, implies_true, isNx, eq_self, ↓wp_cond, ↓wp_loop, ↓reduceIte, reduceCtorEq, Nat.reduceEqDiff, Nat.reduceLT, Nat.reduceAdd, Nat.reduceMul, bT, ↓sg_bsl, ↓st_callf, bX, ap_mkfn, ap_conv, ↓wi_seq, ↓wi_base, ↓wi_block, ↓wi_cond, ↓wi_loop, ↓wi_rf, ↓wy_seq, ↓wy_base, ↓wy_block, ↓wy_cond, ↓wy_loop, ↓wy_yld, bin_shr1, q_known, ae_callvV, callvV_fn, List.append_nil, List.cons_append, List.nil_append, fs40, fs41, mmV_max2, ↓sg_callf3, q_known]
    obtain ⟨J, hJ⟩ : ∃ J : Nat → Env → St → Prop, ∀ n1 e z_, J n1 e z_ = (Chg [j] tC z_ ∧ ∃ (k : Nat) (Lo : List Nb), n1 + k = 64 ∧ AkR z_ id j cap own Lo ∧ SrtB Lo ∧ elen e = 146 ∧ E e 0 = .int .i64 own ∧ E e 1 = nv ∧ E e 2 = vl ∧ E e 7 = .ptr ix 0 ∧ E e 9 = .ptr id 0 ∧ E e 11 = .int .i64 (i : Int) ∧ E e 13 = .ptr id2 0 ∧ E e 14 = .int .i64 ((k : Int) + 1)) := ⟨fun n1 e z_ => (Chg [j] tC z_ ∧ ∃ (k : Nat) (Lo : List Nb), n1 + k = 64 ∧ AkR z_ id j cap own Lo ∧ SrtB Lo ∧ elen e = 146 ∧ E e 0 = .int .i64 own ∧ E e 1 = nv ∧ E e 2 = vl ∧ E e 7 = .ptr ix 0 ∧ E e 9 = .ptr id 0 ∧ E e 11 = .int .i64 (i : Int) ∧ E e 13 = .ptr id2 0 ∧ E e 14 = .int .i64 ((k : Int) + 1)), fun _ _ _ => rfl⟩
    refine lwp_inv J (n := 64) ?_ ?_
    · rw [hJ]
      exact ⟨Chg.refl _ _, 0, L, by omega, hPb.ak.keep hKC, hP.srt, (by simp only [bE, Nat.reduceEqDiff, bN, Nat.reduceLT, he, e0, e1, e2, e7, e9, e11]; try rfl), (by simp only [bE, Nat.reduceEqDiff, bN, Nat.reduceLT, he, e0, e1, e2, e7, e9, e11]; try rfl), (by simp only [bE, Nat.reduceEqDiff, bN, Nat.reduceLT, he, e0, e1, e2, e7, e9, e11]; try rfl), (by simp only [bE, Nat.reduceEqDiff, bN, Nat.reduceLT, he, e0, e1, e2, e7, e9, e11]; try rfl), (by simp only [bE, Nat.reduceEqDiff, bN, Nat.reduceLT, he, e0, e1, e2, e7, e9, e11]; try rfl), (by simp only [bE, Nat.reduceEqDiff, bN, Nat.reduceLT, he, e0, e1, e2, e7, e9, e11]; try rfl), (by simp only [bE, Nat.reduceEqDiff, bN, Nat.reduceLT, he, e0, e1, e2, e7, e9, e11]; try rfl), (by simp only [bE, Nat.reduceEqDiff, bN, Nat.reduceLT, he, e0, e1, e2, e7, e9, e11]; try rfl), (by simp only [bE, Nat.reduceEqDiff, bN, Nat.reduceLT, he, e0, e1, e2, e7, e9, e11]; try rfl)⟩
    clear he e0 e1 e2 e7 e9 e11
    intro n1 e z_ hj
    rw [hJ] at hj
    obtain ⟨hCz, k, Lo, hnk, hAz, hSz, he, e0, e1, e2, e7, e9, e11, e13, e14⟩ := hj
    by_cases hk : k < 64
    · have y2 := eq_true (show (k : Int) + 1 ≤ 64 by omega)
      have hwk : IntKind.i64.wrap ((k : Int) + 1 + 1) = ((k + 1 : Nat) : Int) + 1 := by
        rw [show (k : Int) + 1 + 1 = ((k + 1 : Nat) : Int) + 1 by omega]
        exact wrapI (by omega) (by omega)
      obtain ⟨tA, qa, hAA, hCA⟩ := q_Meet hAz hrp hSz ((k : Int) + 1) 536870912
      have hSA := opL_srt (meet_r ((k : Int) + 1) 536870912) hSz
      obtain ⟨tB, qb, hAB, hCB⟩ := q_Jump hAA hrp hSA ((k : Int) + 1) 5
      have hSB := opL_srt (jump_r (n := (k : Int) + 1) 5) hSA
      have hCf := (hCz.trans hCA (by simp)).trans hCB (by simp)
      simp (config := {contextual := true, maxDischargeDepth := 12, maxSteps := 4000000}) only [tb_at, he, e0, e1, e2, e7, e9, e11, e13, e14, y2, hwk, qa, qb, notV_bool, Bool.not_true, Bool.not_false, pickV_t, pickV_f, bin_eql, bin_neq, bin_neb, bin_npn, bin_np, bin_npnx, gcall_tt, gpure_tf, beq_self_eq_true, Bool.true_and, Bool.and_true, decide_true, decide_false, ↓bD, bU, forall_const, bS, implies_true, isNx, eq_self, ↓wp_cond, ↓wp_loop, ↓reduceIte, reduceCtorEq, Nat.reduceEqDiff, Nat.reduceLT, Nat.reduceAdd, Nat.reduceMul, bT, ↓sg_bsl, ↓st_callf, bX, ap_mkfn, ap_conv, ↓wi_seq, ↓wi_base, ↓wi_block, ↓wi_cond, ↓wi_loop, ↓wi_rf, ↓wy_seq, ↓wy_base, ↓wy_block, ↓wy_cond, ↓wy_loop, ↓wy_yld, bin_shr1, q_known, ae_callvV, callvV_fn, List.append_nil, List.cons_append, List.nil_append, fs40, fs41, mmV_max2, ↓sg_callf3, q_known]
      refine ⟨n1 - 1, by omega, ?_⟩
      rw [hJ]
      exact ⟨hCf, k + 1, _, by omega, hAB, hSB, (by simp only [bE, Nat.reduceEqDiff, bN, Nat.reduceLT, he, e0, e1, e2, e7, e9, e11, e13, e14]; try rfl), (by simp only [bE, Nat.reduceEqDiff, bN, Nat.reduceLT, he, e0, e1, e2, e7, e9, e11, e13, e14]; try rfl), (by simp only [bE, Nat.reduceEqDiff, bN, Nat.reduceLT, he, e0, e1, e2, e7, e9, e11, e13, e14]; try rfl), (by simp only [bE, Nat.reduceEqDiff, bN, Nat.reduceLT, he, e0, e1, e2, e7, e9, e11, e13, e14]; try rfl), (by simp only [bE, Nat.reduceEqDiff, bN, Nat.reduceLT, he, e0, e1, e2, e7, e9, e11, e13, e14]; try rfl), (by simp only [bE, Nat.reduceEqDiff, bN, Nat.reduceLT, he, e0, e1, e2, e7, e9, e11, e13, e14]; try rfl), (by simp only [bE, Nat.reduceEqDiff, bN, Nat.reduceLT, he, e0, e1, e2, e7, e9, e11, e13, e14]; try rfl), (by simp only [bE, Nat.reduceEqDiff, bN, Nat.reduceLT, he, e0, e1, e2, e7, e9, e11, e13, e14]; try rfl), (by simp only [bE, Nat.reduceEqDiff, bN, Nat.reduceLT, he, e0, e1, e2, e7, e9, e11, e13, e14]; try rfl)⟩
    have y2 := eq_false (show ¬ (k : Int) + 1 ≤ 64 by omega)
    have hjb : j < tb.next := by omega
    have hPz : Pk s z_ t1.next id2 j2 cap2 ix jx capx own L := ⟨hA2.chg hCz (by simp; omega) (by simp; omega), hCX.chg hCz o1 o2, hP.srt, p1, p2, p3, p4, by omega, by omega⟩
    have hKz : Keep s z_ := hKsC.chgn hCz (by simp; omega)
    have qk := q_alike false hPz.ak hPz.xk hrp hPz.srt
    simp (config := {contextual := true, maxDischargeDepth := 12, maxSteps := 4000000}) only [tb_at, he, e0, e1, e2, e7, e9, e11, e13, e14, y2, hw2, qk, notV_bool, Bool.not_true, Bool.not_false, pickV_t, pickV_f, bin_eql, bin_neq, bin_neb, bin_npn, bin_np, bin_npnx, gcall_tt, gpure_tf, beq_self_eq_true, Bool.true_and, Bool.and_true, decide_true, decide_false, ↓bD, bU, forall_const, bS, implies_true, isNx, eq_self, ↓wp_cond, ↓wp_loop, ↓reduceIte, reduceCtorEq, Nat.reduceEqDiff, Nat.reduceLT, Nat.reduceAdd, Nat.reduceMul, bT, ↓sg_bsl, ↓st_callf, bX, ap_mkfn, ap_conv, ↓wi_seq, ↓wi_base, ↓wi_block, ↓wi_cond, ↓wi_loop, ↓wi_rf, ↓wy_seq, ↓wy_base, ↓wy_block, ↓wy_cond, ↓wy_loop, ↓wy_yld, bin_shr1, q_known, ae_callvV, callvV_fn, List.append_nil, List.cons_append, List.nil_append, fs40, fs41, mmV_max2, ↓sg_callf3, q_known]
    refine ⟨n - 1, by omega, ?_⟩
    rw [hI]
    exact ⟨hKz, i + 1, id2, j2, cap2, _, by omega, (by simp only [bE, Nat.reduceEqDiff, bN, Nat.reduceLT, he, e0, e1, e2, e7, e9, e11]; try rfl), (by simp only [bE, Nat.reduceEqDiff, bN, Nat.reduceLT, he, e0, e1, e2, e7, e9, e11]; try rfl), (by simp only [bE, Nat.reduceEqDiff, bN, Nat.reduceLT, he, e0, e1, e2, e7, e9, e11]; try rfl), (by simp only [bE, Nat.reduceEqDiff, bN, Nat.reduceLT, he, e0, e1, e2, e7, e9, e11]; try rfl), (by simp only [bE, Nat.reduceEqDiff, bN, Nat.reduceLT, he, e0, e1, e2, e7, e9, e11]; try rfl), (by simp only [bE, Nat.reduceEqDiff, bN, Nat.reduceLT, he, e0, e1, e2, e7, e9, e11]; try rfl), (by simp only [bE, Nat.reduceEqDiff, bN, Nat.reduceLT, he, e0, e1, e2, e7, e9, e11]; try rfl), hPz⟩

end Go.AM
end
