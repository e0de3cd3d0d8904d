/-
  What DiskHolds needs besides: new disks are new, numbers. Own work of this project; in part printed by a program of it.
-/
import Derived.Test.YtcdlgjllklhjfaaP3
set_option linter.unusedVariables false
set_option linter.unusedSimpArgs false
section
set_option maxRecDepth 100000
set_option maxHeartbeats 8000000
namespace Go.AM
open Go Go.Proofs

variable {s t u : St}

theorem ap_conv {env : Env} (k : IntKind) (x : AO) : apure env (.conv k x) = (match aev env x with
    | .int _ n => some (.int k (k.wrap n))
    | _ => none) := nrfl rfl
theorem bin_remN {a b : Nat} (hb : 0 < b) : binOp .rem .no (.int .i64 (a : Int)) (.int .i64 (b : Int)) = some (.int .i64 ((a % b : Nat) : Int)) := by
  have h0 : ¬ ((b : Int) = 0) := by omega
  have e : (a : Int).tmod (b : Int) = ((a % b : Nat) : Int) := by rw [Int.tmod_eq_emod_of_nonneg (by omega)]; rfl
  show (if (b : Int) = 0 then none else some (AV.int .i64 ((a : Int).tmod (b : Int)))) = _
  rw [if_neg h0, e]
theorem rda_bytes {v : AV} (h : RdA Try.prog s 8 33 v) : ∃ l, read byC s v = some l ∧ CapB v := by
  obtain ⟨vs, h1, rfl⟩ := h
  obtain ⟨v, l, rfl, hr, hc⟩ := rd_bytes2 h1
  have e : argAV Try.prog 33 [v] = v := by simp [argAV, by_under]
  rw [e]
  exact ⟨l, hr, hc⟩
theorem rda_u8 {v : AV} (h : RdA Try.prog s 8 5 v) : ∃ b : UInt8, v = .int .u8 (b.toNat : Int) := by
  obtain ⟨n, rfl, hw⟩ := rda_int u8_under h
  obtain ⟨b, rfl⟩ := u8_of hw
  exact ⟨b, rfl⟩
theorem w_NewF_ok {s : St} (a b : Nat) (h : 1 ≤ a ∧ a ≤ 4096 ∧ 32 ≤ b ∧ b ≤ 4096) (hfit : a * b ≤ 1048576) : ∀ env : Env, elen env = a8.ntmps → (∀ i x_, [.int .i64 (a : Int), .int .i64 (b : Int)][i]? = some x_ → E env i = x_) → awp (tb []) a8.body (fun x e t => (∀ i, x ≠ .exit i) ∧ ∃ r, aresults e t a8.results = some r ∧ (∃ id j, r = .tup [.ptr id 0, .int .i64 0] ∧ DkR t id j (some (a * b)) b (List.replicate (a * b) 0) ∧ s.next ≤ id ∧ s.next ≤ j) ∧ Keep s t) env s := by
  intro env hlen ha
  have h0 : E env 0 = _ := ha 0 _ rfl
  have h1 : E env 1 = _ := ha 1 _ rfl
  have hlen : elen env = _ := hlen
  simp only [a8] at hlen
  unfold a8
  try dsimp only [oO, oG]
  have z1 := eq_false (show ¬ (a : Int) < 1 by omega)
  have z2 := eq_false (show ¬ 4096 < (a : Int) by omega)
  have z3 := eq_false (show ¬ (b : Int) < 32 by omega)
  have z4 := eq_false (show ¬ 4096 < (b : Int) by omega)
  have hab : a * b ≤ 4096 * 4096 := Nat.mul_le_mul (by omega) (by omega)
  have hm : IntKind.i64.wrap ((a : Int) * (b : Int)) = ((a * b : Nat) : Int) := by
    rw [← Int.natCast_mul]
    exact wrapI (by omega) (by omega)
  have z5 := eq_false (show ¬ (1048576 : Int) < ((a * b : Nat) : Int) by omega)
  have hmk := mkslB (n := a * b) (by omega)
  obtain ⟨n, hn⟩ : ∃ n, n = a * b := ⟨_, rfl⟩
  rw [← hn] at hmk hm z5 hab hfit
  have f0 := fstep_bw0 (x := .int .i64 (b : Int)) ⟨rfl, rfl⟩ (.int .i64 0) .nils
  have f1 := fstep_bw1 (x := .sl s.next 0 n (some n) 1) ⟨rfl, rfl⟩ (.int .i64 (b : Int)) .nils
  have hbx : boxV 2 (.agg [.int .i64 (b : Int), .sl s.next 0 n (some n) 1]) = some (fun id => .ptr id 0, .row [.int .i64 (b : Int), .sl s.next 0 n (some n) 1] true) := boxV_2 rfl rfl
  have hD : DkR ((s.push (.row (byC.cells (List.replicate n 0)) true)).push (.row [.int .i64 (b : Int), .sl s.next 0 n (some n) 1] true)) (s.push (.row (byC.cells (List.replicate n 0)) true)).next s.next (some n) b (List.replicate n 0) := ⟨by rw [List.length_replicate]; exact St.get_push_new _ _, get_push_some _ (St.get_push_new s _), fun c hc => by injection hc with hc; rw [List.length_replicate]; exact hc.symm, by omega, by rw [List.length_replicate]; omega⟩
  simp (config := {contextual := true, maxDischargeDepth := 12}) only [tb_at, h0, h1, hlen, z1, z2, z3, z4, hm, z5, aa_mksl, hmk, ap_build, fillP_nil, fillP_cons, f0, f1, hbx, ↓bD, bU, forall_const, bS, implies_true, isNx, eq_self, ↓wp_cond, ↓wp_loop, ↓reduceIte, reduceCtorEq, Nat.reduceEqDiff, Nat.reduceLT, Nat.reduceAdd, Nat.reduceMul, bT, ↓sg_bsl, ↓st_callf, bX, ar_b2s, bin_mulE, ap_mkfn, ↓wi_seq, ↓wi_base, ↓wi_block, ↓wi_cond, ↓wi_loop, ↓wi_rf, ↓wy_seq, ↓wy_base, ↓wy_block, ↓wy_cond, ↓wy_loop, ↓wy_yld, q_known, ↓sg_callf3]
  rw [← hn]
  first | exact ⟨_, rfl, ⟨_, _, rfl, hD, by simp, Nat.le_refl _⟩, ((Keep.refl s).push _).push _⟩ | exact ⟨_, rfl, _, _, rfl, hD, by simp, Nat.le_refl _⟩
theorem q_NewF_ok {s : St} (a b : Nat) (h : 1 ≤ a ∧ a ≤ 4096 ∧ 32 ≤ b ∧ b ≤ 4096) (hfit : a * b ≤ 1048576) : ∃ id j t, acall R_New false [.int .i64 (a : Int), .int .i64 (b : Int)] s = some (.tup [.ptr id 0, .int .i64 0], t) ∧ DkR t id j (some (a * b)) b (List.replicate (a * b) 0) ∧ s.next ≤ id ∧ s.next ≤ j ∧ Keep s t := by
  obtain ⟨r, t, h1, ⟨id, j, rfl, h2, h4, h5⟩, h3⟩ := run_any (s := s) n_New (args := [.int .i64 (a : Int), .int .i64 (b : Int)]) (Q := fun r t => ∃ id j, r = .tup [.ptr id 0, .int .i64 0] ∧ DkR t id j (some (a * b)) b (List.replicate (a * b) 0) ∧ s.next ≤ id ∧ s.next ≤ j) (by simp [a8]) (fun r t t' hg hn ⟨id, j, e, h, k1, k2⟩ => ⟨id, j, e, ⟨by rw [hg]; exact h.box, by rw [hg]; exact h.dat, h.hcap, h.pos, h.len⟩, k1, k2⟩) (fun r t hgr hk ⟨id, j, e, h, _⟩ => by
    rw [e] at hgr
    simp [AV.ground, AV.plains, AV.plain] at hgr) (w_NewF_ok (s := lowd s) a b h hfit)
  exact ⟨id, j, t, h1, h2, h4, h5, h3⟩

end Go.AM
end
/-
  DiskHolds. Own work of this project; in part printed by a program of it.
-/
section
set_option maxRecDepth 100000
set_option maxHeartbeats 8000000
namespace Go.AM
open Go Go.Proofs

variable {s t u : St}

theorem rdas_7 {P : Program} {d : Nat} {t1 t2 t3 t4 t5 t6 t7 : TypeId} {xs : List AV} (h : RdAs P s d [t1, t2, t3, t4, t5, t6, t7] xs) : ∃ x1 x2 x3 x4 x5 x6 x7, xs = [x1, x2, x3, x4, x5, x6, x7] ∧ RdA P s d t1 x1 ∧ RdA P s d t2 x2 ∧ RdA P s d t3 x3 ∧ RdA P s d t4 x4 ∧ RdA P s d t5 x5 ∧ RdA P s d t6 x6 ∧ RdA P s d t7 x7 := by
  obtain ⟨x1, r, rfl, h1, h⟩ := h
  obtain ⟨x2, r, rfl, h2, h⟩ := h
  obtain ⟨x3, r, rfl, h3, h⟩ := h
  obtain ⟨x4, r, rfl, h4, h⟩ := h
  obtain ⟨x5, x6, x7, rfl, h5, h6, h7⟩ := rdas_3 h
  exact ⟨x1, x2, x3, x4, x5, x6, x7, rfl, h1, h2, h3, h4, h5, h6, h7⟩
theorem DkR.chg {id j j' z : Nat} {cap : Option Nat} {l : List UInt8} (h : DkR t id j cap z l) (q : Chg [j'] t u) (h1 : id ≠ j') (h2 : j ≠ j') : DkR u id j cap z l := ⟨q.blk h.box (by simpa using h1), q.blk h.dat (by simpa using h2), h.hcap, h.pos, h.len⟩
theorem SpL.bwj2 {b k z j : Nat} {lv : AV} {d : List UInt8} (h : SpL t b lv k z d) (hz : 0 < z) {s1 : St} (h1 : SpL s1 b lv k z d) (hj : j < b ∨ s1.next ≤ j) : BwJ j t lv (chL k z d) := by
  by_cases hd : d = []
  · rcases h with ⟨rfl, rfl⟩ | ⟨q, _⟩
    · have h0 : SpL t (j + 1) .nils k z [] := .inl ⟨rfl, rfl⟩
      exact h0.bwj hz (by omega) (by omega)
    · exact absurd hd q
  · obtain ⟨_, _, _, g⟩ := h1.resolve_left fun q => hd q.1
    have := St.get_lt g
    exact h.bwj hz (by omega) (by omega)
theorem NewB.cap {v : AV} {l : List UInt8} (h : NewB s t v l) : CapB v := by
  rcases h with ⟨rfl, _⟩ | ⟨j, cap, rfl, _, _, hc⟩
  · exact CapB.nils
  · intro id off n c z e
    injection e with _ _ e1 e2
    have := hc c e2
    omega
theorem take_all {l : List UInt8} {b n : Nat} (h : l.length = n) : (l.drop (0 * b)).take n = l := by rw [Nat.zero_mul, List.drop_zero, ← h, List.take_length]

end Go.AM
end
/-
  Cutting a walk in parts: behind the first part an own statement about registers and memory. Own work of this project.
-/
section
set_option maxRecDepth 100000
namespace Go.AM
open Go

theorem awp_cutM {call : Nat → List AV → St → Option (AV × St)} {A B : AC} {Q : AEx → Env → St → Prop} {env : Env} {s : St} (M : Env → St → Prop) (h1 : awp call A (fun x e t => x = .nor ∧ M e t) env s) (h2 : ∀ e t, M e t → awp call B Q e t) : awp call (.seq A B) Q env s := by
  rw [wp_seq]
  refine awp_mono _ (fun x e t h => ?_) h1
  obtain ⟨rfl, hm⟩ := h
  exact h2 e t hm
theorem awp_tail5 {call : Nat → List AV → St → Option (AV × St)} {A B C D E X : AC} {Q : AEx → Env → St → Prop} {env : Env} {s : St} (M : Env → St → Prop) (h : ∀ e t, M e t → awp call X Q e t) (k : ∀ Y, (∀ e t, M e t → awp call Y Q e t) → awp call (.seq A (.seq B (.seq C (.seq D (.seq E Y))))) Q env s) : awp call (.seq A (.seq B (.seq C (.seq D (.seq E X))))) Q env s := k X h

end Go.AM
end
/-
  DiskHolds. Own work of this project; in part printed by a program of it.
-/
section
set_option maxRecDepth 100000
set_option maxHeartbeats 8000000
namespace Go.AM
open Go Go.Proofs

variable {s t u : St}

theorem SpL.chg2 {b k z j : Nat} {lv : AV} {d : List UInt8} (h : SpL t b lv k z d) {s1 : St} (h1 : SpL s1 b lv k z d) (hj : j < b ∨ s1.next ≤ j) (q : Chg [j] t u) : SpL u b lv k z d := by
  rcases h with q0 | ⟨hd, e, g1, g2⟩
  · exact .inl q0
  · obtain ⟨_, _, _, g⟩ := h1.resolve_left fun q => hd q.1
    have := St.get_lt g
    exact .inr ⟨hd, e, q.blk g1 (by simp; omega), q.blk g2 (by simp; omega)⟩
theorem NewB.chgY {j : Nat} {v : AV} {l : List UInt8} {t0 : St} (h : NewB s t v l) (h0 : NewB s t0 v l) (hj : t0.next ≤ j) (q : Chg [j] t u) : NewB s u v l := by
  rcases h with h | ⟨i, cap, rfl, h1, h2, h3⟩
  · exact .inl h
  · rcases h0 with ⟨e, _⟩ | ⟨i', cap', e, _, g, _⟩
    · cases e
    · injection e with e1
      subst e1
      have := St.get_lt g
      exact .inr ⟨i, cap, rfl, h1, q.blk h2 (by simp; omega), h3⟩
theorem s_DiskHolds : SoundAt Try.prog 5 (lawC Try.prog 8 [3, 3, 33, 5, 32, 5, 5]) :=
  con_keep (tb_sound (l := [(10, closed [] (.bool true)), (18, R_Small), (8, R_New), (13, R_Write2), (19, R_Read2), (20, cSplit), (21, R_Copy2), (14, R_Crash2), (15, R_reads2)]) (by simpa using ⟨s_known, s_Small, s_New, s_Write2, s_Read2, s_Split, s_Copy2, s_Crash2, s_reads2⟩)) mixed Try.func5 k5 c5 fun args s r s' h => by
    obtain ⟨hh, rfl, rfl⟩ := lawC_some h
    obtain ⟨y1, y2, dv, y4, vb, y6, y7, rfl, k1, k2, k3, k4, k5, k6, k7⟩ := rdas_7 hh
    obtain ⟨a, rfl, _⟩ := rda_int i64_under k1
    obtain ⟨b, rfl, _⟩ := rda_int i64_under k2
    obtain ⟨dd, hdv, hdc⟩ := rda_bytes k3
    obtain ⟨B, rfl⟩ := rda_u8 k4
    obtain ⟨LB, hB⟩ := rda_bwa k5
    obtain ⟨W, rfl⟩ := rda_u8 k6
    obtain ⟨T, rfl⟩ := rda_u8 k7
    refine ⟨rfl, rfl, by simp [a5], fun env hlen ha => ?_⟩
    have h0 : E env 0 = _ := ha 0 _ rfl
    have h1 : E env 1 = _ := ha 1 _ rfl
    have h2 : E env 2 = _ := ha 2 _ rfl
    have h3 : E env 3 = _ := ha 3 _ rfl
    have h4 : E env 4 = _ := ha 4 _ rfl
    have h5 : E env 5 = _ := ha 5 _ rfl
    have h6 : E env 6 = _ := ha 6 _ rfl
    have hlen : elen env = _ := hlen
    simp only [a5] at hlen
    unfold a5
    try dsimp only [oO, oG]
    have n00 : ((0 : Int) = 0) = True := eq_true rfl
    have n30 : ((3 : Int) = 0) = False := eq_false (by decide)
    have n33 : ((3 : Int) = 3) = True := eq_true rfl
    have hLd := lenV_read hdv
    by_cases c1 : a < 1
    · have z1 := eq_true c1
      simp (config := {contextual := true, maxDischargeDepth := 12}) only [tb_at, h0, h1, h2, h3, h4, h5, h6, hlen, z1, notV_bool, Bool.not_true, Bool.not_false, pickV_t, pickV_f, bin_eql, bin_neb, bin_npn, bin_np, n00, n30, n33, decide_true, decide_false, gcall_tt, ap_conv, beq_self_eq_true, Bool.true_and, Bool.and_true, ↓bD, bU, forall_const, bS, implies_true, isNx, eq_self, ↓wp_cond, ↓wp_loop, ↓reduceIte, reduceCtorEq, Nat.reduceEqDiff, Nat.reduceLT, Nat.reduceAdd, Nat.reduceMul, bT, ↓sg_bsl, ↓st_callf, bX, ar_b2s, bin_mulE, ap_mkfn, ↓wi_seq, ↓wi_base, ↓wi_block, ↓wi_cond, ↓wi_loop, ↓wi_rf, ↓wy_seq, ↓wy_base, ↓wy_block, ↓wy_cond, ↓wy_loop, ↓wy_yld, q_known, ↓sg_callf3]
      all_goals first | exact .refl s | skip
    have z1 := eq_false c1
    by_cases c2 : 8 < a
    · have z2 := eq_true c2
      simp (config := {contextual := true, maxDischargeDepth := 12}) only [tb_at, h0, h1, h2, h3, h4, h5, h6, hlen, z1, z2, notV_bool, Bool.not_true, Bool.not_false, pickV_t, pickV_f, bin_eql, bin_neb, bin_npn, bin_np, n00, n30, n33, decide_true, decide_false, gcall_tt, ap_conv, beq_self_eq_true, Bool.true_and, Bool.and_true, ↓bD, bU, forall_const, bS, implies_true, isNx, eq_self, ↓wp_cond, ↓wp_loop, ↓reduceIte, reduceCtorEq, Nat.reduceEqDiff, Nat.reduceLT, Nat.reduceAdd, Nat.reduceMul, bT, ↓sg_bsl, ↓st_callf, bX, ar_b2s, bin_mulE, ap_mkfn, ↓wi_seq, ↓wi_base, ↓wi_block, ↓wi_cond, ↓wi_loop, ↓wi_rf, ↓wy_seq, ↓wy_base, ↓wy_block, ↓wy_cond, ↓wy_loop, ↓wy_yld, q_known, ↓sg_callf3]
      all_goals first | exact .refl s | skip
    have z2 := eq_false c2
    by_cases c3 : b < 32
    · have z3 := eq_true c3
      simp (config := {contextual := true, maxDischargeDepth := 12}) only [tb_at, h0, h1, h2, h3, h4, h5, h6, hlen, z1, z2, z3, notV_bool, Bool.not_true, Bool.not_false, pickV_t, pickV_f, bin_eql, bin_neb, bin_npn, bin_np, n00, n30, n33, decide_true, decide_false, gcall_tt, ap_conv, beq_self_eq_true, Bool.true_and, Bool.and_true, ↓bD, bU, forall_const, bS, implies_true, isNx, eq_self, ↓wp_cond, ↓wp_loop, ↓reduceIte, reduceCtorEq, Nat.reduceEqDiff, Nat.reduceLT, Nat.reduceAdd, Nat.reduceMul, bT, ↓sg_bsl, ↓st_callf, bX, ar_b2s, bin_mulE, ap_mkfn, ↓wi_seq, ↓wi_base, ↓wi_block, ↓wi_cond, ↓wi_loop, ↓wi_rf, ↓wy_seq, ↓wy_base, ↓wy_block, ↓wy_cond, ↓wy_loop, ↓wy_yld, q_known, ↓sg_callf3]
      all_goals first | exact .refl s | skip
    have z3 := eq_false c3
    by_cases c4 : 64 < b
    · have z4 := eq_true c4
      simp (config := {contextual := true, maxDischargeDepth := 12}) only [tb_at, h0, h1, h2, h3, h4, h5, h6, hlen, z1, z2, z3, z4, notV_bool, Bool.not_true, Bool.not_false, pickV_t, pickV_f, bin_eql, bin_neb, bin_npn, bin_np, n00, n30, n33, decide_true, decide_false, gcall_tt, ap_conv, beq_self_eq_true, Bool.true_and, Bool.and_true, ↓bD, bU, forall_const, bS, implies_true, isNx, eq_self, ↓wp_cond, ↓wp_loop, ↓reduceIte, reduceCtorEq, Nat.reduceEqDiff, Nat.reduceLT, Nat.reduceAdd, Nat.reduceMul, bT, ↓sg_bsl, ↓st_callf, bX, ar_b2s, bin_mulE, ap_mkfn, ↓wi_seq, ↓wi_base, ↓wi_block, ↓wi_cond, ↓wi_loop, ↓wi_rf, ↓wy_seq, ↓wy_base, ↓wy_block, ↓wy_cond, ↓wy_loop, ↓wy_yld, q_known, ↓sg_callf3]
      all_goals first | exact .refl s | skip
    have z4 := eq_false c4
    by_cases c5 : 500 < dd.length
    · have z5 := eq_true (show (500 : Int) < (dd.length : Int) by omega)
      simp (config := {contextual := true, maxDischargeDepth := 12}) only [tb_at, h0, h1, h2, h3, h4, h5, h6, hlen, z1, z2, z3, z4, hLd, z5, notV_bool, Bool.not_true, Bool.not_false, pickV_t, pickV_f, bin_eql, bin_neb, bin_npn, bin_np, n00, n30, n33, decide_true, decide_false, gcall_tt, ap_conv, beq_self_eq_true, Bool.true_and, Bool.and_true, ↓bD, bU, forall_const, bS, implies_true, isNx, eq_self, ↓wp_cond, ↓wp_loop, ↓reduceIte, reduceCtorEq, Nat.reduceEqDiff, Nat.reduceLT, Nat.reduceAdd, Nat.reduceMul, bT, ↓sg_bsl, ↓st_callf, bX, ar_b2s, bin_mulE, ap_mkfn, ↓wi_seq, ↓wi_base, ↓wi_block, ↓wi_cond, ↓wi_loop, ↓wi_rf, ↓wy_seq, ↓wy_base, ↓wy_block, ↓wy_cond, ↓wy_loop, ↓wy_yld, q_known, ↓sg_callf3]
      all_goals first | exact .refl s | skip
    have z5 := eq_false (show ¬ (500 : Int) < (dd.length : Int) by omega)
    have qs := q_Small false hB.arg 8 (by omega)
    have qs : acall R_Small false [vb, .int .i64 8] s = some (.bool (smallL LB 8), s) := qs
    cases hsm : smallL LB 8
    · rw [hsm] at qs
      simp (config := {contextual := true, maxDischargeDepth := 12}) only [tb_at, h0, h1, h2, h3, h4, h5, h6, hlen, z1, z2, z3, z4, hLd, z5, qs, notV_bool, Bool.not_true, Bool.not_false, pickV_t, pickV_f, bin_eql, bin_neb, bin_npn, bin_np, n00, n30, n33, decide_true, decide_false, gcall_tt, ap_conv, beq_self_eq_true, Bool.true_and, Bool.and_true, ↓bD, bU, forall_const, bS, implies_true, isNx, eq_self, ↓wp_cond, ↓wp_loop, ↓reduceIte, reduceCtorEq, Nat.reduceEqDiff, Nat.reduceLT, Nat.reduceAdd, Nat.reduceMul, bT, ↓sg_bsl, ↓st_callf, bX, ar_b2s, bin_mulE, ap_mkfn, ↓wi_seq, ↓wi_base, ↓wi_block, ↓wi_cond, ↓wi_loop, ↓wi_rf, ↓wy_seq, ↓wy_base, ↓wy_block, ↓wy_cond, ↓wy_loop, ↓wy_yld, q_known, ↓sg_callf3]
      all_goals first | exact .refl s | skip
    rw [hsm] at qs
    have hLB8 : LB.length ≤ 8 := by
      unfold smallL at hsm
      simp only [Bool.and_eq_true, decide_eq_true_eq] at hsm
      exact hsm.2
    obtain ⟨a, rfl⟩ : ∃ n : Nat, a = (n : Int) := ⟨a.toNat, by omega⟩
    obtain ⟨b, rfl⟩ : ∃ n : Nat, b = (n : Int) := ⟨b.toNat, by omega⟩
    have hab : a * b ≤ 8 * 64 := Nat.mul_le_mul (by omega) (by omega)
    have hab0 : 0 < a * b := Nat.mul_pos (by omega) (by omega)
    have hbz : 0 < b := by omega
    obtain ⟨id, j, t0, qn, hd0, hid, hjj, hK0⟩ := q_NewF_ok (s := s) a b ⟨by omega, by omega, by omega, by omega⟩ (by omega)
    have hLB := hB.arg.1
    refine awp_tail5 (fun e t => ∃ l : List UInt8, Keep s t ∧ DkR t id j (some (a * b)) b l ∧ l.length = a * b ∧ elen e = 296 ∧ E e 0 = .int .i64 (a : Int) ∧ E e 1 = .int .i64 (b : Int) ∧ E e 2 = dv ∧ E e 3 = .int .u8 (B.toNat : Int) ∧ E e 4 = vb ∧ E e 5 = .int .u8 (W.toNat : Int) ∧ E e 6 = .int .u8 (T.toNat : Int) ∧ E e 15 = .ptr id 0) ?_ ?_
    rotate_left
    · intro Y hY
      simp (config := {contextual := true, maxDischargeDepth := 12}) only [tb_at, h0, h1, h2, h3, h4, h5, h6, hlen, z1, z2, z3, z4, hLd, z5, qs, qn, hLB, notV_bool, Bool.not_true, Bool.not_false, pickV_t, pickV_f, bin_eql, bin_neb, bin_npn, bin_np, n00, n30, n33, decide_true, decide_false, gcall_tt, ap_conv, beq_self_eq_true, Bool.true_and, Bool.and_true, ↓bD, bU, forall_const, bS, implies_true, isNx, eq_self, ↓wp_cond, ↓wp_loop, ↓reduceIte, reduceCtorEq, Nat.reduceEqDiff, Nat.reduceLT, Nat.reduceAdd, Nat.reduceMul, bT, ↓sg_bsl, ↓st_callf, bX, ar_b2s, bin_mulE, ap_mkfn, ↓wi_seq, ↓wi_base, ↓wi_block, ↓wi_cond, ↓wi_loop, ↓wi_rf, ↓wy_seq, ↓wy_base, ↓wy_block, ↓wy_cond, ↓wy_loop, ↓wy_yld, q_known, ↓sg_callf3]
      obtain ⟨I, hI⟩ : ∃ I : Nat → Env → St → Prop, ∀ n e t, I n e t = (Keep s t ∧ ∃ (i : Nat) (l : List UInt8), n + i = LB.length ∧ elen e = 296 ∧ E e 0 = .int .i64 (a : Int) ∧ E e 1 = .int .i64 (b : Int) ∧ E e 2 = dv ∧ E e 3 = .int .u8 (B.toNat : Int) ∧ E e 4 = vb ∧ E e 5 = .int .u8 (W.toNat : Int) ∧ E e 6 = .int .u8 (T.toNat : Int) ∧ E e 15 = .ptr id 0 ∧ E e 17 = .int .i64 (i : Int) ∧ DkR t id j (some (a * b)) b l ∧ l.length = a * b) := ⟨fun n e t => (Keep s t ∧ ∃ (i : Nat) (l : List UInt8), n + i = LB.length ∧ elen e = 296 ∧ E e 0 = .int .i64 (a : Int) ∧ E e 1 = .int .i64 (b : Int) ∧ E e 2 = dv ∧ E e 3 = .int .u8 (B.toNat : Int) ∧ E e 4 = vb ∧ E e 5 = .int .u8 (W.toNat : Int) ∧ E e 6 = .int .u8 (T.toNat : Int) ∧ E e 15 = .ptr id 0 ∧ E e 17 = .int .i64 (i : Int) ∧ DkR t id j (some (a * b)) b l ∧ l.length = a * b), fun _ _ _ => rfl⟩
      refine lwp_inv I (n := LB.length) ?_ ?_
      · rw [hI]
        exact ⟨hK0, 0, List.replicate (a * b) 0, by omega, (by simp only [bE, Nat.reduceEqDiff, bN, Nat.reduceLT, hlen]; try rfl), (by simp only [bE, Nat.reduceEqDiff, bN, Nat.reduceLT, hlen, h0]; try rfl), (by simp only [bE, Nat.reduceEqDiff, bN, Nat.reduceLT, hlen, h1]; try rfl), (by simp only [bE, Nat.reduceEqDiff, bN, Nat.reduceLT, hlen, h2]; try rfl), (by simp only [bE, Nat.reduceEqDiff, bN, Nat.reduceLT, hlen, h3]; try rfl), (by simp only [bE, Nat.reduceEqDiff, bN, Nat.reduceLT, hlen, h4]; try rfl), (by simp only [bE, Nat.reduceEqDiff, bN, Nat.reduceLT, hlen, h5]; try rfl), (by simp only [bE, Nat.reduceEqDiff, bN, Nat.reduceLT, hlen, h6]; try rfl), (by simp only [bE, Nat.reduceEqDiff, bN, Nat.reduceLT, hlen]; try rfl), (by simp only [bE, Nat.reduceEqDiff, bN, Nat.reduceLT, hlen]; try rfl), hd0, by rw [List.length_replicate]⟩
      clear h0 h1 h2 h3 h4 h5 h6 hlen ha qs qn hd0
      intro n e t hi
      rw [hI] at hi
      obtain ⟨hK, i, l, hni, he, e0, e1, e2, e3, e4, e5, e6, e15, e17, hdt, hlt0⟩ := hi
      by_cases hlt : i < LB.length
      · obtain ⟨x, hx⟩ := getsome hlt
        have hw2 := wrap_add1 (n := i) (by omega)
        obtain ⟨v', sl1, hv'⟩ := (hB.apart hK hjj).one hx
        obtain ⟨t', q1, hd', hC'⟩ := q_Write2 hdt hv' (by simp)
        have hK' : Keep s t' := hK.chgn hC' fun k hk => by simp at hk; subst hk; exact hjj
        have y1 := eq_true (show (i : Int) < (LB.length : Int) by omega)
        simp (config := {contextual := true, maxDischargeDepth := 12}) only [tb_at, he, e0, e1, e2, e3, e4, e5, e6, e15, e17, hLB, y1, hw2, sl1, q1, ↓bD, bU, forall_const, bS, implies_true, isNx, eq_self, ↓wp_cond, ↓wp_loop, ↓reduceIte, reduceCtorEq, Nat.reduceEqDiff, Nat.reduceLT, Nat.reduceAdd, Nat.reduceMul, bT, ↓sg_bsl, ↓st_callf, bX, ar_b2s, bin_mulE, ap_mkfn, ↓wi_seq, ↓wi_base, ↓wi_block, ↓wi_cond, ↓wi_loop, ↓wi_rf, ↓wy_seq, ↓wy_base, ↓wy_block, ↓wy_cond, ↓wy_loop, ↓wy_yld, q_known, ↓sg_callf3]
        refine ⟨n - 1, by omega, ?_⟩
        rw [hI]
        exact ⟨hK', i + 1, wrS b l [x], by omega, (by simp only [bE, Nat.reduceEqDiff, bN, Nat.reduceLT, he, e0, e1, e2, e3, e4, e5, e6, e15, e17]; try rfl), (by simp only [bE, Nat.reduceEqDiff, bN, Nat.reduceLT, he, e0, e1, e2, e3, e4, e5, e6, e15, e17]; try rfl), (by simp only [bE, Nat.reduceEqDiff, bN, Nat.reduceLT, he, e0, e1, e2, e3, e4, e5, e6, e15, e17]; try rfl), (by simp only [bE, Nat.reduceEqDiff, bN, Nat.reduceLT, he, e0, e1, e2, e3, e4, e5, e6, e15, e17]; try rfl), (by simp only [bE, Nat.reduceEqDiff, bN, Nat.reduceLT, he, e0, e1, e2, e3, e4, e5, e6, e15, e17]; try rfl), (by simp only [bE, Nat.reduceEqDiff, bN, Nat.reduceLT, he, e0, e1, e2, e3, e4, e5, e6, e15, e17]; try rfl), (by simp only [bE, Nat.reduceEqDiff, bN, Nat.reduceLT, he, e0, e1, e2, e3, e4, e5, e6, e15, e17]; try rfl), (by simp only [bE, Nat.reduceEqDiff, bN, Nat.reduceLT, he, e0, e1, e2, e3, e4, e5, e6, e15, e17]; try rfl), (by simp only [bE, Nat.reduceEqDiff, bN, Nat.reduceLT, he, e0, e1, e2, e3, e4, e5, e6, e15, e17]; try rfl), (by simp only [bE, Nat.reduceEqDiff, bN, Nat.reduceLT, he, e0, e1, e2, e3, e4, e5, e6, e15, e17]; try rfl), hd', by rw [wrS_len, hlt0]⟩
      obtain rfl : i = LB.length := by omega
      have y1 := eq_false (show ¬ (LB.length : Int) < (LB.length : Int) by omega)
      simp (config := {contextual := true, maxDischargeDepth := 12}) only [tb_at, he, e0, e1, e2, e3, e4, e5, e6, e15, e17, hLB, y1, ↓bD, bU, forall_const, bS, implies_true, isNx, eq_self, ↓wp_cond, ↓wp_loop, ↓reduceIte, reduceCtorEq, Nat.reduceEqDiff, Nat.reduceLT, Nat.reduceAdd, Nat.reduceMul, bT, ↓sg_bsl, ↓st_callf, bX, ar_b2s, bin_mulE, ap_mkfn, ↓wi_seq, ↓wi_base, ↓wi_block, ↓wi_cond, ↓wi_loop, ↓wi_rf, ↓wy_seq, ↓wy_base, ↓wy_block, ↓wy_cond, ↓wy_loop, ↓wy_yld, q_known, ↓sg_callf3]
      all_goals first | (refine awp_mono _ (fun x e t q => ?_) (hY _ _ ⟨l, hK, hdt, hlt0, ?_⟩) <;> first | (simpa [aresults, aresult, E] using q) | (simp only [bE, Nat.reduceEqDiff, bN, Nat.reduceLT, he, e0, e1, e2, e3, e4, e5, e6, e15]; try trivial; try simp only [and_self]) | skip) | skip
    clear h0 h1 h2 h3 h4 h5 h6 hlen ha qs qn hd0
    rintro e t ⟨l, hK, hdt, hlt0, he, e0, e1, e2, e3, e4, e5, e6, e15⟩
    have hdiv : l.length / b = a := by rw [hlt0]; exact Nat.mul_div_cancel _ hbz
    have hmab : IntKind.i64.wrap ((a : Int) * (b : Int)) = ((a * b : Nat) : Int) := by
      rw [← Int.natCast_mul]
      exact wrapI (by omega) (by omega)
    obtain ⟨wv, tW, qw, hNw, hKw⟩ := q_Read3 (k := 0) (m := a * b) hdt (by rw [hdiv]; omega) (by omega)
    rw [take_all hlt0] at hNw
    have qw : acall R_Read2 false [.ptr id 0, .int .i64 0, .int .i64 ((a * b : Nat) : Int)] t = some (.tup [wv, .int .i64 0], tW) := qw
    have hdW := hdt.keep hKw
    have hKW := hK.trans hKw
    have hBn := B.toNat_lt
    have hcv : IntKind.i64.wrap (B.toNat : Int) = (B.toNat : Int) := wrapI (by omega) (by omega)
    have hrm := bin_remN (a := B.toNat) (b := a) (by omega)
    obtain ⟨kk, hkk⟩ : ∃ kk, kk = B.toNat % a := ⟨_, rfl⟩
    have hka : kk < a := by rw [hkk]; exact Nat.mod_lt _ (by omega)
    rw [← hkk] at hrm
    have hks : IntKind.i64.wrap ((a : Int) - (kk : Int)) = ((a - kk : Nat) : Int) := by
      rw [show (a : Int) - (kk : Int) = ((a - kk : Nat) : Int) by omega]
      exact wrapI (by omega) (by omega)
    have hkab : (a - kk) * b = a * b - kk * b := Nat.sub_mul _ _ _
    have hkb : kk * b ≤ a * b := Nat.mul_le_mul_right b (by omega)
    have hkm : IntKind.i64.wrap (((a - kk : Nat) : Int) * (b : Int)) = (((a - kk) * b : Nat) : Int) := by
      rw [← Int.natCast_mul]
      exact wrapI (by omega) (by omega)
    have hdvW := hKW.read hdv
    refine awp_cutM (fun e tq => t = tq ∧ elen e = 296 ∧ E e 0 = .int .i64 (a : Int) ∧ E e 1 = .int .i64 (b : Int) ∧ E e 2 = dv ∧ E e 3 = .int .u8 (B.toNat : Int) ∧ E e 4 = vb ∧ E e 5 = .int .u8 (W.toNat : Int) ∧ E e 6 = .int .u8 (T.toNat : Int) ∧ E e 15 = .ptr id 0 ∧ E e 18 = .int .i64 ((a * b : Nat) : Int)) ?_ ?_
    · simp (config := {contextual := true, maxDischargeDepth := 12}) only [tb_at, he, e0, e1, e2, e3, e4, e5, e6, e15, hmab, notV_bool, Bool.not_true, Bool.not_false, pickV_t, pickV_f, bin_eql, bin_neb, bin_npn, bin_np, n00, n30, n33, decide_true, decide_false, gcall_tt, ap_conv, beq_self_eq_true, Bool.true_and, Bool.and_true, ↓bD, bU, forall_const, bS, implies_true, isNx, eq_self, ↓wp_cond, ↓wp_loop, ↓reduceIte, reduceCtorEq, Nat.reduceEqDiff, Nat.reduceLT, Nat.reduceAdd, Nat.reduceMul, bT, ↓sg_bsl, ↓st_callf, bX, ar_b2s, bin_mulE, ap_mkfn, ↓wi_seq, ↓wi_base, ↓wi_block, ↓wi_cond, ↓wi_loop, ↓wi_rf, ↓wy_seq, ↓wy_base, ↓wy_block, ↓wy_cond, ↓wy_loop, ↓wy_yld, q_known, ↓sg_callf3]
    clear he e0 e1 e2 e3 e4 e5 e6 e15
    rintro e _ ⟨rfl, he, e0, e1, e2, e3, e4, e5, e6, e15, e18⟩
    refine awp_cutM (fun e tq => tW = tq ∧ elen e = 296 ∧ E e 0 = .int .i64 (a : Int) ∧ E e 1 = .int .i64 (b : Int) ∧ E e 2 = dv ∧ E e 3 = .int .u8 (B.toNat : Int) ∧ E e 4 = vb ∧ E e 5 = .int .u8 (W.toNat : Int) ∧ E e 6 = .int .u8 (T.toNat : Int) ∧ E e 15 = .ptr id 0 ∧ E e 18 = .int .i64 ((a * b : Nat) : Int) ∧ E e 19 = wv ∧ E e 16 = .int .i64 0) ?_ ?_
    · simp (config := {contextual := true, maxDischargeDepth := 12}) only [tb_at, he, e0, e1, e2, e3, e4, e5, e6, e15, e18, qw, notV_bool, Bool.not_true, Bool.not_false, pickV_t, pickV_f, bin_eql, bin_neb, bin_npn, bin_np, n00, n30, n33, decide_true, decide_false, gcall_tt, ap_conv, beq_self_eq_true, Bool.true_and, Bool.and_true, ↓bD, bU, forall_const, bS, implies_true, isNx, eq_self, ↓wp_cond, ↓wp_loop, ↓reduceIte, reduceCtorEq, Nat.reduceEqDiff, Nat.reduceLT, Nat.reduceAdd, Nat.reduceMul, bT, ↓sg_bsl, ↓st_callf, bX, ar_b2s, bin_mulE, ap_mkfn, ↓wi_seq, ↓wi_base, ↓wi_block, ↓wi_cond, ↓wi_loop, ↓wi_rf, ↓wy_seq, ↓wy_base, ↓wy_block, ↓wy_cond, ↓wy_loop, ↓wy_yld, q_known, ↓sg_callf3]
    clear he e0 e1 e2 e3 e4 e5 e6 e15 e18
    rintro e _ ⟨rfl, he, e0, e1, e2, e3, e4, e5, e6, e15, e18, e19, e16⟩
    by_cases hfit : kk * b + dd.length ≤ a * b
    rotate_left
    · have qsp := q_Split_long hdW (by rw [hdiv]; exact hka) hdvW (by omega) (by omega)
      have y2 := eq_false (show ¬ (dd.length : Int) ≤ (((a - kk) * b : Nat) : Int) by omega)
      simp (config := {contextual := true, maxDischargeDepth := 12}) only [tb_at, he, e0, e1, e2, e3, e4, e5, e6, e15, e18, e19, e16, hcv, hrm, qsp, hLd, hks, hkm, y2, notV_bool, Bool.not_true, Bool.not_false, pickV_t, pickV_f, bin_eql, bin_neb, bin_npn, bin_np, n00, n30, n33, decide_true, decide_false, gcall_tt, ap_conv, beq_self_eq_true, Bool.true_and, Bool.and_true, ↓bD, bU, forall_const, bS, implies_true, isNx, eq_self, ↓wp_cond, ↓wp_loop, ↓reduceIte, reduceCtorEq, Nat.reduceEqDiff, Nat.reduceLT, Nat.reduceAdd, Nat.reduceMul, bT, ↓sg_bsl, ↓st_callf, bX, ar_b2s, bin_mulE, ap_mkfn, ↓wi_seq, ↓wi_base, ↓wi_block, ↓wi_cond, ↓wi_loop, ↓wi_rf, ↓wy_seq, ↓wy_base, ↓wy_block, ↓wy_cond, ↓wy_loop, ↓wy_yld, q_known, ↓sg_callf3]
      all_goals first | exact hKW | skip
    obtain ⟨lv, tS, qsp, hSp, hKs⟩ := q_SplitD hdW (by rw [hdiv]; exact hka) hdvW (by omega)
    have y2 := eq_true (show (dd.length : Int) ≤ (((a - kk) * b : Nat) : Int) by omega)
    have lt0 := St.get_lt hdW.dat
    have lt1 := St.get_lt hdW.box
    have hdS := hdW.keep hKs
    refine awp_cutM (fun e tq => tS = tq ∧ elen e = 296 ∧ E e 0 = .int .i64 (a : Int) ∧ E e 1 = .int .i64 (b : Int) ∧ E e 2 = dv ∧ E e 3 = .int .u8 (B.toNat : Int) ∧ E e 4 = vb ∧ E e 5 = .int .u8 (W.toNat : Int) ∧ E e 6 = .int .u8 (T.toNat : Int) ∧ E e 15 = .ptr id 0 ∧ E e 18 = .int .i64 ((a * b : Nat) : Int) ∧ E e 19 = wv ∧ E e 16 = .int .i64 0 ∧ E e 20 = lv ∧ E e 21 = .int .i64 0) ?_ ?_
    · simp (config := {contextual := true, maxDischargeDepth := 12}) only [tb_at, he, e0, e1, e2, e3, e4, e5, e6, e15, e18, e19, e16, hcv, hrm, qsp, notV_bool, Bool.not_true, Bool.not_false, pickV_t, pickV_f, bin_eql, bin_neb, bin_npn, bin_np, n00, n30, n33, decide_true, decide_false, gcall_tt, ap_conv, beq_self_eq_true, Bool.true_and, Bool.and_true, ↓bD, bU, forall_const, bS, implies_true, isNx, eq_self, ↓wp_cond, ↓wp_loop, ↓reduceIte, reduceCtorEq, Nat.reduceEqDiff, Nat.reduceLT, Nat.reduceAdd, Nat.reduceMul, bT, ↓sg_bsl, ↓st_callf, bX, ar_b2s, bin_mulE, ap_mkfn, ↓wi_seq, ↓wi_base, ↓wi_block, ↓wi_cond, ↓wi_loop, ↓wi_rf, ↓wy_seq, ↓wy_base, ↓wy_block, ↓wy_cond, ↓wy_loop, ↓wy_yld, q_known, ↓sg_callf3]
    clear he e0 e1 e2 e3 e4 e5 e6 e15 e18 e19 e16
    rintro e _ ⟨rfl, he, e0, e1, e2, e3, e4, e5, e6, e15, e18, e19, e16, e20, e21⟩
    refine awp_cutM (fun e tq => tS = tq ∧ elen e = 296 ∧ E e 0 = .int .i64 (a : Int) ∧ E e 1 = .int .i64 (b : Int) ∧ E e 2 = dv ∧ E e 3 = .int .u8 (B.toNat : Int) ∧ E e 4 = vb ∧ E e 5 = .int .u8 (W.toNat : Int) ∧ E e 6 = .int .u8 (T.toNat : Int) ∧ E e 15 = .ptr id 0 ∧ E e 18 = .int .i64 ((a * b : Nat) : Int) ∧ E e 19 = wv ∧ E e 20 = lv ∧ E e 21 = .int .i64 0) ?_ ?_
    · simp (config := {contextual := true, maxDischargeDepth := 12}) only [tb_at, he, e0, e1, e2, e3, e4, e5, e6, e15, e18, e19, e16, e20, e21, hcv, hrm, hLd, hks, hkm, y2, notV_bool, Bool.not_true, Bool.not_false, pickV_t, pickV_f, bin_eql, bin_neb, bin_npn, bin_np, n00, n30, n33, decide_true, decide_false, gcall_tt, ap_conv, beq_self_eq_true, Bool.true_and, Bool.and_true, ↓bD, bU, forall_const, bS, implies_true, isNx, eq_self, ↓wp_cond, ↓wp_loop, ↓reduceIte, reduceCtorEq, Nat.reduceEqDiff, Nat.reduceLT, Nat.reduceAdd, Nat.reduceMul, bT, ↓sg_bsl, ↓st_callf, bX, ar_b2s, bin_mulE, ap_mkfn, ↓wi_seq, ↓wi_base, ↓wi_block, ↓wi_cond, ↓wi_loop, ↓wi_rf, ↓wy_seq, ↓wy_base, ↓wy_block, ↓wy_cond, ↓wy_loop, ↓wy_yld, q_known, ↓sg_callf3]
    clear he e0 e1 e2 e3 e4 e5 e6 e15 e18 e19 e16 e20 e21
    rintro e _ ⟨rfl, he, e0, e1, e2, e3, e4, e5, e6, e15, e18, e19, e20, e21⟩
    refine awp_cutM (fun e tq => tS = tq ∧ elen e = 296 ∧ E e 0 = .int .i64 (a : Int) ∧ E e 1 = .int .i64 (b : Int) ∧ E e 2 = dv ∧ E e 3 = .int .u8 (B.toNat : Int) ∧ E e 4 = vb ∧ E e 5 = .int .u8 (W.toNat : Int) ∧ E e 6 = .int .u8 (T.toNat : Int) ∧ E e 15 = .ptr id 0 ∧ E e 18 = .int .i64 ((a * b : Nat) : Int) ∧ E e 19 = wv ∧ E e 20 = lv) ?_ ?_
    · simp (config := {contextual := true, maxDischargeDepth := 12}) only [tb_at, he, e0, e1, e2, e3, e4, e5, e6, e15, e18, e19, e20, e21, n00, notV_bool, Bool.not_true, Bool.not_false, pickV_t, pickV_f, bin_eql, bin_neb, bin_npn, bin_np, n00, n30, n33, decide_true, decide_false, gcall_tt, ap_conv, beq_self_eq_true, Bool.true_and, Bool.and_true, ↓bD, bU, forall_const, bS, implies_true, isNx, eq_self, ↓wp_cond, ↓wp_loop, ↓reduceIte, reduceCtorEq, Nat.reduceEqDiff, Nat.reduceLT, Nat.reduceAdd, Nat.reduceMul, bT, ↓sg_bsl, ↓st_callf, bX, ar_b2s, bin_mulE, ap_mkfn, ↓wi_seq, ↓wi_base, ↓wi_block, ↓wi_cond, ↓wi_loop, ↓wi_rf, ↓wy_seq, ↓wy_base, ↓wy_block, ↓wy_cond, ↓wy_loop, ↓wy_yld, q_known, ↓sg_callf3]
    clear he e0 e1 e2 e3 e4 e5 e6 e15 e18 e19 e20 e21
    rintro e _ ⟨rfl, he, e0, e1, e2, e3, e4, e5, e6, e15, e18, e19, e20⟩
    obtain ⟨ia, ja, ca, tA, qa, hdA, hia, hja, hKa⟩ := q_Copy2 hdS (by omega)
    have hdS1 := hdS.keep hKa
    obtain ⟨ib, jb, cb, tB, qb, hdB, hib, hjb, hKb⟩ := q_Copy2 hdS1 (by omega)
    obtain ⟨ic, jc, cc, tC, qc, hdC, hic, hjc, hKc⟩ := q_Copy2 (hdS1.keep hKb) (by omega)
    have la1 := St.get_lt hdA.dat
    have la2 := St.get_lt hdA.box
    have lb1 := St.get_lt hdB.dat
    have lb2 := St.get_lt hdB.box
    have lc1 := St.get_lt hdC.dat
    have lc2 := St.get_lt hdC.box
    have nWS := hKs.next
    have nSA := hKa.next
    have nAB := hKb.next
    have nBC := hKc.next
    have hSC := (hKa.trans hKb).trans hKc
    refine awp_cutM (fun e tq => tC = tq ∧ elen e = 296 ∧ E e 0 = .int .i64 (a : Int) ∧ E e 1 = .int .i64 (b : Int) ∧ E e 2 = dv ∧ E e 3 = .int .u8 (B.toNat : Int) ∧ E e 4 = vb ∧ E e 5 = .int .u8 (W.toNat : Int) ∧ E e 6 = .int .u8 (T.toNat : Int) ∧ E e 15 = .ptr id 0 ∧ E e 18 = .int .i64 ((a * b : Nat) : Int) ∧ E e 19 = wv ∧ E e 20 = lv ∧ E e 22 = .ptr ia 0 ∧ E e 23 = .ptr ib 0 ∧ E e 24 = .ptr ic 0) ?_ ?_
    · simp (config := {contextual := true, maxDischargeDepth := 12}) only [tb_at, he, e0, e1, e2, e3, e4, e5, e6, e15, e18, e19, e20, qa, qb, qc, notV_bool, Bool.not_true, Bool.not_false, pickV_t, pickV_f, bin_eql, bin_neb, bin_npn, bin_np, n00, n30, n33, decide_true, decide_false, gcall_tt, ap_conv, beq_self_eq_true, Bool.true_and, Bool.and_true, ↓bD, bU, forall_const, bS, implies_true, isNx, eq_self, ↓wp_cond, ↓wp_loop, ↓reduceIte, reduceCtorEq, Nat.reduceEqDiff, Nat.reduceLT, Nat.reduceAdd, Nat.reduceMul, bT, ↓sg_bsl, ↓st_callf, bX, ar_b2s, bin_mulE, ap_mkfn, ↓wi_seq, ↓wi_base, ↓wi_block, ↓wi_cond, ↓wi_loop, ↓wi_rf, ↓wy_seq, ↓wy_base, ↓wy_block, ↓wy_cond, ↓wy_loop, ↓wy_yld, q_known, ↓sg_callf3]
    clear he e0 e1 e2 e3 e4 e5 e6 e15 e18 e19 e20
    rintro e _ ⟨rfl, he, e0, e1, e2, e3, e4, e5, e6, e15, e18, e19, e20, e22, e23, e24⟩
    obtain ⟨ch, hch⟩ : ∃ ch, ch = chL kk b dd := ⟨_, rfl⟩
    have hcl : ch.length = chunksN b dd.length := by rw [hch, chL_len]
    have hcl6 : ch.length ≤ 600 := by
      rw [hcl]
      have : (dd.length + b - 1) / b ≤ dd.length + b - 1 := Nat.div_le_self _ _
      unfold chunksN
      omega
    have hchk : checkP a b ch = 0 := by
      unfold checkP
      rw [if_neg (by omega)]
      exact fits_chk (by rw [hch]; exact chL_fits hbz hfit)
    have hchl : checkP (l.length / b) b ch = 0 := by rw [hdiv]; exact hchk
    obtain ⟨nw, hnw⟩ : ∃ nw, nw = putD l (kk * b) dd := ⟨_, rfl⟩
    have hnl : nw.length = a * b := by rw [hnw, putD_len (by omega), hlt0]
    have hdivn : nw.length / b = a := by rw [hnl]; exact Nat.mul_div_cancel _ hbz
    have hSpC := hSp.mono (u := tC) fun id bl _ g => hSC.blk g
    have hvC : BwJ j tC lv ch := by rw [hch]; exact hSpC.bwj2 hbz hSp (.inl lt0)
    have hLv := hvC.len
    obtain ⟨tD, q1, hdD, hCd⟩ := q_Write2 (hdS1.keep (hKb.trans hKc)) hvC (by omega)
    rw [hchl] at q1
    have hwS : wrS b l ch = nw := by unfold wrS; rw [if_pos hchl, hch, wr_all hbz (by omega), hnw]
    rw [hwS] at hdD
    have nCD := hCd.next
    have hSpD : SpL tD tW.next lv kk b dd := hSpC.chg2 hSp (.inl lt0) hCd
    have hdA4 := (hdA.keep (hKb.trans hKc)).chg hCd (by omega) (by omega)
    have hdB4 := (hdB.keep hKc).chg hCd (by omega) (by omega)
    have hdC4 := hdC.chg hCd (by omega) (by omega)
    have hNwD := (hNw.mono (u := tC) fun id bl g => (hKs.trans hSC).blk g).chg (St.get_lt hdt.dat) hCd
    have hKC := (hKW.trans hKs).trans hSC
    have hKD : Keep s tD := hKC.chgn hCd fun k hk => by simp at hk; subst hk; exact hjj
    have q2 := q_reads2 false hdD (k := kk) (m := dd.length) (by rw [hdivn]; exact hka) (by omega) (hKD.read hdv) 0
    have hrd2 : ((nw.drop (kk * b)).take dd.length) = dd := by rw [hnw]; exact putD_read (by omega)
    rw [hrd2, decide_eq_true rfl, decide_eq_true rfl] at q2
    refine awp_cutM (fun e tq => tD = tq ∧ elen e = 296 ∧ E e 0 = .int .i64 (a : Int) ∧ E e 1 = .int .i64 (b : Int) ∧ E e 2 = dv ∧ E e 3 = .int .u8 (B.toNat : Int) ∧ E e 4 = vb ∧ E e 5 = .int .u8 (W.toNat : Int) ∧ E e 6 = .int .u8 (T.toNat : Int) ∧ E e 15 = .ptr id 0 ∧ E e 18 = .int .i64 ((a * b : Nat) : Int) ∧ E e 19 = wv ∧ E e 20 = lv ∧ E e 22 = .ptr ia 0 ∧ E e 23 = .ptr ib 0 ∧ E e 24 = .ptr ic 0) ?_ ?_
    · simp (config := {contextual := true, maxDischargeDepth := 12}) only [tb_at, he, e0, e1, e2, e3, e4, e5, e6, e15, e18, e19, e20, e22, e23, e24, q1, q2, hcv, hrm, hLd, notV_bool, Bool.not_true, Bool.not_false, pickV_t, pickV_f, bin_eql, bin_neb, bin_npn, bin_np, n00, n30, n33, decide_true, decide_false, gcall_tt, ap_conv, beq_self_eq_true, Bool.true_and, Bool.and_true, ↓bD, bU, forall_const, bS, implies_true, isNx, eq_self, ↓wp_cond, ↓wp_loop, ↓reduceIte, reduceCtorEq, Nat.reduceEqDiff, Nat.reduceLT, Nat.reduceAdd, Nat.reduceMul, bT, ↓sg_bsl, ↓st_callf, bX, ar_b2s, bin_mulE, ap_mkfn, ↓wi_seq, ↓wi_base, ↓wi_block, ↓wi_cond, ↓wi_loop, ↓wi_rf, ↓wy_seq, ↓wy_base, ↓wy_block, ↓wy_cond, ↓wy_loop, ↓wy_yld, q_known, ↓sg_callf3]
    clear he e0 e1 e2 e3 e4 e5 e6 e15 e18 e19 e20 e22 e23 e24
    rintro e _ ⟨rfl, he, e0, e1, e2, e3, e4, e5, e6, e15, e18, e19, e20, e22, e23, e24⟩
    obtain ⟨nv, tN, q3, hNn, hKn⟩ := q_Read3 (k := 0) (m := a * b) hdD (by rw [hdivn]; omega) (by omega)
    rw [take_all hnl] at hNn
    have q3 : acall R_Read2 false [.ptr id 0, .int .i64 0, .int .i64 ((a * b : Nat) : Int)] tD = some (.tup [nv, .int .i64 0], tN) := q3
    refine awp_cutM (fun e tq => tN = tq ∧ elen e = 296 ∧ E e 0 = .int .i64 (a : Int) ∧ E e 1 = .int .i64 (b : Int) ∧ E e 2 = dv ∧ E e 3 = .int .u8 (B.toNat : Int) ∧ E e 4 = vb ∧ E e 5 = .int .u8 (W.toNat : Int) ∧ E e 6 = .int .u8 (T.toNat : Int) ∧ E e 15 = .ptr id 0 ∧ E e 18 = .int .i64 ((a * b : Nat) : Int) ∧ E e 19 = wv ∧ E e 20 = lv ∧ E e 22 = .ptr ia 0 ∧ E e 23 = .ptr ib 0 ∧ E e 24 = .ptr ic 0 ∧ E e 25 = nv ∧ E e 16 = .int .i64 0) ?_ ?_
    · simp (config := {contextual := true, maxDischargeDepth := 12}) only [tb_at, he, e0, e1, e2, e3, e4, e5, e6, e15, e18, e19, e20, e22, e23, e24, q3, notV_bool, Bool.not_true, Bool.not_false, pickV_t, pickV_f, bin_eql, bin_neb, bin_npn, bin_np, n00, n30, n33, decide_true, decide_false, gcall_tt, ap_conv, beq_self_eq_true, Bool.true_and, Bool.and_true, ↓bD, bU, forall_const, bS, implies_true, isNx, eq_self, ↓wp_cond, ↓wp_loop, ↓reduceIte, reduceCtorEq, Nat.reduceEqDiff, Nat.reduceLT, Nat.reduceAdd, Nat.reduceMul, bT, ↓sg_bsl, ↓st_callf, bX, ar_b2s, bin_mulE, ap_mkfn, ↓wi_seq, ↓wi_base, ↓wi_block, ↓wi_cond, ↓wi_loop, ↓wi_rf, ↓wy_seq, ↓wy_base, ↓wy_block, ↓wy_cond, ↓wy_loop, ↓wy_yld, q_known, ↓sg_callf3]
    clear he e0 e1 e2 e3 e4 e5 e6 e15 e18 e19 e20 e22 e23 e24
    rintro e _ ⟨rfl, he, e0, e1, e2, e3, e4, e5, e6, e15, e18, e19, e20, e22, e23, e24, e25, e16⟩
    have hSpN := hSpD.mono (u := tN) fun id bl _ g => hKn.blk g
    have hvA : BwJ ja tN lv ch := by rw [hch]; exact hSpN.bwj2 hbz hSp (.inr hja)
    obtain ⟨tE, q4, hdE, hCe⟩ := q_Crash2 (hdA4.keep hKn) hvA (by omega) hchl (w := ch.length) (m := 0) (Nat.le_refl _) (Nat.zero_le _) (by rw [hdiv]; omega)
    have hwE : wrL b l (crL ch ch.length 0) = nw := by
      rw [hcl, hch, wr_crash hbz (by omega) (Nat.le_refl _) (Nat.zero_le _), List.take_of_length_le (by have := chunk_all (n := dd.length) hbz; omega), hnw]
    rw [hwE] at hdE
    have q4 : acall R_Crash2 false [.ptr ia 0, lv, .int .i64 (ch.length : Int), .int .i64 0] tN = some (.int .i64 0, tE) := q4
    have hNnE := hNn.chg (by omega) hCe
    have q5 := q_reads2 false hdE (k := 0) (m := a * b) (by rw [hdivn]; omega) (by omega) hNnE.read 0
    rw [take_all hnl, decide_eq_true rfl, decide_eq_true rfl] at q5
    have q5 : acall R_reads2 false [.ptr ia 0, .int .i64 0, .int .i64 ((a * b : Nat) : Int), nv, .int .i64 0] tE = some (.bool (true && true), tE) := q5
    have nDN := hKn.next
    have hSpE := hSpN.chg2 hSp (.inr hja) hCe
    have hvB : BwJ jb tE lv ch := by rw [hch]; exact hSpE.bwj2 hbz hSp (.inr (by omega))
    have hdB5 := (hdB4.keep hKn).chg hCe (by omega) (by omega)
    have hdC5 := (hdC4.keep hKn).chg hCe (by omega) (by omega)
    obtain ⟨tF, q6, hdF, hCf⟩ := q_Crash2 hdB5 hvB (by omega) hchl (w := 0) (m := 0) (Nat.zero_le _) (Nat.zero_le _) (by rw [hdiv]; omega)
    have hwF : wrL b l (crL ch 0 0) = l := by
      rw [hch, wr_crash hbz (by omega) (Nat.zero_le _) (Nat.zero_le _), Nat.zero_mul, Nat.zero_add, List.take_zero, putD_nil]
    rw [hwF] at hdF
    have q6 : acall R_Crash2 false [.ptr ib 0, lv, .int .i64 0, .int .i64 0] tE = some (.int .i64 0, tF) := q6
    have hNwN := hNwD.mono (u := tN) fun id bl g => hKn.blk g
    have hNwE := hNwN.chgY hNw (by omega) hCe
    have hNwF := hNwE.chgY hNw (by omega) hCf
    have q7 := q_reads2 false hdF (k := 0) (m := a * b) (by rw [hdiv]; omega) (by omega) hNwF.read 0
    rw [take_all hlt0, decide_eq_true rfl, decide_eq_true rfl] at q7
    have q7 : acall R_reads2 false [.ptr ib 0, .int .i64 0, .int .i64 ((a * b : Nat) : Int), wv, .int .i64 0] tF = some (.bool (true && true), tF) := q7
    refine awp_cutM (fun e tq => tF = tq ∧ elen e = 296 ∧ E e 0 = .int .i64 (a : Int) ∧ E e 1 = .int .i64 (b : Int) ∧ E e 2 = dv ∧ E e 3 = .int .u8 (B.toNat : Int) ∧ E e 4 = vb ∧ E e 5 = .int .u8 (W.toNat : Int) ∧ E e 6 = .int .u8 (T.toNat : Int) ∧ E e 15 = .ptr id 0 ∧ E e 18 = .int .i64 ((a * b : Nat) : Int) ∧ E e 19 = wv ∧ E e 20 = lv ∧ E e 22 = .ptr ia 0 ∧ E e 23 = .ptr ib 0 ∧ E e 24 = .ptr ic 0 ∧ E e 25 = nv) ?_ ?_
    · simp (config := {contextual := true, maxDischargeDepth := 12}) only [tb_at, he, e0, e1, e2, e3, e4, e5, e6, e15, e18, e19, e20, e22, e23, e24, e25, e16, q4, q5, q6, q7, hLv, Bool.and_self, notV_bool, Bool.not_true, Bool.not_false, pickV_t, pickV_f, bin_eql, bin_neb, bin_npn, bin_np, n00, n30, n33, decide_true, decide_false, gcall_tt, ap_conv, beq_self_eq_true, Bool.true_and, Bool.and_true, ↓bD, bU, forall_const, bS, implies_true, isNx, eq_self, ↓wp_cond, ↓wp_loop, ↓reduceIte, reduceCtorEq, Nat.reduceEqDiff, Nat.reduceLT, Nat.reduceAdd, Nat.reduceMul, bT, ↓sg_bsl, ↓st_callf, bX, ar_b2s, bin_mulE, ap_mkfn, ↓wi_seq, ↓wi_base, ↓wi_block, ↓wi_cond, ↓wi_loop, ↓wi_rf, ↓wy_seq, ↓wy_base, ↓wy_block, ↓wy_cond, ↓wy_loop, ↓wy_yld, q_known, ↓sg_callf3]
    clear he e0 e1 e2 e3 e4 e5 e6 e15 e18 e19 e20 e22 e23 e24 e25 e16
    rintro e _ ⟨rfl, he, e0, e1, e2, e3, e4, e5, e6, e15, e18, e19, e20, e22, e23, e24, e25⟩
    have hSpF := hSpE.chg2 hSp (.inr (by omega)) hCf
    have hdC6 := hdC5.chg hCf (by omega) (by omega)
    have hNnF := hNnE.chg (by omega) hCf
    have hvF : BwJ jc tF lv ch := by rw [hch]; exact hSpF.bwj2 hbz hSp (.inr (by omega))
    have hWn := W.toNat_lt
    have hTn := T.toNat_lt
    have hcW : IntKind.i64.wrap (W.toNat : Int) = (W.toNat : Int) := wrapI (by omega) (by omega)
    have hcT : IntKind.i64.wrap (T.toNat : Int) = (T.toNat : Int) := wrapI (by omega) (by omega)
    have hwc := wrap_add1 (n := ch.length) (by omega)
    have hrW := bin_remN (a := W.toNat) (b := ch.length + 1) (by omega)
    obtain ⟨K, hKd⟩ : ∃ K, K = W.toNat % (ch.length + 1) := ⟨_, rfl⟩
    have hKle : K ≤ ch.length := by
      have := Nat.mod_lt W.toNat (show 0 < ch.length + 1 by omega)
      omega
    rw [← hKd] at hrW
    have fin : ∀ M : Nat, M ≤ (nxt ch K).2.length → ∃ tG fv tH tI s1 s2 s3 s4, (acall R_Crash2 false [.ptr ic 0, lv, .int .i64 (K : Int), .int .i64 (M : Int)] tF = some (.int .i64 0, tG) ∧ acall R_Read2 false [.ptr ic 0, .int .i64 0, .int .i64 ((a * b : Nat) : Int)] tG = some (.tup [fv, .int .i64 0], tH)) ∧ (lenV fv = some (.int .i64 ((a * b : Nat) : Int)) ∧ lenV wv = some (.int .i64 ((a * b : Nat) : Int)) ∧ lenV nv = some (.int .i64 ((a * b : Nat) : Int))) ∧ (slcV 1 fv none (some (.int .i64 ((kk * b + min dd.length (K * b + M) : Nat) : Int))) = some s1 ∧ slcV 1 nv none (some (.int .i64 ((kk * b + min dd.length (K * b + M) : Nat) : Int))) = some s2 ∧ slcV 1 fv (some (.int .i64 ((kk * b + min dd.length (K * b + M) : Nat) : Int))) none = some s3 ∧ slcV 1 wv (some (.int .i64 ((kk * b + min dd.length (K * b + M) : Nat) : Int))) none = some s4) ∧ (∃ u1 u2, b2sV tH s1 = some (strB u1) ∧ b2sV tH s2 = some (strB u1) ∧ b2sV tH s3 = some (strB u2) ∧ b2sV tH s4 = some (strB u2) ∧ binOp .neq .no (strB u1) (strB u1) = some (.bool false) ∧ binOp .neq .no (strB u2) (strB u2) = some (.bool false)) ∧ acall R_Write2 false [.ptr ic 0, lv] tH = some (.int .i64 0, tI) ∧ acall R_reads2 false [.ptr ic 0, .int .i64 0, .int .i64 ((a * b : Nat) : Int), nv, .int .i64 0] tI = some (.bool (true && true), tI) ∧ Keep s tI ∧ K * b + M ≤ 100000 := fun M hM => by
      obtain ⟨tG, q8, hdG, hCg⟩ := q_Crash2 hdC6 hvF (by omega) hchl hKle hM (by rw [hdiv]; omega)
      obtain ⟨qq, hqq⟩ : ∃ qq, qq = min dd.length (K * b + M) := ⟨_, rfl⟩
      have hwG : wrL b l (crL ch K M) = putD l (kk * b) (dd.take qq) := by
        rw [hch, wr_crash hbz (by omega) (by rw [← hcl]; exact hKle) (by rw [← hch]; exact hM)]
        congr 1
        rw [hqq, List.take_eq_take_iff]
        omega
      rw [hwG] at hdG
      have hq1 : qq ≤ dd.length := by omega
      obtain ⟨lf1, lf2⟩ := putD_left (l := l) (d := dd) (o := kk * b) (q := qq) (by omega) hq1
      obtain ⟨lc, hlc⟩ : ∃ lc, lc = putD l (kk * b) (dd.take qq) := ⟨_, rfl⟩
      rw [← hlc] at hdG lf1 lf2
      have hll : lc.length = a * b := by rw [hlc, putD_len (by rw [List.length_take]; omega), hlt0]
      have hdivc : lc.length / b = a := by rw [hll]; exact Nat.mul_div_cancel _ hbz
      obtain ⟨fv, tH, q9, hNf, hKh⟩ := q_Read3 (k := 0) (m := a * b) hdG (by rw [hdivc]; omega) (by omega)
      rw [take_all hll] at hNf
      have hNnG := (hNnF.chg (by omega) hCg).mono (u := tH) fun id bl g => hKh.blk g
      have hNwG := (hNwF.chgY hNw (by omega) hCg).mono (u := tH) fun id bl g => hKh.blk g
      have hat : kk * b + qq ≤ a * b := by omega
      obtain ⟨s1, a1, r1⟩ := slc_hi (C := byC) hNf.read hNf.cap (k := .i64) (i := ((kk * b + qq : Nat) : Int)) rfl (by omega)
      obtain ⟨s2, a2, r2⟩ := slc_hi (C := byC) hNnG.read hNnG.cap (k := .i64) (i := ((kk * b + qq : Nat) : Int)) rfl (by omega)
      obtain ⟨s3, a3, r3⟩ := slc_lo (C := byC) hNf.read (k := .i64) (i := ((kk * b + qq : Nat) : Int)) rfl (by omega)
      obtain ⟨s4, a4, r4⟩ := slc_lo (C := byC) hNwG.read (k := .i64) (i := ((kk * b + qq : Nat) : Int)) rfl (by omega)
      have g1 := b2s_read (r1 tH (.refl _))
      have g2 := b2s_read (r2 tH (.refl _))
      have g3 := b2s_read (r3 tH (.refl _))
      have g4 := b2s_read (r4 tH (.refl _))
      have lfn : lc.take (kk * b + qq) = nw.take (kk * b + qq) := by rw [hnw]; exact lf1
      rw [← lfn] at g2
      rw [← lf2] at g4
      have hSpH := (hSpF.chg2 hSp (.inr (by omega)) hCg).mono (u := tH) fun id bl _ g => hKh.blk g
      have hvH : BwJ jc tH lv ch := by rw [hch]; exact hSpH.bwj2 hbz hSp (.inr (by omega))
      have hchc : checkP (lc.length / b) b ch = 0 := by rw [hdivc]; exact hchk
      obtain ⟨tI, q10, hdI, hCi⟩ := q_Write2 (hdG.keep hKh) hvH (by omega)
      rw [hchc] at q10
      have hwI : wrS b lc ch = nw := by
        unfold wrS
        rw [if_pos hchc, hch, wr_all hbz (by omega), hlc, putD_over (by omega) (by rw [List.length_take]; omega), hnw]
      rw [hwI] at hdI
      have hNnI := hNnG.chg (by omega) hCi
      have q11 := q_reads2 false hdI (k := 0) (m := a * b) (by rw [hdivn]; omega) (by omega) hNnI.read 0
      rw [take_all hnl, decide_eq_true rfl, decide_eq_true rfl] at q11
      have hsn := hKC.next
      have hkj : ∀ {t1 t2 : St} {jj : Nat}, Keep s t1 → Chg [jj] t1 t2 → s.next ≤ jj → Keep s t2 := fun k1 c1 h1 => k1.chgn c1 fun k hk => by simp at hk; subst hk; exact h1
      have n1 := hKW.next
      have hKI : Keep s tI := hkj ((hkj (hkj (hkj (hKD.trans hKn) hCe (by omega)) hCf (by omega)) hCg (by omega)).trans hKh) hCi (by omega)
      have e1 := bin_nes (lc.take (kk * b + qq)) (lc.take (kk * b + qq))
      have e2 := bin_nes (lc.drop (kk * b + qq)) (lc.drop (kk * b + qq))
      rw [decide_eq_true rfl] at e1 e2
      have l1 := lenV_read hNf.read
      have l2 := lenV_read hNwG.read
      have l3 := lenV_read hNnG.read
      rw [hll] at l1
      rw [hlt0] at l2
      rw [hnl] at l3
      rw [← hqq]
      have hKb6 : K * b ≤ 600 * 64 := Nat.mul_le_mul (by omega) (by omega)
      have hM6 : M ≤ 64 := by
        refine Nat.le_trans hM ?_
        unfold nxt
        cases hx : ch[K]? with
        | none => simp
        | some x =>
          have := (show Fits a b ch by rw [hch]; exact chL_fits hbz hfit) x (List.mem_of_getElem? hx)
          simp only [Option.getD_some]
          omega
      exact ⟨tG, fv, tH, tI, s1, s2, s3, s4, ⟨q8, q9⟩, ⟨l1, l2, l3⟩, ⟨a1, a2, a3, a4⟩, ⟨_, _, g1, g2, g3, g4, e1, e2⟩, q10, q11, hKI, by omega⟩
    have hk1 : IntKind.i64.wrap ((kk : Int) * (b : Int)) = ((kk * b : Nat) : Int) := by
      rw [← Int.natCast_mul]
      exact wrapI (by omega) (by omega)
    have hKb7 : K * b ≤ 600 * 64 := Nat.mul_le_mul (by omega) (by omega)
    have hk2 : IntKind.i64.wrap ((K : Int) * (b : Int)) = ((K * b : Nat) : Int) := by
      rw [← Int.natCast_mul]
      exact wrapI (by omega) (by omega)
    refine awp_cutM (fun e tq => tF = tq ∧ elen e = 296 ∧ E e 0 = .int .i64 (a : Int) ∧ E e 1 = .int .i64 (b : Int) ∧ E e 2 = dv ∧ E e 3 = .int .u8 (B.toNat : Int) ∧ E e 4 = vb ∧ E e 6 = .int .u8 (T.toNat : Int) ∧ E e 15 = .ptr id 0 ∧ E e 18 = .int .i64 ((a * b : Nat) : Int) ∧ E e 19 = wv ∧ E e 20 = lv ∧ E e 22 = .ptr ia 0 ∧ E e 23 = .ptr ib 0 ∧ E e 24 = .ptr ic 0 ∧ E e 25 = nv ∧ E e 26 = .int .i64 (K : Int) ∧ E e 27 = .int .i64 0) ?_ ?_
    · simp (config := {contextual := true, maxDischargeDepth := 12}) only [tb_at, he, e0, e1, e2, e3, e4, e5, e6, e15, e18, e19, e20, e22, e23, e24, e25, hcW, hwc, hrW, hLv, notV_bool, Bool.not_true, Bool.not_false, pickV_t, pickV_f, bin_eql, bin_neb, bin_npn, bin_np, n00, n30, n33, decide_true, decide_false, gcall_tt, ap_conv, beq_self_eq_true, Bool.true_and, Bool.and_true, ↓bD, bU, forall_const, bS, implies_true, isNx, eq_self, ↓wp_cond, ↓wp_loop, ↓reduceIte, reduceCtorEq, Nat.reduceEqDiff, Nat.reduceLT, Nat.reduceAdd, Nat.reduceMul, bT, ↓sg_bsl, ↓st_callf, bX, ar_b2s, bin_mulE, ap_mkfn, ↓wi_seq, ↓wi_base, ↓wi_block, ↓wi_cond, ↓wi_loop, ↓wi_rf, ↓wy_seq, ↓wy_base, ↓wy_block, ↓wy_cond, ↓wy_loop, ↓wy_yld, q_known, ↓sg_callf3]
    clear he e0 e1 e2 e3 e4 e5 e6 e15 e18 e19 e20 e22 e23 e24 e25
    rintro e _ ⟨rfl, he, e0, e1, e2, e3, e4, e6, e15, e18, e19, e20, e22, e23, e24, e25, e26, e27⟩
    refine awp_cutM (fun e tq => ∃ M : Nat, M ≤ (nxt ch K).2.length ∧ tF = tq ∧ elen e = 296 ∧ E e 0 = .int .i64 (a : Int) ∧ E e 1 = .int .i64 (b : Int) ∧ E e 2 = dv ∧ E e 3 = .int .u8 (B.toNat : Int) ∧ E e 4 = vb ∧ E e 15 = .ptr id 0 ∧ E e 18 = .int .i64 ((a * b : Nat) : Int) ∧ E e 19 = wv ∧ E e 20 = lv ∧ E e 22 = .ptr ia 0 ∧ E e 23 = .ptr ib 0 ∧ E e 24 = .ptr ic 0 ∧ E e 25 = nv ∧ E e 26 = .int .i64 (K : Int) ∧ E e 27 = .int .i64 (M : Int)) ?_ ?_
    · by_cases hKlt : K < ch.length
      · obtain ⟨x, hx⟩ := getsome hKlt
        have hnx : nxt ch K = x := by unfold nxt; rw [hx]; rfl
        obtain ⟨st, ib', ob', ⟨i1, _⟩, hlo⟩ := hvF.at hx
        obtain ⟨o1, o2, o3, o4, o5⟩ := hlo _ (Chg.refl _ _)
        have hLs := lenV_read o5
        have hxl : x.2.length ≤ 64 := by
          have := (show Fits a b ch by rw [hch]; exact chL_fits hbz hfit) x (List.mem_of_getElem? hx)
          omega
        have hws := wrap_add1 (n := x.2.length) (by omega)
        have hrT := bin_remN (a := T.toNat) (b := x.2.length + 1) (by omega)
        obtain ⟨M, hMd⟩ : ∃ M, M = T.toNat % (x.2.length + 1) := ⟨_, rfl⟩
        rw [← hMd] at hrT
        have hML : M ≤ (nxt ch K).2.length := by
          rw [hnx]
          have := Nat.mod_lt T.toNat (show 0 < x.2.length + 1 by omega)
          omega
        have y3 := eq_true (show (K : Int) < (ch.length : Int) by omega)
        simp (config := {contextual := true, maxDischargeDepth := 12}) only [tb_at, he, e0, e1, e2, e3, e4, e6, e15, e18, e19, e20, e22, e23, e24, e25, e26, e27, hcT, hLv, y3, i1, o3, o4, hLs, hws, hrT, notV_bool, Bool.not_true, Bool.not_false, pickV_t, pickV_f, bin_eql, bin_neb, bin_npn, bin_np, n00, n30, n33, decide_true, decide_false, gcall_tt, ap_conv, beq_self_eq_true, Bool.true_and, Bool.and_true, ↓bD, bU, forall_const, bS, implies_true, isNx, eq_self, ↓wp_cond, ↓wp_loop, ↓reduceIte, reduceCtorEq, Nat.reduceEqDiff, Nat.reduceLT, Nat.reduceAdd, Nat.reduceMul, bT, ↓sg_bsl, ↓st_callf, bX, ar_b2s, bin_mulE, ap_mkfn, ↓wi_seq, ↓wi_base, ↓wi_block, ↓wi_cond, ↓wi_loop, ↓wi_rf, ↓wy_seq, ↓wy_base, ↓wy_block, ↓wy_cond, ↓wy_loop, ↓wy_yld, q_known, ↓sg_callf3]
        exact ⟨M, hML, rfl⟩
      · have hKe : K = ch.length := by omega
        have y3 := eq_false (show ¬ (K : Int) < (ch.length : Int) by omega)
        simp (config := {contextual := true, maxDischargeDepth := 12}) only [tb_at, he, e0, e1, e2, e3, e4, e6, e15, e18, e19, e20, e22, e23, e24, e25, e26, e27, hLv, y3, notV_bool, Bool.not_true, Bool.not_false, pickV_t, pickV_f, bin_eql, bin_neb, bin_npn, bin_np, n00, n30, n33, decide_true, decide_false, gcall_tt, ap_conv, beq_self_eq_true, Bool.true_and, Bool.and_true, ↓bD, bU, forall_const, bS, implies_true, isNx, eq_self, ↓wp_cond, ↓wp_loop, ↓reduceIte, reduceCtorEq, Nat.reduceEqDiff, Nat.reduceLT, Nat.reduceAdd, Nat.reduceMul, bT, ↓sg_bsl, ↓st_callf, bX, ar_b2s, bin_mulE, ap_mkfn, ↓wi_seq, ↓wi_base, ↓wi_block, ↓wi_cond, ↓wi_loop, ↓wi_rf, ↓wy_seq, ↓wy_base, ↓wy_block, ↓wy_cond, ↓wy_loop, ↓wy_yld, q_known, ↓sg_callf3]
        exact ⟨0, Nat.zero_le _, rfl⟩
    clear he e0 e1 e2 e3 e4 e6 e15 e18 e19 e20 e22 e23 e24 e25 e26 e27
    rintro e _ ⟨M, hML, rfl, he, e0, e1, e2, e3, e4, e15, e18, e19, e20, e22, e23, e24, e25, e26, e27⟩
    obtain ⟨tG, fv, tH, tI, s1, s2, s3, s4, ⟨q8, q9⟩, ⟨l1, l2, l3⟩, ⟨a1, a2, a3, a4⟩, ⟨u1, u2, g1, g2, g3, g4, e1', e2'⟩, q10, q11, hKI, hb6⟩ := fin M hML
    have hk3 : IntKind.i64.wrap (((K * b : Nat) : Int) + (M : Int)) = ((K * b + M : Nat) : Int) := by
      rw [← Int.natCast_add]
      exact wrapI (by omega) (by omega)
    have hmn : min (dd.length : Int) ((K * b + M : Nat) : Int) = ((min dd.length (K * b + M) : Nat) : Int) := by omega
    have hk4 : IntKind.i64.wrap (((kk * b : Nat) : Int) + ((min dd.length (K * b + M) : Nat) : Int)) = ((kk * b + min dd.length (K * b + M) : Nat) : Int) := by
      rw [← Int.natCast_add]
      exact wrapI (by omega) (by omega)
    refine awp_cutM (fun e tq => tG = tq ∧ elen e = 296 ∧ E e 0 = .int .i64 (a : Int) ∧ E e 1 = .int .i64 (b : Int) ∧ E e 2 = dv ∧ E e 3 = .int .u8 (B.toNat : Int) ∧ E e 4 = vb ∧ E e 15 = .ptr id 0 ∧ E e 18 = .int .i64 ((a * b : Nat) : Int) ∧ E e 19 = wv ∧ E e 20 = lv ∧ E e 22 = .ptr ia 0 ∧ E e 23 = .ptr ib 0 ∧ E e 24 = .ptr ic 0 ∧ E e 25 = nv ∧ E e 26 = .int .i64 (K : Int) ∧ E e 27 = .int .i64 (M : Int)) ?_ ?_
    · simp (config := {contextual := true, maxDischargeDepth := 12}) only [tb_at, he, e0, e1, e2, e3, e4, e15, e18, e19, e20, e22, e23, e24, e25, e26, e27, q8, notV_bool, Bool.not_true, Bool.not_false, pickV_t, pickV_f, bin_eql, bin_neb, bin_npn, bin_np, n00, n30, n33, decide_true, decide_false, gcall_tt, ap_conv, beq_self_eq_true, Bool.true_and, Bool.and_true, ↓bD, bU, forall_const, bS, implies_true, isNx, eq_self, ↓wp_cond, ↓wp_loop, ↓reduceIte, reduceCtorEq, Nat.reduceEqDiff, Nat.reduceLT, Nat.reduceAdd, Nat.reduceMul, bT, ↓sg_bsl, ↓st_callf, bX, ar_b2s, bin_mulE, ap_mkfn, ↓wi_seq, ↓wi_base, ↓wi_block, ↓wi_cond, ↓wi_loop, ↓wi_rf, ↓wy_seq, ↓wy_base, ↓wy_block, ↓wy_cond, ↓wy_loop, ↓wy_yld, q_known, ↓sg_callf3]
    clear he e0 e1 e2 e3 e4 e15 e18 e19 e20 e22 e23 e24 e25 e26 e27
    rintro e _ ⟨rfl, he, e0, e1, e2, e3, e4, e15, e18, e19, e20, e22, e23, e24, e25, e26, e27⟩
    refine awp_cutM (fun e tq => tH = tq ∧ elen e = 296 ∧ E e 0 = .int .i64 (a : Int) ∧ E e 1 = .int .i64 (b : Int) ∧ E e 2 = dv ∧ E e 3 = .int .u8 (B.toNat : Int) ∧ E e 4 = vb ∧ E e 15 = .ptr id 0 ∧ E e 18 = .int .i64 ((a * b : Nat) : Int) ∧ E e 19 = wv ∧ E e 20 = lv ∧ E e 22 = .ptr ia 0 ∧ E e 23 = .ptr ib 0 ∧ E e 24 = .ptr ic 0 ∧ E e 25 = nv ∧ E e 26 = .int .i64 (K : Int) ∧ E e 27 = .int .i64 (M : Int) ∧ E e 28 = fv ∧ E e 16 = .int .i64 0) ?_ ?_
    · simp (config := {contextual := true, maxDischargeDepth := 12}) only [tb_at, he, e0, e1, e2, e3, e4, e15, e18, e19, e20, e22, e23, e24, e25, e26, e27, q9, notV_bool, Bool.not_true, Bool.not_false, pickV_t, pickV_f, bin_eql, bin_neb, bin_npn, bin_np, n00, n30, n33, decide_true, decide_false, gcall_tt, ap_conv, beq_self_eq_true, Bool.true_and, Bool.and_true, ↓bD, bU, forall_const, bS, implies_true, isNx, eq_self, ↓wp_cond, ↓wp_loop, ↓reduceIte, reduceCtorEq, Nat.reduceEqDiff, Nat.reduceLT, Nat.reduceAdd, Nat.reduceMul, bT, ↓sg_bsl, ↓st_callf, bX, ar_b2s, bin_mulE, ap_mkfn, ↓wi_seq, ↓wi_base, ↓wi_block, ↓wi_cond, ↓wi_loop, ↓wi_rf, ↓wy_seq, ↓wy_base, ↓wy_block, ↓wy_cond, ↓wy_loop, ↓wy_yld, q_known, ↓sg_callf3]
    clear he e0 e1 e2 e3 e4 e15 e18 e19 e20 e22 e23 e24 e25 e26 e27
    rintro e _ ⟨rfl, he, e0, e1, e2, e3, e4, e15, e18, e19, e20, e22, e23, e24, e25, e26, e27, e28, e16⟩
    refine awp_cutM (fun e tq => tH = tq ∧ elen e = 296 ∧ E e 0 = .int .i64 (a : Int) ∧ E e 1 = .int .i64 (b : Int) ∧ E e 2 = dv ∧ E e 3 = .int .u8 (B.toNat : Int) ∧ E e 4 = vb ∧ E e 15 = .ptr id 0 ∧ E e 18 = .int .i64 ((a * b : Nat) : Int) ∧ E e 19 = wv ∧ E e 20 = lv ∧ E e 22 = .ptr ia 0 ∧ E e 23 = .ptr ib 0 ∧ E e 24 = .ptr ic 0 ∧ E e 25 = nv ∧ E e 26 = .int .i64 (K : Int) ∧ E e 27 = .int .i64 (M : Int) ∧ E e 28 = fv ∧ E e 16 = .int .i64 0 ∧ E e 29 = .int .i64 ((kk * b + min dd.length (K * b + M) : Nat) : Int)) ?_ ?_
    · simp (config := {contextual := true, maxDischargeDepth := 12}) only [tb_at, he, e0, e1, e2, e3, e4, e15, e18, e19, e20, e22, e23, e24, e25, e26, e27, e28, e16, hcv, hrm, hLd, hk1, hk2, hk3, hk4, hmn, mmV_min, notV_bool, Bool.not_true, Bool.not_false, pickV_t, pickV_f, bin_eql, bin_neb, bin_npn, bin_np, n00, n30, n33, decide_true, decide_false, gcall_tt, ap_conv, beq_self_eq_true, Bool.true_and, Bool.and_true, ↓bD, bU, forall_const, bS, implies_true, isNx, eq_self, ↓wp_cond, ↓wp_loop, ↓reduceIte, reduceCtorEq, Nat.reduceEqDiff, Nat.reduceLT, Nat.reduceAdd, Nat.reduceMul, bT, ↓sg_bsl, ↓st_callf, bX, ar_b2s, bin_mulE, ap_mkfn, ↓wi_seq, ↓wi_base, ↓wi_block, ↓wi_cond, ↓wi_loop, ↓wi_rf, ↓wy_seq, ↓wy_base, ↓wy_block, ↓wy_cond, ↓wy_loop, ↓wy_yld, q_known, ↓sg_callf3]
    clear he e0 e1 e2 e3 e4 e15 e18 e19 e20 e22 e23 e24 e25 e26 e27 e28 e16
    rintro e _ ⟨rfl, he, e0, e1, e2, e3, e4, e15, e18, e19, e20, e22, e23, e24, e25, e26, e27, e28, e16, e29⟩
    refine awp_cutM (fun e tq => tH = tq ∧ elen e = 296 ∧ E e 0 = .int .i64 (a : Int) ∧ E e 1 = .int .i64 (b : Int) ∧ E e 2 = dv ∧ E e 3 = .int .u8 (B.toNat : Int) ∧ E e 4 = vb ∧ E e 15 = .ptr id 0 ∧ E e 18 = .int .i64 ((a * b : Nat) : Int) ∧ E e 19 = wv ∧ E e 20 = lv ∧ E e 22 = .ptr ia 0 ∧ E e 23 = .ptr ib 0 ∧ E e 24 = .ptr ic 0 ∧ E e 25 = nv ∧ E e 26 = .int .i64 (K : Int) ∧ E e 27 = .int .i64 (M : Int) ∧ E e 28 = fv ∧ E e 16 = .int .i64 0 ∧ E e 29 = .int .i64 ((kk * b + min dd.length (K * b + M) : Nat) : Int)) ?_ ?_
    · simp (config := {contextual := true, maxDischargeDepth := 12}) only [tb_at, he, e0, e1, e2, e3, e4, e15, e18, e19, e20, e22, e23, e24, e25, e26, e27, e28, e16, e29, l1, l2, l3, a1, a2, a3, a4, g1, g2, g3, g4, e1', e2', reserve0, notV_bool, Bool.not_true, Bool.not_false, pickV_t, pickV_f, bin_eql, bin_neb, bin_npn, bin_np, n00, n30, n33, decide_true, decide_false, gcall_tt, ap_conv, beq_self_eq_true, Bool.true_and, Bool.and_true, ↓bD, bU, forall_const, bS, implies_true, isNx, eq_self, ↓wp_cond, ↓wp_loop, ↓reduceIte, reduceCtorEq, Nat.reduceEqDiff, Nat.reduceLT, Nat.reduceAdd, Nat.reduceMul, bT, ↓sg_bsl, ↓st_callf, bX, ar_b2s, bin_mulE, ap_mkfn, ↓wi_seq, ↓wi_base, ↓wi_block, ↓wi_cond, ↓wi_loop, ↓wi_rf, ↓wy_seq, ↓wy_base, ↓wy_block, ↓wy_cond, ↓wy_loop, ↓wy_yld, q_known, ↓sg_callf3]
    clear he e0 e1 e2 e3 e4 e15 e18 e19 e20 e22 e23 e24 e25 e26 e27 e28 e16 e29
    rintro e _ ⟨rfl, he, e0, e1, e2, e3, e4, e15, e18, e19, e20, e22, e23, e24, e25, e26, e27, e28, e16, e29⟩
    simp (config := {contextual := true, maxDischargeDepth := 12}) only [tb_at, he, e0, e1, e2, e3, e4, e15, e18, e19, e20, e22, e23, e24, e25, e26, e27, e28, e16, e29, q10, q11, Bool.and_self, reserve0, notV_bool, Bool.not_true, Bool.not_false, pickV_t, pickV_f, bin_eql, bin_neb, bin_npn, bin_np, n00, n30, n33, decide_true, decide_false, gcall_tt, ap_conv, beq_self_eq_true, Bool.true_and, Bool.and_true, ↓bD, bU, forall_const, bS, implies_true, isNx, eq_self, ↓wp_cond, ↓wp_loop, ↓reduceIte, reduceCtorEq, Nat.reduceEqDiff, Nat.reduceLT, Nat.reduceAdd, Nat.reduceMul, bT, ↓sg_bsl, ↓st_callf, bX, ar_b2s, bin_mulE, ap_mkfn, ↓wi_seq, ↓wi_base, ↓wi_block, ↓wi_cond, ↓wi_loop, ↓wi_rf, ↓wy_seq, ↓wy_base, ↓wy_block, ↓wy_cond, ↓wy_loop, ↓wy_yld, q_known, ↓sg_callf3]
    all_goals first | exact hKI | skip

end Go.AM
end
