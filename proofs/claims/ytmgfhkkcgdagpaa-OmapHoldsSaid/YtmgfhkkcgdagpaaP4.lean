/-
  Ordered maps: Set of the reference, Same, light; plain laws. Own work of this project; in part printed by a program of it.
-/
import Derived.Test.YtmgfhkkcgdagpaaP3
import Derived.ProofKit
import Derived.Carry
import Derived.Deep.Slices
import Derived.HandedShaped
import Derived.OpenShut
import Derived.KernelRfl
set_option linter.unusedVariables false
set_option linter.unusedSimpArgs false
section
set_option maxRecDepth 100000
set_option maxHeartbeats 8000000
namespace Go.AM
open Go Go.Proofs

variable {s t u : St}
noncomputable def R_Same : Con := runFn (tb []) a15
theorem s_Same : SoundAt Try.prog 15 R_Same := run_sound (tb_sound (l := []) (by simp)) mixed Try.func15 k15 c15
theorem n_Same : noNxtC a15.body = true := by kernel_rfl
theorem w_Same {s : St} {a c : AV} {L : List PrS} (ha_ : AM.read prC s a = some L) (hc_ : AM.read prC s c = some L) (hl : L.length ≤ 10000) : ∀ env : Env, elen env = a15.ntmps → (∀ i x_, [a, c][i]? = some x_ → E env i = x_) → awp (tb []) a15.body (fun x e t => (∀ i, x ≠ .exit i) ∧ aresults e t a15.results = some (.bool true) ∧ Keep s t) env s := by
  intro env hlen ha
  have h0 : E env 0 = _ := ha 0 _ rfl
  have h1 : E env 1 = _ := ha 1 _ rfl
  have hlen : elen env = _ := hlen
  simp only [a15] at hlen
  unfold a15
  try dsimp only [oO, oG]
  have hL := lenV_read ha_
  have hL2 := lenV_read hc_
  have nn : ((L.length : Int) = (L.length : Int)) = True := eq_self _
  simp (config := {contextual := true, maxDischargeDepth := 12, maxSteps := 4000000}) only [tb_at, h0, h1, hlen, hL, hL2, nn, notV_bool, Bool.not_true, Bool.not_false, pickV_t, pickV_f, bin_eql, bin_neq, bin_neb, bin_npn, bin_np, bin_npnx, gcall_tt, gpure_tf, beq_self_eq_true, Bool.true_and, Bool.and_true, decide_true, decide_false, ↓bD, bU, forall_const, bS, implies_true, isNx, eq_self, ↓wp_cond, ↓wp_loop, ↓reduceIte, reduceCtorEq, Nat.reduceEqDiff, Nat.reduceLT, Nat.reduceAdd, Nat.reduceMul, bT, ↓sg_bsl, ↓st_callf, bX, ap_mkfn, ap_conv, ↓wi_seq, ↓wi_base, ↓wi_block, ↓wi_cond, ↓wi_loop, ↓wi_rf, ↓wy_seq, ↓wy_base, ↓wy_block, ↓wy_cond, ↓wy_loop, ↓wy_yld, ae_callvV, callvV_fn, List.append_nil, List.cons_append, List.nil_append, bin_nff, bin_nfn, bin_nffx, bin_nfnx, bin_streq, bin_bo_same, lstep_some, ↓st_load1nf, ↓st_loadnf, ↓st_appr, ↓st_appf0, bin_nfls]
  obtain ⟨I, hI⟩ : ∃ I : Nat → Env → St → Prop, ∀ n e t, I n e t = (t = s ∧ ∃ i : Nat, n + i = L.length ∧ elen e = 26 ∧ E e 0 = a ∧ E e 1 = c ∧ E e 5 = .int .i64 (i : Int)) := ⟨fun n e t => (t = s ∧ ∃ i : Nat, n + i = L.length ∧ elen e = 26 ∧ E e 0 = a ∧ E e 1 = c ∧ E e 5 = .int .i64 (i : Int)), fun _ _ _ => rfl⟩
  refine lwp_inv I (n := L.length) ?_ ?_
  · rw [hI]
    exact ⟨rfl, 0, by omega, (by simp only [bE, Nat.reduceEqDiff, bN, Nat.reduceLT, hlen]; try rfl), (by simp only [bE, Nat.reduceEqDiff, bN, Nat.reduceLT, hlen, h0]; try rfl), (by simp only [bE, Nat.reduceEqDiff, bN, Nat.reduceLT, hlen, h1]; try rfl), (by simp only [bE, Nat.reduceEqDiff, bN, Nat.reduceLT, hlen]; try rfl)⟩
  clear h0 h1 ha
  intro n e t hi
  rw [hI] at hi
  obtain ⟨hK, i, hni, he, e0, e1, e5⟩ := hi
  subst hK
  by_cases hlt : i < L.length
  rotate_left
  · have y1 := eq_false (show ¬ (i : Int) < (L.length : Int) by omega)
    simp (config := {contextual := true, maxDischargeDepth := 12, maxSteps := 4000000}) only [tb_at, he, e0, e1, e5, hL, y1, notV_bool, Bool.not_true, Bool.not_false, pickV_t, pickV_f, bin_eql, bin_neq, bin_neb, bin_npn, bin_np, bin_npnx, gcall_tt, gpure_tf, beq_self_eq_true, Bool.true_and, Bool.and_true, decide_true, decide_false, ↓bD, bU, forall_const, bS, implies_true, isNx, eq_self, ↓wp_cond, ↓wp_loop, ↓reduceIte, reduceCtorEq, Nat.reduceEqDiff, Nat.reduceLT, Nat.reduceAdd, Nat.reduceMul, bT, ↓sg_bsl, ↓st_callf, bX, ap_mkfn, ap_conv, ↓wi_seq, ↓wi_base, ↓wi_block, ↓wi_cond, ↓wi_loop, ↓wi_rf, ↓wy_seq, ↓wy_base, ↓wy_block, ↓wy_cond, ↓wy_loop, ↓wy_yld, ae_callvV, callvV_fn, List.append_nil, List.cons_append, List.nil_append, bin_nff, bin_nfn, bin_nffx, bin_nfnx, bin_streq, bin_bo_same, lstep_some, ↓st_load1nf, ↓st_loadnf, ↓st_appr, ↓st_appf0, bin_nfls]
    all_goals first | exact .refl _ | skip
  have y1 := eq_true (show (i : Int) < (L.length : Int) by omega)
  have hw2 := wrap_add1 (n := i) (by omega)
  obtain ⟨y, hy⟩ := getsome hlt
  obtain ⟨i1, a0, _, _, a3⟩ := pr_lods ha_ hy
  obtain ⟨j1, b0, _, _, b3⟩ := pr_lods hc_ hy
  simp (config := {contextual := true, maxDischargeDepth := 12, maxSteps := 4000000}) only [tb_at, he, e0, e1, e5, hL, y1, hw2, i1, a0, a3, j1, b0, b3, reserve0, notV_bool, Bool.not_true, Bool.not_false, pickV_t, pickV_f, bin_eql, bin_neq, bin_neb, bin_npn, bin_np, bin_npnx, gcall_tt, gpure_tf, beq_self_eq_true, Bool.true_and, Bool.and_true, decide_true, decide_false, ↓bD, bU, forall_const, bS, implies_true, isNx, eq_self, ↓wp_cond, ↓wp_loop, ↓reduceIte, reduceCtorEq, Nat.reduceEqDiff, Nat.reduceLT, Nat.reduceAdd, Nat.reduceMul, bT, ↓sg_bsl, ↓st_callf, bX, ap_mkfn, ap_conv, ↓wi_seq, ↓wi_base, ↓wi_block, ↓wi_cond, ↓wi_loop, ↓wi_rf, ↓wy_seq, ↓wy_base, ↓wy_block, ↓wy_cond, ↓wy_loop, ↓wy_yld, ae_callvV, callvV_fn, List.append_nil, List.cons_append, List.nil_append, bin_nff, bin_nfn, bin_nffx, bin_nfnx, bin_streq, bin_bo_same, lstep_some, ↓st_load1nf, ↓st_loadnf, ↓st_appr, ↓st_appf0, bin_nfls]
  refine ⟨n - 1, by omega, ?_⟩
  rw [hI]
  exact ⟨rfl, i + 1, by omega, (by simp only [bE, Nat.reduceEqDiff, bN, Nat.reduceLT, he, e0, e1, e5]; try rfl), (by simp only [bE, Nat.reduceEqDiff, bN, Nat.reduceLT, he, e0, e1, e5]; try rfl), (by simp only [bE, Nat.reduceEqDiff, bN, Nat.reduceLT, he, e0, e1, e5]; try rfl), (by simp only [bE, Nat.reduceEqDiff, bN, Nat.reduceLT, he, e0, e1, e5]; try rfl)⟩
theorem q_Same (cl : Bool) {s : St} {a c : AV} {L : List PrS} (ha_ : AM.read prC s a = some L) (hc_ : AM.read prC s c = some L) (hl : L.length ≤ 10000) : acall R_Same cl [a, c] s = some (.bool true, s) := run_same n_Same (by simp [a15]) rfl (w_Same (s := lowd s) (read_low' ha_) (read_low' hc_) hl)

def lensV : AV → Option AV
  | .str b => some (.int .i64 (b.size : Int))
  | _ => none
theorem ap_lens {env : Env} (x : AO) : apure env (.len .st x) = lensV (aev env x) := by
  simp only [apure, lensV] <;> (cases aev env x <;> rfl)
theorem lensV_str (b : ByteArray) : lensV (.str b) = some (.int .i64 (b.size : Int)) := nrfl rfl
abbrev AcT := Int × Int × ByteArray
def acC : Cod AcT where
  sz := 3
  enc := fun x => [.int .i64 x.1, .int .i64 x.2.1, .str x.2.2]
  dec := fun cs => match cs with
    | [.int .i64 a, .int .i64 b, .str c] => some (a, b, c)
    | _ => none
  pos := by decide
  len := fun _ => rfl
  plain := fun _ => rfl
  dec_enc := fun _ => rfl
  enc_dec := fun cs x h => by
    split at h
    · injection h with h; subst h; rfl
    · cases h
theorem acC_sz : acC.sz = 3 := rfl
theorem ac_lods {v : AV} {l : List AcT} (h : AM.read acC s v = some l) {i : Nat} {x : AcT} (hi : l[i]? = some x) : iadV 3 v (.int .i64 (i : Int)) = some (.ptr (bid v) (boff v + i * 3)) ∧ lod s 3 (.ptr (bid v) (boff v + i * 3)) = some (.agg [.int .i64 x.1, .int .i64 x.2.1, .str x.2.2]) ∧
    lod1 s (.ptr (bid v) (boff v + i * 3)) = some (.int .i64 x.1) ∧ lod1 s (.ptr (bid v) (boff v + i * 3 + 1)) = some (.int .i64 x.2.1) ∧ lod1 s (.ptr (bid v) (boff v + i * 3 + 2)) = some (.str x.2.2) ∧ ltN (bid v) s := by
  have h1 := read_idx h hi .i64
  rw [acC_sz] at h1
  have hl := read_lt h (Keep.refl s) hi
  refine ⟨h1, ?_⟩
  cases v with
  | nils => simp [AM.read] at h; subst h; simp at hi
  | sl id off n cap z =>
    obtain ⟨rfl, rfl, cs, own, hg, _, _, h5⟩ := read_sl h
    show lod s 3 (.ptr id (off + i * 3)) = _ ∧ lod1 s (.ptr id (off + i * 3)) = _ ∧ lod1 s (.ptr id (off + i * 3 + 1)) = _ ∧ lod1 s (.ptr id (off + i * 3 + 2)) = _ ∧ _
    have one : ∀ k v, k < 3 → (acC.enc x)[k]? = some v → cs[off + i * 3 + k]? = some v := fun k v hk hv => by
      obtain ⟨_, k2⟩ := h5 i x hi k 1 (by rw [acC_sz]; omega)
      rw [acC_sz] at k2
      have e := congrArg (fun l => l[0]?) k2
      simpa [List.getElem?_take, List.getElem?_drop, hv] using e
    refine ⟨?_, ?_, ?_, ?_, hl⟩
    · obtain ⟨k1, k2⟩ := h5 i x hi 0 3 (by rw [acC_sz]; omega)
      rw [acC_sz, Nat.add_zero] at k1 k2
      simp only [lod, hg]
      rw [if_pos (by omega), k2]
      rfl
    · simp only [lod1, hg]; exact one 0 _ (by omega) rfl
    · simp only [lod1, hg]; exact one 1 _ (by omega) rfl
    · simp only [lod1, hg]; exact one 2 _ (by omega) rfl
  | _ => simp [AM.read] at h
def okA (y : AcT) : Bool := !(decide (100 < (y.2.2.size : Int)) || decide (4611686018427387904 < y.2.1) || decide (y.2.1 < -4611686018427387904))
def ltA (l : List AcT) : Bool := (l.take 61).all okA && decide ((l.length : Int) ≤ 60)
theorem ltA_true {l : List AcT} (h : ltA l = true) : l.length ≤ 60 ∧ ∀ y ∈ l, -4611686018427387904 ≤ y.2.1 ∧ y.2.1 ≤ 4611686018427387904 ∧ y.2.2.size ≤ 100 := by
  unfold ltA at h
  rw [Bool.and_eq_true, decide_eq_true_eq] at h
  obtain ⟨h1, h2⟩ := h
  rw [List.take_of_length_le (by omega)] at h1
  refine ⟨by omega, fun y hy => ?_⟩
  have := List.all_eq_true.1 h1 y hy
  unfold okA at this
  rw [Bool.not_eq_true', Bool.or_eq_false_iff, Bool.or_eq_false_iff, decide_eq_false_iff_not, decide_eq_false_iff_not, decide_eq_false_iff_not] at this
  omega
noncomputable def R_light : Con := runFn (tb []) a8
theorem s_light : SoundAt Try.prog 8 R_light := run_sound (tb_sound (l := []) (by simp)) mixed Try.func8 k8 c8
theorem n_light : noNxtC a8.body = true := by kernel_rfl
theorem w_light {s : St} {v : AV} {l : List AcT} (hr : AM.read acC s v = some l) : ∀ env : Env, elen env = a8.ntmps → (∀ i x_, [v][i]? = some x_ → E env i = x_) → awp (tb []) a8.body (fun x e t => (∀ i, x ≠ .exit i) ∧ aresults e t a8.results = some (.bool (ltA l)) ∧ Keep s t) env s := by
  intro env hlen ha
  have h0 : E env 0 = _ := ha 0 _ rfl
  have hlen : elen env = _ := hlen
  simp only [a8] at hlen
  unfold a8
  try dsimp only [oO, oG]
  have hL := lenV_read hr
  simp (config := {contextual := true, maxDischargeDepth := 12, maxSteps := 4000000}) only [tb_at, h0, hlen, notV_bool, Bool.not_true, Bool.not_false, pickV_t, pickV_f, bin_eql, bin_neq, bin_neb, bin_npn, bin_np, bin_npnx, gcall_tt, gpure_tf, beq_self_eq_true, Bool.true_and, Bool.and_true, decide_true, decide_false, ↓bD, bU, forall_const, bS, implies_true, isNx, eq_self, ↓wp_cond, ↓wp_loop, ↓reduceIte, reduceCtorEq, Nat.reduceEqDiff, Nat.reduceLT, Nat.reduceAdd, Nat.reduceMul, bT, ↓sg_bsl, ↓st_callf, bX, ap_mkfn, ap_conv, ↓wi_seq, ↓wi_base, ↓wi_block, ↓wi_cond, ↓wi_loop, ↓wi_rf, ↓wy_seq, ↓wy_base, ↓wy_block, ↓wy_cond, ↓wy_loop, ↓wy_yld, ae_callvV, callvV_fn, List.append_nil, List.cons_append, List.nil_append, bin_nff, bin_nfn, bin_nffx, bin_nfnx, bin_streq, bin_bo_same, lstep_some, ↓st_load1nf, ↓st_loadnf, ↓st_appr, ↓st_appf0, bin_nfls, ap_lens, lensV_str]
  obtain ⟨I, hI⟩ : ∃ I : Nat → Env → St → Prop, ∀ n e t, I n e t = (t = s ∧ ∃ i : Nat, n + i = 61 ∧ elen e = 40 ∧ E e 0 = v ∧ E e 3 = .int .i64 (i : Int) ∧ i ≤ l.length ∧ (l.take i).all okA = true) := ⟨fun n e t => (t = s ∧ ∃ i : Nat, n + i = 61 ∧ elen e = 40 ∧ E e 0 = v ∧ E e 3 = .int .i64 (i : Int) ∧ i ≤ l.length ∧ (l.take i).all okA = true), fun _ _ _ => rfl⟩
  refine lwp_inv I (n := 61) ?_ ?_
  · rw [hI]
    exact ⟨rfl, 0, by omega, (by simp only [bE, Nat.reduceEqDiff, bN, Nat.reduceLT, hlen]; try rfl), (by simp only [bE, Nat.reduceEqDiff, bN, Nat.reduceLT, hlen, h0]; try rfl), (by simp only [bE, Nat.reduceEqDiff, bN, Nat.reduceLT, hlen]; try rfl), Nat.zero_le _, rfl⟩
  clear h0 ha
  intro n e t hi
  rw [hI] at hi
  obtain ⟨hK, i, hni, he, e0, e3, hil, hpre⟩ := hi
  subst hK
  by_cases hlt : i < l.length ∧ i < 61
  rotate_left
  · have hall : (l.take 61).all okA = true := by
      rcases (by omega : i = 61 ∨ i = l.length) with rfl | rfl
      · exact hpre
      · rw [List.take_length] at hpre
        exact List.all_eq_true.2 fun y hy => List.all_eq_true.1 hpre y (List.mem_of_mem_take hy)
    have hlt2 : ltA l = decide ((l.length : Int) ≤ 60) := by unfold ltA; rw [hall, Bool.true_and]
    rw [hlt2]
    by_cases c1 : i < l.length
    · have y1 := eq_true (show (i : Int) < (l.length : Int) by omega)
      have y2 := eq_false (show ¬ (i : Int) < 61 by omega)
      simp (config := {contextual := true, maxDischargeDepth := 12, maxSteps := 4000000}) only [tb_at, he, e0, e3, hL, y1, y2, notV_bool, Bool.not_true, Bool.not_false, pickV_t, pickV_f, bin_eql, bin_neq, bin_neb, bin_npn, bin_np, bin_npnx, gcall_tt, gpure_tf, beq_self_eq_true, Bool.true_and, Bool.and_true, decide_true, decide_false, ↓bD, bU, forall_const, bS, implies_true, isNx, eq_self, ↓wp_cond, ↓wp_loop, ↓reduceIte, reduceCtorEq, Nat.reduceEqDiff, Nat.reduceLT, Nat.reduceAdd, Nat.reduceMul, bT, ↓sg_bsl, ↓st_callf, bX, ap_mkfn, ap_conv, ↓wi_seq, ↓wi_base, ↓wi_block, ↓wi_cond, ↓wi_loop, ↓wi_rf, ↓wy_seq, ↓wy_base, ↓wy_block, ↓wy_cond, ↓wy_loop, ↓wy_yld, ae_callvV, callvV_fn, List.append_nil, List.cons_append, List.nil_append, bin_nff, bin_nfn, bin_nffx, bin_nfnx, bin_streq, bin_bo_same, lstep_some, ↓st_load1nf, ↓st_loadnf, ↓st_appr, ↓st_appf0, bin_nfls, ap_lens, lensV_str]
      all_goals first | exact .refl _ | skip
    · have y1 := eq_false (show ¬ (i : Int) < (l.length : Int) by omega)
      simp (config := {contextual := true, maxDischargeDepth := 12, maxSteps := 4000000}) only [tb_at, he, e0, e3, hL, y1, notV_bool, Bool.not_true, Bool.not_false, pickV_t, pickV_f, bin_eql, bin_neq, bin_neb, bin_npn, bin_np, bin_npnx, gcall_tt, gpure_tf, beq_self_eq_true, Bool.true_and, Bool.and_true, decide_true, decide_false, ↓bD, bU, forall_const, bS, implies_true, isNx, eq_self, ↓wp_cond, ↓wp_loop, ↓reduceIte, reduceCtorEq, Nat.reduceEqDiff, Nat.reduceLT, Nat.reduceAdd, Nat.reduceMul, bT, ↓sg_bsl, ↓st_callf, bX, ap_mkfn, ap_conv, ↓wi_seq, ↓wi_base, ↓wi_block, ↓wi_cond, ↓wi_loop, ↓wi_rf, ↓wy_seq, ↓wy_base, ↓wy_block, ↓wy_cond, ↓wy_loop, ↓wy_yld, ae_callvV, callvV_fn, List.append_nil, List.cons_append, List.nil_append, bin_nff, bin_nfn, bin_nffx, bin_nfnx, bin_streq, bin_bo_same, lstep_some, ↓st_load1nf, ↓st_loadnf, ↓st_appr, ↓st_appf0, bin_nfls, ap_lens, lensV_str]
      all_goals first | exact .refl _ | skip
  have y1 := eq_true (show (i : Int) < (l.length : Int) by omega)
  have y2 := eq_true (show (i : Int) < 61 by omega)
  have hw2 := wrap_add1 (n := i) (by omega)
  obtain ⟨y, hy⟩ := getsome hlt.1
  obtain ⟨i1, _, _, a1, a2, a3⟩ := ac_lods hr hy
  by_cases hok : okA y = true
  · have hok' := hok
    unfold okA at hok'
    rw [Bool.not_eq_true', Bool.or_eq_false_iff, Bool.or_eq_false_iff, decide_eq_false_iff_not, decide_eq_false_iff_not, decide_eq_false_iff_not] at hok'
    have z1 := eq_false hok'.1.1
    have z2 := eq_false hok'.1.2
    have z3 := eq_false hok'.2
    simp (config := {contextual := true, maxDischargeDepth := 12, maxSteps := 4000000}) only [tb_at, he, e0, e3, hL, y1, y2, hw2, i1, a1, a2, a3, z1, z2, z3, notV_bool, Bool.not_true, Bool.not_false, pickV_t, pickV_f, bin_eql, bin_neq, bin_neb, bin_npn, bin_np, bin_npnx, gcall_tt, gpure_tf, beq_self_eq_true, Bool.true_and, Bool.and_true, decide_true, decide_false, ↓bD, bU, forall_const, bS, implies_true, isNx, eq_self, ↓wp_cond, ↓wp_loop, ↓reduceIte, reduceCtorEq, Nat.reduceEqDiff, Nat.reduceLT, Nat.reduceAdd, Nat.reduceMul, bT, ↓sg_bsl, ↓st_callf, bX, ap_mkfn, ap_conv, ↓wi_seq, ↓wi_base, ↓wi_block, ↓wi_cond, ↓wi_loop, ↓wi_rf, ↓wy_seq, ↓wy_base, ↓wy_block, ↓wy_cond, ↓wy_loop, ↓wy_yld, ae_callvV, callvV_fn, List.append_nil, List.cons_append, List.nil_append, bin_nff, bin_nfn, bin_nffx, bin_nfnx, bin_streq, bin_bo_same, lstep_some, ↓st_load1nf, ↓st_loadnf, ↓st_appr, ↓st_appf0, bin_nfls, ap_lens, lensV_str]
    refine ⟨n - 1, by omega, ?_⟩
    rw [hI]
    exact ⟨rfl, i + 1, by omega, (by simp only [bE, Nat.reduceEqDiff, bN, Nat.reduceLT, he, e0, e3]; try rfl), (by simp only [bE, Nat.reduceEqDiff, bN, Nat.reduceLT, he, e0, e3]; try rfl), (by simp only [bE, Nat.reduceEqDiff, bN, Nat.reduceLT, he, e0, e3]; try rfl), by omega, by rw [take_snoc hy, List.all_append, hpre]; simp [hok]⟩
  · have hno : ltA l = false := by
      unfold ltA
      rw [Bool.and_eq_false_iff]
      refine .inl ?_
      rw [List.all_eq_false]
      exact ⟨y, List.mem_of_getElem? (l := l.take 61) (i := i) (by rw [List.getElem?_take_of_lt hlt.2]; exact hy), hok⟩
    rw [hno]
    have hok' : okA y = false := by simpa using hok
    unfold okA at hok'
    by_cases c1 : 100 < (y.2.2.size : Int)
    · have z1 := eq_true c1
      simp (config := {contextual := true, maxDischargeDepth := 12, maxSteps := 4000000}) only [tb_at, he, e0, e3, hL, y1, y2, i1, a1, a2, a3, z1, notV_bool, Bool.not_true, Bool.not_false, pickV_t, pickV_f, bin_eql, bin_neq, bin_neb, bin_npn, bin_np, bin_npnx, gcall_tt, gpure_tf, beq_self_eq_true, Bool.true_and, Bool.and_true, decide_true, decide_false, ↓bD, bU, forall_const, bS, implies_true, isNx, eq_self, ↓wp_cond, ↓wp_loop, ↓reduceIte, reduceCtorEq, Nat.reduceEqDiff, Nat.reduceLT, Nat.reduceAdd, Nat.reduceMul, bT, ↓sg_bsl, ↓st_callf, bX, ap_mkfn, ap_conv, ↓wi_seq, ↓wi_base, ↓wi_block, ↓wi_cond, ↓wi_loop, ↓wi_rf, ↓wy_seq, ↓wy_base, ↓wy_block, ↓wy_cond, ↓wy_loop, ↓wy_yld, ae_callvV, callvV_fn, List.append_nil, List.cons_append, List.nil_append, bin_nff, bin_nfn, bin_nffx, bin_nfnx, bin_streq, bin_bo_same, lstep_some, ↓st_load1nf, ↓st_loadnf, ↓st_appr, ↓st_appf0, bin_nfls, ap_lens, lensV_str]
      all_goals first | exact .refl _ | skip
    have z1 := eq_false c1
    by_cases c2 : 4611686018427387904 < y.2.1
    · have z2 := eq_true c2
      simp (config := {contextual := true, maxDischargeDepth := 12, maxSteps := 4000000}) only [tb_at, he, e0, e3, hL, y1, y2, i1, a1, a2, a3, z1, z2, notV_bool, Bool.not_true, Bool.not_false, pickV_t, pickV_f, bin_eql, bin_neq, bin_neb, bin_npn, bin_np, bin_npnx, gcall_tt, gpure_tf, beq_self_eq_true, Bool.true_and, Bool.and_true, decide_true, decide_false, ↓bD, bU, forall_const, bS, implies_true, isNx, eq_self, ↓wp_cond, ↓wp_loop, ↓reduceIte, reduceCtorEq, Nat.reduceEqDiff, Nat.reduceLT, Nat.reduceAdd, Nat.reduceMul, bT, ↓sg_bsl, ↓st_callf, bX, ap_mkfn, ap_conv, ↓wi_seq, ↓wi_base, ↓wi_block, ↓wi_cond, ↓wi_loop, ↓wi_rf, ↓wy_seq, ↓wy_base, ↓wy_block, ↓wy_cond, ↓wy_loop, ↓wy_yld, ae_callvV, callvV_fn, List.append_nil, List.cons_append, List.nil_append, bin_nff, bin_nfn, bin_nffx, bin_nfnx, bin_streq, bin_bo_same, lstep_some, ↓st_load1nf, ↓st_loadnf, ↓st_appr, ↓st_appf0, bin_nfls, ap_lens, lensV_str]
      all_goals first | exact .refl _ | skip
    have z2 := eq_false c2
    have c3 : y.2.1 < -4611686018427387904 := by
      simpa [c1, c2] using hok'
    have z3 := eq_true c3
    simp (config := {contextual := true, maxDischargeDepth := 12, maxSteps := 4000000}) only [tb_at, he, e0, e3, hL, y1, y2, i1, a1, a2, a3, z1, z2, z3, notV_bool, Bool.not_true, Bool.not_false, pickV_t, pickV_f, bin_eql, bin_neq, bin_neb, bin_npn, bin_np, bin_npnx, gcall_tt, gpure_tf, beq_self_eq_true, Bool.true_and, Bool.and_true, decide_true, decide_false, ↓bD, bU, forall_const, bS, implies_true, isNx, eq_self, ↓wp_cond, ↓wp_loop, ↓reduceIte, reduceCtorEq, Nat.reduceEqDiff, Nat.reduceLT, Nat.reduceAdd, Nat.reduceMul, bT, ↓sg_bsl, ↓st_callf, bX, ap_mkfn, ap_conv, ↓wi_seq, ↓wi_base, ↓wi_block, ↓wi_cond, ↓wi_loop, ↓wi_rf, ↓wy_seq, ↓wy_base, ↓wy_block, ↓wy_cond, ↓wy_loop, ↓wy_yld, ae_callvV, callvV_fn, List.append_nil, List.cons_append, List.nil_append, bin_nff, bin_nfn, bin_nffx, bin_nfnx, bin_streq, bin_bo_same, lstep_some, ↓st_load1nf, ↓st_loadnf, ↓st_appr, ↓st_appf0, bin_nfls, ap_lens, lensV_str]
    all_goals first | exact .refl _ | skip
theorem q_light (cl : Bool) {s : St} {v : AV} {l : List AcT} (hr : AM.read acC s v = some l) : acall R_light cl [v] s = some (.bool (ltA l), s) := run_same n_light (by simp [a8]) rfl (w_light (s := lowd s) (read_low' hr))

/-! ### Plain laws -/
variable {d : Bool} {L : List PrS}
theorem srt_rk (h : SrtD d L) {k : Int} {j : Nat} {y : PrS} (hy : L[j]? = some y) (hj : rkD d L k ≤ j) : ¬ sg d y.1 < sg d k := by
  have hjl := getlt hy
  obtain ⟨z, hz⟩ := getsome (show rkD d L k < L.length by omega)
  have h1 := rk_at hz
  by_cases e : j = rkD d L k
  · subst e
    rw [hz] at hy; injection hy with hy; rw [← hy]; exact h1
  · have := h.lt hz hy (by omega)
    omega
theorem drop_hit (h : SrtD d L) {k : Int} {v : ByteArray} (hg : gtD d L k = some v) : dropK k L = L.take (rkD d L k) ++ L.drop (rkD d L k + 1) := by
  have hx := gt_some hg
  have hi := getlt hx
  unfold dropK
  conv => lhs; rw [← List.take_append_drop (rkD d L k) L]
  rw [List.filter_append, List.drop_eq_getElem_cons hi, List.filter_cons]
  have e : L[rkD d L k] = (k, v) := (List.getElem?_eq_some_iff.1 hx).2
  rw [e]
  simp only [ne_eq, not_true_eq_false, decide_false, Bool.false_eq_true, if_false]
  congr 1
  · rw [List.filter_eq_self]
    intro y hy
    obtain ⟨j, hj⟩ := List.mem_iff_getElem?.1 hy
    have hj1 := getlt hj
    rw [List.length_take] at hj1
    rw [List.getElem?_take_of_lt (by omega)] at hj
    have := rk_lt (d := d) (k := k) (show j < rkD d L k by omega) hj
    have hne : y.1 ≠ k := fun q => by rw [q] at this; omega
    simp [hne]
  · rw [List.filter_eq_self]
    intro y hy
    obtain ⟨j, hj⟩ := List.mem_iff_getElem?.1 hy
    rw [List.getElem?_drop] at hj
    have := h.lt hx hj (by omega)
    have hne : y.1 ≠ k := fun q => by rw [q] at this; simp at this
    simp [hne]
theorem drop_miss (h : SrtD d L) {k : Int} (hg : gtD d L k = none) : dropK k L = L := by
  unfold dropK
  rw [List.filter_eq_self]
  intro y hy
  obtain ⟨j, hj⟩ := List.mem_iff_getElem?.1 hy
  have hne : y.1 ≠ k := fun q => by
    have h1 : ¬ j < rkD d L k := fun hlt => by
      have := rk_lt (d := d) (k := k) hlt hj
      rw [q] at this
      omega
    have h2 : ¬ rkD d L k < j := fun hlt => by
      obtain ⟨z, hz⟩ := getsome (show rkD d L k < L.length by have := getlt hj; omega)
      have h3 := h.lt hz hj hlt
      have h4 := rk_at hz
      rw [q] at h3
      omega
    have e : j = rkD d L k := by omega
    subst e
    unfold gtD at hg
    rw [hj] at hg
    simp [q] at hg
  simp [hne]
theorem dropK_del (h : SrtD d L) (k : Int) : dropK k L = delD d L k := by
  unfold delD
  rcases gtD_split d L k with ⟨hg, hg1⟩ | ⟨v, hg, hg1⟩
  · rw [hg1, drop_miss h hg]; rfl
  · rw [hg1, drop_hit h hg]; rfl
theorem putR_put (h : SrtD d L) (k : Int) (v : ByteArray) : putR d L k v = putD d L k v := by
  unfold putR putD
  rcases gtD_split d L k with ⟨hg, hg1⟩ | ⟨v0, hg, hg1⟩
  · rw [hg1, drop_miss h hg]; rfl
  · have hx := gt_some hg
    have hi := getlt hx
    have hlt : (L.take (rkD d L k)).length = rkD d L k := by rw [List.length_take]; omega
    have hrk : rkD d (dropK k L) k = rkD d L k := by
      rw [drop_hit h hg]
      refine rk_eq (by rw [List.length_append]; omega) (fun j y hj hy => ?_) (fun y hy => ?_)
      · rw [List.getElem?_append_left (by omega), List.getElem?_take_of_lt hj] at hy
        exact rk_lt hj hy
      · rw [List.getElem?_append_right (by omega), hlt, Nat.sub_self, List.getElem?_drop] at hy
        have := h.lt hx hy (by omega)
        simp at this
        omega
    rw [hg1, hrk, drop_hit h hg, List.take_append_of_le_length (by omega), List.drop_append_of_le_length (by omega), List.take_of_length_le (by omega), List.drop_eq_nil_of_le (by omega)]
    rfl
theorem srt_app {A B : List PrS} {x : PrS} (hA : SrtD d A) (hB : SrtD d B) (h1 : ∀ a ∈ A, sg d a.1 < sg d x.1) (h2 : ∀ b ∈ B, sg d x.1 < sg d b.1) : SrtD d (A ++ x :: B) := by
  unfold SrtD
  rw [List.pairwise_append, List.pairwise_cons]
  refine ⟨hA, ⟨h2, hB⟩, fun a ha b hb => ?_⟩
  rcases List.mem_cons.1 hb with rfl | hb
  · exact h1 a ha
  · have := h1 a ha
    have := h2 b hb
    omega
theorem SrtD.drop (h : SrtD d L) (i : Nat) : SrtD d (L.drop i) := List.Pairwise.sublist (List.drop_sublist i L) h
theorem put_srt (h : SrtD d L) (k : Int) (v : ByteArray) : SrtD d (putD d L k v) := by
  unfold putD
  refine srt_app (h.take _) (h.drop _) (fun a ha => ?_) (fun b hb => ?_)
  · obtain ⟨j, hj⟩ := List.mem_iff_getElem?.1 ha
    have hj1 := getlt hj
    rw [List.length_take] at hj1
    rw [List.getElem?_take_of_lt (by omega)] at hj
    exact rk_lt (show j < rkD d L k by omega) hj
  · obtain ⟨j, hj⟩ := List.mem_iff_getElem?.1 hb
    rw [List.getElem?_drop] at hj
    show sg d k < sg d b.1
    rcases gtD_split d L k with ⟨hg, hg1⟩ | ⟨v0, hg, hg1⟩
    · rw [hg1] at hj
      simp only [Bool.false_eq_true, if_false] at hj
      have h1 := srt_rk (k := k) h hj (by omega)
      have hne : b.1 ≠ k := fun q => by
        have hb' : b ∈ dropK k L := by rw [drop_miss h hg]; exact List.mem_of_getElem? hj
        unfold dropK at hb'
        rw [List.mem_filter] at hb'
        simp [q] at hb'
      have := mt (sg_inj d b.1 k).1 hne
      omega
    · rw [hg1] at hj
      simp only [if_true] at hj
      have := h.lt (gt_some hg) hj (by omega)
      exact this
theorem del_srt (h : SrtD d L) (k : Int) : SrtD d (delD d L k) := by
  rw [← dropK_del h]
  exact List.Pairwise.sublist List.filter_sublist h

end Go.AM
end
/-
  Ordered maps: a map looks like the reference. Own work of this project; in part printed by a program of it.
-/
section
set_option maxRecDepth 100000
set_option maxHeartbeats 8000000
namespace Go.AM
open Go Go.Proofs

variable {s t u : St}

theorem sg_callf3 {call : Nat → List AV → St → Option (AV × St)} {base : Nat} {d : Option Nat} {r : Option Nat} {rest : List AOper} {Q : Env → St → Prop} {env : Env} {s : St} (f : Nat) (l : List AO) (t : Nat) (w : Bool) : awops call base (⟨d, .call f false l, some (t, w), r, true⟩ :: rest) Q env s = gcall s (E env t) w (acallF (call f) (l.map (aev env)) s) fun v t => awops call base rest Q (pE env d v) t := by
  rw [st_guard, st_callf]
  rfl
theorem gpure_ff0 (x : AV) (K : AV → Prop) : gpure (.bool false) false (some x) K = K x := nrfl rfl
theorem it_read {f : AV} {l : List PrS} (hl : l.length ≤ 60) : (if (100 : Int) < 1 then [] else l.take (Int.toNat 100)) = l := by
  rw [if_neg (by decide)]
  exact List.take_of_length_le (by show l.length ≤ 100; omega)
end Go.AM
end
/-
  The chapter's examples: 'known' answers true. Own work of this project; in part printed by a program of it.
-/
section
set_option maxRecDepth 100000
set_option maxHeartbeats 8000000
namespace Go.AM
open Go Go.Proofs

variable {s t u : St}

def tabK : Nat → AFun
  | 9 => .code a9
  | 10 => .code a10
  | 30 => .code a30
  | 28 => .code a28
  | 27 => .code a27
  | 34 => .code a34
  | 35 => .code a35
  | 50 => .code a50
  | 38 => .code a38
  | 15 => .code a15
  | 36 => .code a36
  | 11 => .code a11
  | 51 => .code a51
  | 17 => .code a17
  | 25 => .code a25
  | 49 => .code a49
  | 26 => .code a26
  | 55 => .code a55
  | 56 => .code a56
  | 13 => .code a13
  | 14 => .code a14
  | 40 => .code a40
  | 39 => .code a39
  | 58 => .code a58
  | 43 => .code a43
  | 62 => .code a62
  | 57 => .code a57
  | 16 => .con (conF prC pPairs)
  | 41 => .con (conIns)
  | 44 => .con (conDel)
  | _ => .no
theorem tabK_ok : ∀ f, FunOk Try.prog f (tabK f) := by
  intro f
  unfold tabK
  split
  · exact ⟨k9, _, Try.func9, c9⟩
  · exact ⟨k10, _, Try.func10, c10⟩
  · exact ⟨k30, _, Try.func30, c30⟩
  · exact ⟨k28, _, Try.func28, c28⟩
  · exact ⟨k27, _, Try.func27, c27⟩
  · exact ⟨k34, _, Try.func34, c34⟩
  · exact ⟨k35, _, Try.func35, c35⟩
  · exact ⟨k50, _, Try.func50, c50⟩
  · exact ⟨k38, _, Try.func38, c38⟩
  · exact ⟨k15, _, Try.func15, c15⟩
  · exact ⟨k36, _, Try.func36, c36⟩
  · exact ⟨k11, _, Try.func11, c11⟩
  · exact ⟨k51, _, Try.func51, c51⟩
  · exact ⟨k17, _, Try.func17, c17⟩
  · exact ⟨k25, _, Try.func25, c25⟩
  · exact ⟨k49, _, Try.func49, c49⟩
  · exact ⟨k26, _, Try.func26, c26⟩
  · exact ⟨k55, _, Try.func55, c55⟩
  · exact ⟨k56, _, Try.func56, c56⟩
  · exact ⟨k13, _, Try.func13, c13⟩
  · exact ⟨k14, _, Try.func14, c14⟩
  · exact ⟨k40, _, Try.func40, c40⟩
  · exact ⟨k39, _, Try.func39, c39⟩
  · exact ⟨k58, _, Try.func58, c58⟩
  · exact ⟨k43, _, Try.func43, c43⟩
  · exact ⟨k62, _, Try.func62, c62⟩
  · exact ⟨k57, _, Try.func57, c57⟩
  · exact s_pairs
  · exact s_cInsI
  · exact s_cDelI
  · trivial
theorem known_run : isTrue (acalls tabK 1000 16 9 [] St.empty) = true := by kernel_rfl
theorem s_known : SoundAt Try.prog 9 (closed [] (.bool true)) := by
  obtain ⟨s, hs⟩ := isTrue_ex known_run
  exact closed_sound (acalls_sound mixed tabK_ok 16 _) hs rfl
theorem q_known (cl : Bool) {s : St} : acall (closed [] (.bool true)) cl [] s = some (.bool true, s) := by simp [acall, closed, AV.ground, AV.plain, AV.plains]

end Go.AM
end
/-
  The row's last part: a call that leaves what was there alone, and answers true. Own work of this project.
-/
section
namespace Go.AM
open Go Go.ChangeShapes Go.WideShapes Go.ChangeAt Go.RowKit

variable {H : Type} {enc : TypeId × Value → H} {P : Program}

theorem Clean.below {W W' : World} (h : Clean W W') : Below W.heap.size W W' := ⟨h.os, h.tape, h.output, h.size, h.block⟩
theorem Clean.frozen {W W' : World} (h : Clean W W') {a : Addr} (ha : a.block < W.heap.size) : W'.frozen? a = W.frozen? a := h.below.frozen ha

theorem trodAll_clean (hl : laidOutB P = true) {W W' : World} (hc : Clean W W') (sp : Nat → Bool) : ∀ {ts : List TypeId} {vs : List Value} {ds : List (DataW H)} {ps : List MemPlace}, (∀ t ∈ ts, P.readableRec t = true ∧ t < P.types.size) →
    DataW.TrodAll enc P W 0 (fun _ => true) true ts vs ds ps → (∀ p ∈ ps, sp p.block = true) → DataW.TrodAll enc P W' 0 sp true ts vs ds ps
  | [], vs, ds, ps, _, h, _ => by
    obtain ⟨rfl, rfl, rfl⟩ := trodAll_nil h
    rfl
  | t :: ts, vs, ds, ps, hr, h, hs => by
    obtain ⟨v, vs1, d, ds1, a, b, rfl, rfl, rfl, h1, h2⟩ := trodAll_cons h
    have hlt := DataW.TrodAll.lt h
    refine ⟨a, b, ?_, trodAll_clean hl hc sp (fun t ht => hr t (by simp [ht])) h2 fun p hp => hs p (by simp [hp]), rfl⟩
    exact WideElems.Trod_stays hl (hr t (by simp)).1 (hr t (by simp)).2 h1 (fun x hx => hc.below.same (hlt x (by simp [hx]))) fun x hx => hs x (by simp [hx])

theorem post_of_clean {f : Func} {s : ChangeSpec} {apart fresh handsOn again : Bool} {W W' : World} {args : Array Value} {ds gs : List (DataW H)} {before : List MemPlace} {tb : TypeId} (hl : laidOutB P = true)
    (hread : ∀ t ∈ f.params.toList, P.readableRec t = true ∧ t < P.types.size) (hW : DataW.Whole enc P f.params.toList s.vars apart W args.toList ds gs before) (hv : s.vars = [])
    (hres : (s.fn H (ds ++ gs)).results = [.lit (.bool true)]) (hargs : (s.fn H (ds ++ gs)).args = ds) (hvars : (s.fn H (ds ++ gs)).vars = []) (hrt : f.resultTypes = #[tb]) (hb : P.underlying tb = some .bool) (hc : Clean W W') :
    s.post enc P f apart fresh handsOn again W args (.bool true) W' := by
  have hlt : ∀ p ∈ before, p.block < W.heap.size := hW.lt
  have hW0 := hW
  obtain ⟨pa, pv, hA, hV, rfl, hz, hn⟩ := hW
  have hpv : pv = [] := by
    rw [hv] at hV
    cases gs with
    | nil => exact hV
    | cons g gs => exact hV.elim
  subst hpv
  simp only [List.append_nil] at hW0 hlt hz hn
  have hR : ∀ (b : Nat) (sp : Nat → Bool) (hd : Bool), DataW.TrodAll enc P W' b sp hd [tb] [.bool true] [.lit (.bool true)] [] := fun b sp hd => trodAll_mk1 (shut_bool hb true)
  have hrl : (Value.bool true).resultList f.resultTypes.size = [.bool true] := by simp [hrt, Value.resultList]
  refine ⟨ds, gs, pa, [], pa, [], hW0, ?_, ?_, ?_, ?_, fun _ => ⟨fun j t r h1 h2 => ?_, ?_⟩⟩
  · rw [hrl, hres, hrt]
    exact hR _ _ _
  · rw [hargs]
    exact trodAll_clean hl hc _ hread hA fun p hp => by simpa using hlt p hp
  · rw [hvars, hv]
    rfl
  · exact hc.below.frame _
  · rw [hrl] at h2
    rw [hrt] at h1
    cases j with
    | zero =>
      simp at h1 h2
      subst h1; subst h2
      simp [Value.okWide, hb, Cell.okWide, Cell.ok]
    | succ j => simp at h1
  · refine ⟨[.lit (.bool true)] ++ ds, [], pa, ⟨[] ++ pa, [], ?_, ?_, by simp, ?_, ?_⟩, fun p hp _ => hp⟩
    · rw [hrl, hrt]
      exact trodAll_append (trodAll_clean hl hc _ hread hA fun _ _ => rfl) (hR _ _ _)
    · rw [hv]
      rfl
    · intro b off hp
      rw [hc.frozen (hlt _ hp)]
      exact hz b off hp
    · intro ha
      simpa using hn ha

end Go.AM
end
/-
  From a row's reading of an argument to the abstract machine's memory. Own work of this project.
-/
section
namespace Go.AM
open Go Go.ChangeShapes Go.WideShapes Go.ChangeAt Go.RowKit Go.Deep

/-- The kinds of plain cells. -/
inductive CK where
  | b | i (k : IntKind) | s
def CK.ok : CK → AV → Prop
  | .b, v => ∃ x, v = .bool x
  | .i k, v => ∃ n, v = .int k n ∧ (Lit.int k n).wf = true
  | .s, v => ∃ x, v = .str x
def CKs : List CK → List AV → Prop
  | [], vs => vs = []
  | k :: ks, vs => ∃ v r, vs = v :: r ∧ k.ok v ∧ CKs ks r
theorem CKs.append : ∀ {ks ks' : List CK} {vs vs' : List AV}, CKs ks vs → CKs ks' vs' → CKs (ks ++ ks') (vs ++ vs')
  | [], ks', vs, vs', h, h' => by simp only [CKs] at h; subst h; exact h'
  | k :: ks, ks', vs, vs', h, h' => by
    simp only [CKs] at h
    obtain ⟨v, r, rfl, h1, h2⟩ := h
    exact ⟨v, r ++ vs', rfl, h1, CKs.append h2 h'⟩
theorem CKs.len : ∀ {ks : List CK} {vs : List AV}, CKs ks vs → vs.length = ks.length
  | [], vs, h => by simp only [CKs] at h; subst h; rfl
  | k :: ks, vs, h => by
    simp only [CKs] at h
    obtain ⟨v, r, rfl, h1, h2⟩ := h
    simp [CKs.len h2]
theorem CK.ok_one {k : CK} {v : AV} (h : k.ok v) : v.one = true := by
  cases k <;> simp only [CK.ok] at h
  · obtain ⟨x, rfl⟩ := h; rfl
  · obtain ⟨x, rfl, _⟩ := h; rfl
  · obtain ⟨x, rfl⟩ := h; rfl
theorem CKs.one : ∀ {ks : List CK} {vs : List AV}, CKs ks vs → vs.all AV.one = true
  | [], vs, h => by simp only [CKs] at h; subst h; rfl
  | k :: ks, vs, h => by
    simp only [CKs] at h
    obtain ⟨v, r, rfl, h1, h2⟩ := h
    simp [CK.ok_one h1, CKs.one h2]

variable (P : Program)
variable {P}
variable {H : Type} {enc : TypeId × Value → H} {w : World} {base : Nat} {spare : Nat → Bool} {held : Bool}
theorem cell_some {a : Addr} {v : Value} (h : w.cell? a = some v) : ∃ cells el fr, w.heap[a.block]? = some (.cells cells el fr) ∧ a.spot = none := by
  unfold World.cell? at h
  split at h
  · rename_i c el fr hh
    split at h
    · cases h
    · rename_i hs
      exact ⟨c, el, fr, hh, by simpa using hs⟩
  · cases h
theorem addr_block (a : Addr) (i : Nat) : (a.add i).block = a.block := by unfold Addr.add; split <;> rfl
theorem addr_spot (a : Addr) (i : Nat) (h : (a.add i).spot = none) (h0 : i = 0 ∨ True) : i = 0 → a.spot = none := by
  intro hi
  subst hi
  unfold Addr.add at h
  simpa using h

/-- Cells, each kind in its turn, again and again. -/
def Rows (ks : List CK) (rows : List (List AV)) : Prop := ∀ r ∈ rows, CKs ks r
end Go.AM
end
/-
  Arguments with slices in slices and in structs, opened into the abstract machine's memory. Own work of this project.
-/
section
set_option maxRecDepth 100000
namespace Go.AM
open Go Go.ChangeShapes Go.WideShapes Go.ChangeAt Go.RowKit Go.Deep

/-- Some block of cells is there. -/
def HasCellsD (W : World) : Prop := ∃ (b : Nat) (cs : Array Value) (e : TypeId) (fr : Nat × Nat), W.heap[b]? = some (Obj.cells cs e fr)
theorem dummyD {W : World} (h : HasCellsD W) : ∃ L : Loc, L.b < W.heap.size ∧ ∀ ρ, BlkOk ρ L W (.row [] false) := by
  obtain ⟨b, cs, e, fr, hb⟩ := h
  refine ⟨⟨b, 0, cs.size⟩, (Array.getElem?_eq_some_iff.1 hb).1, fun ρ => ?_⟩
  simp only [BlkOk]
  exact ⟨cs, e, fr, hb, rfl, by simp, fun i v h => by simp at h, by simp, rfl⟩

section
variable (P : Program)
/-- What the memory shows at cells of a type. -/
def RdF (ok : TypeId → List AV → Prop) : List Field → List AV → Prop
  | [], vs => vs = []
  | f :: r, vs => ∃ a b, vs = a ++ b ∧ ok f.type a ∧ RdF ok r b
def RdT (s : St) : Nat → TypeId → List AV → Prop
  | 0, _, _ => False
  | d + 1, t, vs => match P.underlying t with
    | some .bool => ∃ x, vs = [.bool x]
    | some (.int k) => ∃ n, vs = [.int k n] ∧ (Lit.int k n).wf = true
    | some .string => ∃ x, vs = [.str x]
    | some (.struct fs) => RdF (RdT s d) fs.toList vs
    | some (.slice e) => vs = [.nils] ∨ ∃ (id n cap : Nat) (rows : List (List AV)), vs = [.sl id 0 n (some cap) (P.cellsOf e)] ∧ n ≤ cap ∧ cap ≤ maxLen ∧ rows.length = cap ∧ s.get id = some (.row rows.flatten false) ∧ ∀ r ∈ rows, RdT s d e r ∧ r.length = P.cellsOf e
    | _ => False
def okF (ok : TypeId → Bool) : List Field → Nat → Nat → Bool
  | [], at_, sz => decide (sz = at_)
  | f :: r, at_, sz => decide (f.offset = at_) && ok f.type && okF ok r (at_ + P.cellsOf f.type) sz
def okT : Nat → TypeId → Bool
  | 0, _ => false
  | d + 1, t => match P.underlying t with
    | some .bool | some (.int _) | some .string => true
    | some (.struct fs) => okF P (okT d) fs.toList 0 (P.cellsOf t)
    | some (.slice e) => decide (P.cellsOf e ≠ 0) && okT d e
    | _ => false
end

variable {P : Program} {H : Type} {enc : TypeId × Value → H} {W : World} {base : Nat} {held : Bool}
/-- Cells, and the blocks that they reach, numbered from 'start' on. -/
structure Opn (W : World) (Q : St → List AV → Prop) (start : Nat) (cs : List Value) (vs : List AV) (bl : List (AB × Loc)) : Prop where
  lt : ∀ p ∈ bl, p.2.b < W.heap.size
  own : ∀ p ∈ bl, p.1.owned = false
  vr : ∀ ρ : Ren, (∀ i p, bl[i]? = some p → ρ (start + i) = some p.2) → VRs ρ vs cs ∧ ∀ p ∈ bl, BlkOk ρ p.2 W p.1
  rd : ∀ s : St, (∀ i p, bl[i]? = some p → s.get (start + i) = some p.1) → Q s vs
  one : vs.all AV.one = true
  len : vs.length = cs.length
theorem Opn.plain {Q : St → List AV → Prop} {start : Nat} {cs : List Value} {vs : List AV} (h : ∀ ρ, VRs ρ vs cs) (hq : ∀ s, Q s vs) (ho : vs.all AV.one = true) (hl : vs.length = cs.length) : Opn W Q start cs vs [] :=
  ⟨by simp, by simp, fun ρ _ => ⟨h ρ, by simp⟩, fun s _ => hq s, ho, hl⟩
theorem Opn.app {Q1 Q2 : St → List AV → Prop} {start : Nat} {c1 c2 : List Value} {v1 v2 : List AV} {b1 b2 : List (AB × Loc)} (h : Opn W Q1 start c1 v1 b1) (k : Opn W Q2 (start + b1.length) c2 v2 b2) :
    Opn W (fun s _ => Q1 s v1 ∧ Q2 s v2) start (c1 ++ c2) (v1 ++ v2) (b1 ++ b2) := by
  have e1 : ∀ {i : Nat} {p}, b1[i]? = some p → (b1 ++ b2)[i]? = some p := fun {i p} hp => by
    rw [List.getElem?_append_left (List.getElem?_eq_some_iff.1 hp).1]; exact hp
  have e2 : ∀ {i : Nat} {p}, b2[i]? = some p → (b1 ++ b2)[b1.length + i]? = some p := fun {i p} hp => by
    rw [List.getElem?_append_right (by omega), Nat.add_sub_cancel_left]; exact hp
  refine ⟨fun p hp => ?_, fun p hp => ?_, fun ρ hρ => ?_, fun s hs => ⟨h.rd s fun i p hp => hs i p (e1 hp), k.rd s fun i p hp => ?_⟩, by simp [h.one, k.one], by simp [h.len, k.len]⟩
  · rcases List.mem_append.1 hp with q | q
    · exact h.lt p q
    · exact k.lt p q
  · rcases List.mem_append.1 hp with q | q
    · exact h.own p q
    · exact k.own p q
  · obtain ⟨r1, r2⟩ := h.vr ρ fun i p hp => hρ i p (e1 hp)
    obtain ⟨r3, r4⟩ := k.vr ρ fun i p hp => by have := hρ _ p (e2 hp); rwa [← Nat.add_assoc] at this
    refine ⟨r1.append r3, fun p hp => ?_⟩
    rcases List.mem_append.1 hp with q | q
    · exact r2 p q
    · exact r4 p q
  · have := hs _ p (e2 hp)
    rwa [← Nat.add_assoc] at this
theorem Opn.imp {Q Q' : St → List AV → Prop} {start : Nat} {cs : List Value} {vs : List AV} {bl : List (AB × Loc)} (h : Opn W Q start cs vs bl) (k : ∀ s, Q s vs → Q' s vs) : Opn W Q' start cs vs bl :=
  ⟨h.lt, h.own, h.vr, fun s hs => k s (h.rd s hs), h.one, h.len⟩

/-- A slice's place, its elements as they are read one by one. -/
theorem slice_geo {t e : TypeId} {fuel : Nat} {cs : List Value} {x : DataW H × List MemPlace} (hu : P.underlying t = some (.slice e)) (h0 : P.cellsOf e ≠ 0)
    (h : DataW.trod enc P W base (fun _ => true) held fuel t cs = some x) : cs = [.slice none 0 0] ∨ (∃ a, cs = [.slice (some a) 0 0]) ∨
    ∃ (b off len cap : Nat) (cells : Array Value) (el : TypeId) (fr : Nat × Nat) (n : Nat), cs = [.slice (some ⟨b, off, none⟩) len cap] ∧ 0 < cap ∧ len ≤ cap ∧ cap ≤ maxLen ∧ W.heap[b]? = some (.cells cells el fr) ∧ off + cap * P.cellsOf e ≤ cells.size ∧
      ∀ i, i < cap → ∃ x, DataW.trod enc P W base (fun _ => true) held n e ((cells.toList.drop (off + i * P.cellsOf e)).take (P.cellsOf e)) = some x := by
  rcases open_slice hu h with ⟨rfl, _⟩ | ⟨a, len, cap, m, n, D, Pl, rfl, hb, hl, hm, hmm, _, hx⟩
  · exact .inl rfl
  right
  simp only [if_true] at hmm
  subst hmm
  by_cases hc : m = 0
  · left
    subst hc
    have : len = 0 := by omega
    subst this
    exact ⟨a, rfl⟩
  right
  obtain ⟨cs0, h1, _⟩ := hx 0 (by omega)
  obtain ⟨_, hl0, hat0⟩ := World.cells?_some h1
  have hc0 := hat0 0 (by omega)
  obtain ⟨b, off, spot⟩ := a
  have hsome : ∃ v, cs0[0]? = some v := ⟨cs0[0]'(by omega), by simp⟩
  obtain ⟨v0, hv0⟩ := hsome
  rw [hv0] at hc0
  obtain ⟨cells, el, fr, hh, hsp⟩ := cell_some hc0
  rw [addr_block, addr_block] at hh
  simp only at hh
  have hspot : spot = none := by
    have h2 := addr_spot _ 0 hsp (.inl rfl) rfl
    have h3 := addr_spot _ (0 * P.cellsOf e) h2 (.inr trivial) (by simp)
    exact h3
  subst hspot
  have hat : ∀ i, i < m → off + (i + 1) * P.cellsOf e ≤ cells.size ∧ ∃ x, DataW.trod enc P W base (fun _ => true) held n e ((cells.toList.drop (off + i * P.cellsOf e)).take (P.cellsOf e)) = some x := by
    intro i hi
    obtain ⟨cs', e1, e2⟩ := hx i hi
    obtain ⟨_, hl', hat'⟩ := World.cells?_some e1
    have hget : ∀ j, j < P.cellsOf e → cells[off + i * P.cellsOf e + j]? = cs'[j]? := by
      intro j hj
      have := hat' j hj
      rw [addr_add, addr_add, cell_at hh] at this
      exact this
    have hsz : off + (i + 1) * P.cellsOf e ≤ cells.size := by
      have hj : P.cellsOf e - 1 < P.cellsOf e := by omega
      have := hget _ hj
      rw [List.getElem?_eq_getElem (by omega)] at this
      have hlt := (Array.getElem?_eq_some_iff.1 this).1
      rw [Nat.succ_mul]
      omega
    refine ⟨hsz, (D i, Pl i), ?_⟩
    have : (cells.toList.drop (off + i * P.cellsOf e)).take (P.cellsOf e) = cs' := by
      apply List.ext_getElem?
      intro j
      by_cases hj : j < P.cellsOf e
      · rw [List.getElem?_take_of_lt hj, List.getElem?_drop]
        have := hget j (by omega)
        simpa using this
      · rw [List.getElem?_eq_none (by simp; omega), List.getElem?_eq_none (by omega)]
    rw [this]
    exact e2
  obtain ⟨q2, _⟩ := hat (m - 1) (by omega)
  rw [show m - 1 + 1 = m by omega] at q2
  exact ⟨b, off, len, m, cells, el, fr, n, rfl, by omega, hl, hm, hh, q2, fun i hi => (hat i hi).2⟩

def DeepOk (P : Program) (enc : TypeId × Value → H) (W : World) (base : Nat) (held : Bool) (d : Nat) (t : TypeId) : Prop :=
  ∀ (fuel : Nat) (cs : List Value) (x : DataW H × List MemPlace), DataW.trod enc P W base (fun _ => true) held fuel t cs = some x → ∀ start, ∃ vs bl, Opn W (fun s vs => RdT P s d t vs) start cs vs bl

theorem deep_fields {d : Nat} (IH : ∀ t, okT P d t = true → DeepOk P enc W base held d t) {n : Nat} {cs : List Value} {sz : Nat} (hcs : cs.length = sz) : ∀ (fs : List Field) (at_ : Nat), okF P (okT P d) fs at_ sz = true →
    (∀ f ∈ fs, ∃ x, DataW.trod enc P W base (fun _ => true) held n f.type ((cs.drop f.offset).take (P.cellsOf f.type)) = some x) → ∀ start, ∃ vs bl, Opn W (fun s vs => RdF (RdT P s d) fs vs) start (cs.drop at_) vs bl
  | [], at_, h, _, start => by
    simp only [okF, decide_eq_true_eq] at h
    rw [List.drop_eq_nil_of_le (by omega)]
    exact ⟨[], [], .plain (fun _ => VRs_nil) (fun _ => rfl) rfl rfl⟩
  | f :: r, at_, h, hx, start => by
    simp only [okF, Bool.and_eq_true, decide_eq_true_eq] at h
    obtain ⟨⟨hoff, hok⟩, hr⟩ := h
    obtain ⟨x, hxf⟩ := hx f (by simp)
    obtain ⟨v1, b1, o1⟩ := IH f.type hok n _ x hxf start
    obtain ⟨v2, b2, o2⟩ := deep_fields IH hcs r (at_ + P.cellsOf f.type) hr (fun g hg => hx g (by simp [hg])) (start + b1.length)
    refine ⟨v1 ++ v2, b1 ++ b2, ?_⟩
    have := o1.app o2
    rw [hoff, ← List.drop_drop, List.take_append_drop] at this
    exact this.imp fun s q => ⟨v1, v2, rfl, q⟩
theorem deep_rows {d : Nat} {e : TypeId} {n : Nat} (IH : DeepOk P enc W base held d e) (cells : List Value) (off : Nat) : ∀ (k : Nat), off + k * P.cellsOf e ≤ cells.length →
    (∀ i, i < k → ∃ x, DataW.trod enc P W base (fun _ => true) held n e ((cells.drop (off + i * P.cellsOf e)).take (P.cellsOf e)) = some x) → ∀ start, ∃ (rows : List (List AV)) (bl : List (AB × Loc)), rows.length = k ∧
      Opn W (fun s _ => ∀ r ∈ rows, RdT P s d e r ∧ r.length = P.cellsOf e) start ((cells.drop off).take (k * P.cellsOf e)) rows.flatten bl
  | 0, _, _, start => ⟨[], [], rfl, .plain (fun _ => by simpa using VRs_nil) (fun _ r hr => by simp at hr) rfl (by simp)⟩
  | k + 1, hle, hx, start => by
    obtain ⟨rows, b1, h1, o1⟩ := deep_rows IH cells off k (by rw [Nat.succ_mul] at hle; omega) (fun i hi => hx i (by omega)) start
    obtain ⟨x, hxk⟩ := hx k (by omega)
    obtain ⟨v2, b2, o2⟩ := IH n _ x hxk (start + b1.length)
    refine ⟨rows ++ [v2], b1 ++ b2, by simp [h1], ?_⟩
    have hl2 : v2.length = P.cellsOf e := by
      rw [o2.len, List.length_take, List.length_drop]
      rw [Nat.succ_mul] at hle
      omega
    have := o1.app o2
    rw [List.flatten_append, List.flatten_singleton, Nat.succ_mul, List.take_add, List.drop_drop]
    refine this.imp fun s hq r hr => ?_
    rcases List.mem_append.1 hr with q | q
    · exact hq.1 r q
    · simp at q
      subst q
      exact ⟨hq.2, hl2⟩
theorem VRs.cell {ρ : Ren} {vs : List AV} {cs : List Value} (h : VRs ρ vs cs) {i : Nat} {v : AV} (hi : vs[i]? = some v) : ∃ c, cs[i]? = some c ∧ VR ρ v c := VRs.at_ i h hi
theorem deep_open (hc : HasCellsD W) : ∀ (d : Nat) (t : TypeId), okT P d t = true → DeepOk P enc W base held d t
  | 0, t, h => by simp [okT] at h
  | d + 1, t, h => by
    intro fuel cs x hx start
    simp only [okT] at h
    split at h
    · rename_i hu
      obtain ⟨b, rfl, _⟩ := DataW.trod_bool hu hx
      exact ⟨[.bool b], [], .plain (fun ρ => VRs_cons.2 ⟨by simp [VR], VRs_nil⟩) (fun s => by simp only [RdT, hu]; exact ⟨b, rfl⟩) rfl rfl⟩
    · rename_i k hu
      obtain ⟨b, rfl, _, hw⟩ := DataW.trod_int hu hx
      exact ⟨[.int k b], [], .plain (fun ρ => VRs_cons.2 ⟨by simp [VR], VRs_nil⟩) (fun s => by simp only [RdT, hu]; exact ⟨b, rfl, hw⟩) rfl rfl⟩
    · rename_i hu
      obtain ⟨b, rfl, _⟩ := DataW.trod_string hu hx
      exact ⟨[.str b], [], .plain (fun ρ => VRs_cons.2 ⟨by simp [VR], VRs_nil⟩) (fun s => by simp only [RdT, hu]; exact ⟨b, rfl⟩) rfl rfl⟩
    · rename_i fs hu
      obtain ⟨xs, n, _, _, hl, hxl, hf⟩ := DataW.trod_struct hu hx
      obtain ⟨vs, bl, ho⟩ := deep_fields (fun t hk => deep_open hc d t hk) hl fs.toList 0 h (n := n) (fun f hmem => by
        obtain ⟨i, hi⟩ := List.getElem?_of_mem hmem
        have hi' : fs[i]? = some f := by simpa using hi
        have hlt : i < xs.length := by
          have := (Array.getElem?_eq_some_iff.1 hi').1
          omega
        exact ⟨xs[i], by rw [hf i f hi']; simp [hlt]⟩) start
      rw [List.drop_zero] at ho
      exact ⟨vs, bl, ho.imp fun s q => by simp only [RdT, hu]; exact q⟩
    · rename_i e hu
      simp only [Bool.and_eq_true, decide_eq_true_eq] at h
      obtain ⟨L, hL1, hL2⟩ := dummyD hc
      rcases slice_geo hu h.1 hx with rfl | ⟨a, rfl⟩ | ⟨b, off, len, cap, cells, el, fr, n, rfl, h2, h3, h4, h5, h6, h7⟩
      · exact ⟨[.nils], [], .plain (fun ρ => VRs_cons.2 ⟨by simp [VR], VRs_nil⟩) (fun s => by simp only [RdT, hu]; exact .inl (by trivial)) rfl rfl⟩
      · refine ⟨[.sl start 0 0 (some 0) (P.cellsOf e)], [(.row [] false, L)], ?_, ?_, fun ρ hρ => ⟨VRs_cons.2 ⟨?_, VRs_nil⟩, ?_⟩, fun s hs => ?_, rfl, rfl⟩
        · intro p hp
          simp at hp
          subst hp
          exact hL1
        · intro p hp
          simp at hp
          subst hp
          rfl
        · simp only [VR]
          exact ⟨L, a, 0, hρ 0 _ rfl, rfl, Nat.le_refl _, fun k hk => by injection hk, .inl rfl⟩
        · intro p hp
          simp at hp
          subst hp
          exact hL2 ρ
        · simp only [RdT, hu]
          exact .inr ⟨start, 0, 0, [], rfl, Nat.le_refl _, Nat.zero_le _, rfl, hs 0 _ rfl, fun r hr => by simp at hr⟩
      · have hlt := (Array.getElem?_eq_some_iff.1 h5).1
        obtain ⟨rows, bl, hr1, ho⟩ := deep_rows (deep_open hc d e h.2) cells.toList off cap (by simpa using h6) h7 (start + 1)
        have hfl : rows.flatten.length = cap * P.cellsOf e := by
          rw [ho.len, List.length_take, List.length_drop]
          simp
          omega
        have hup : ∀ {ρ : Ren}, (∀ i p, ((AB.row rows.flatten false, (⟨b, off, cells.size⟩ : Loc)) :: bl)[i]? = some p → ρ (start + i) = some p.2) → ∀ i p, bl[i]? = some p → ρ (start + 1 + i) = some p.2 := fun hρ i p hp => by
          have := hρ (i + 1) p (by simpa using hp)
          rwa [show start + (i + 1) = start + 1 + i by omega] at this
        refine ⟨[.sl start 0 len (some cap) (P.cellsOf e)], (.row rows.flatten false, ⟨b, off, cells.size⟩) :: bl, ?_, ?_, fun ρ hρ => ?_, fun s hs => ?_, rfl, rfl⟩
        · intro p hp
          rcases List.mem_cons.1 hp with rfl | hp
          · exact hlt
          · exact ho.lt p hp
        · intro p hp
          rcases List.mem_cons.1 hp with rfl | hp
          · rfl
          · exact ho.own p hp
        · obtain ⟨r1, r2⟩ := ho.vr ρ (hup hρ)
          refine ⟨VRs_cons.2 ⟨?_, VRs_nil⟩, fun p hp => ?_⟩
          · simp only [VR]
            exact ⟨⟨b, off, cells.size⟩, ⟨b, off, none⟩, cap, hρ 0 _ rfl, rfl, h3, fun k hk => by injection hk, .inr ⟨by simp, by simpa using h6⟩⟩
          · rcases List.mem_cons.1 hp with rfl | hp
            · simp only [BlkOk]
              refine ⟨cells, el, fr, h5, rfl, by rw [hfl]; exact h6, fun i v hi => ?_, by simp, ho.one⟩
              have hi' := (List.getElem?_eq_some_iff.1 hi).1
              obtain ⟨c, hc1, hc2⟩ := r1.cell hi
              refine ⟨c, ?_, hc2⟩
              rw [List.getElem?_take_of_lt (by omega), List.getElem?_drop] at hc1
              simpa using hc1
            · exact r2 p hp
        · simp only [RdT, hu]
          refine .inr ⟨start, len, cap, rows, rfl, h3, h4, hr1, hs 0 _ rfl, ?_⟩
          refine ho.rd s fun i p hp => ?_
          have := hs (i + 1) p (by simpa using hp)
          rwa [show start + (i + 1) = start + 1 + i by omega] at this
    · cases h

/-! ### All arguments of a call -/
def argAV (P : Program) (t : TypeId) (vs : List AV) : AV := match P.underlying t with
  | some (.struct _) => .agg vs
  | _ => vs.headD .und
def RdA (P : Program) (s : St) (d : Nat) (t : TypeId) (v : AV) : Prop := ∃ vs, RdT P s d t vs ∧ v = argAV P t vs
def RdAs (P : Program) (s : St) (d : Nat) : List TypeId → List AV → Prop
  | [], xs => xs = []
  | t :: ts, xs => ∃ v r, xs = v :: r ∧ RdA P s d t v ∧ RdAs P s d ts r
structure OpnA (W : World) (Q : St → List AV → Prop) (start : Nat) (cs : List Value) (vs : List AV) (bl : List (AB × Loc)) : Prop where
  lt : ∀ p ∈ bl, p.2.b < W.heap.size
  own : ∀ p ∈ bl, p.1.owned = false
  vr : ∀ ρ : Ren, (∀ i p, bl[i]? = some p → ρ (start + i) = some p.2) → VRs ρ vs cs ∧ ∀ p ∈ bl, BlkOk ρ p.2 W p.1
  rd : ∀ s : St, (∀ i p, bl[i]? = some p → s.get (start + i) = some p.1) → Q s vs
theorem OpnA.cons {Q1 Q2 : St → List AV → Prop} {start : Nat} {c : Value} {cs : List Value} {v : AV} {vs : List AV} {b1 b2 : List (AB × Loc)} (h : OpnA W Q1 start [c] [v] b1) (k : OpnA W Q2 (start + b1.length) cs vs b2) :
    OpnA W (fun s _ => Q1 s [v] ∧ Q2 s vs) start (c :: cs) (v :: vs) (b1 ++ b2) := by
  have e1 : ∀ {i : Nat} {p}, b1[i]? = some p → (b1 ++ b2)[i]? = some p := fun {i p} hp => by
    rw [List.getElem?_append_left (List.getElem?_eq_some_iff.1 hp).1]; exact hp
  have e2 : ∀ {i : Nat} {p}, b2[i]? = some p → (b1 ++ b2)[b1.length + i]? = some p := fun {i p} hp => by
    rw [List.getElem?_append_right (by omega), Nat.add_sub_cancel_left]; exact hp
  refine ⟨fun p hp => ?_, fun p hp => ?_, fun ρ hρ => ?_, fun s hs => ⟨h.rd s fun i p hp => hs i p (e1 hp), k.rd s fun i p hp => ?_⟩⟩
  · rcases List.mem_append.1 hp with q | q
    · exact h.lt p q
    · exact k.lt p q
  · rcases List.mem_append.1 hp with q | q
    · exact h.own p q
    · exact k.own p q
  · obtain ⟨r1, r2⟩ := h.vr ρ fun i p hp => hρ i p (e1 hp)
    obtain ⟨r3, r4⟩ := k.vr ρ fun i p hp => by have := hρ _ p (e2 hp); rwa [← Nat.add_assoc] at this
    refine ⟨r1.append r3, fun p hp => ?_⟩
    rcases List.mem_append.1 hp with q | q
    · exact r2 p q
    · exact r4 p q
  · have := hs _ p (e2 hp)
    rwa [← Nat.add_assoc] at this
theorem arg_deep (hc : HasCellsD W) {d : Nat} {t : TypeId} (hok : okT P (d + 1) t = true) {v : Value} {x : DataW H} {p : List MemPlace} (h : DataW.Trod enc P W base (fun _ => true) held t v x p) {b0 : Nat} (hval : Value.okWide P W .any b0 t v) (start : Nat) :
    ∃ a bl, OpnA W (fun s _ => RdA P s (d + 1) t a) start [v] [a] bl := by
  obtain ⟨fuel, h⟩ := h
  obtain ⟨vs, bl, ho⟩ := deep_open hc (d + 1) t hok fuel _ _ h start
  have hone : ∀ (hv : v.cells.toList = [v]) (ha : argAV P t vs = vs.headD .und), ∃ a bl, OpnA W (fun s _ => RdA P s (d + 1) t a) start [v] [a] bl := by
    intro hv ha
    have hl := ho.len
    rw [hv] at hl
    match vs, hl with
    | [a], _ =>
      refine ⟨a, bl, ho.lt, ho.own, fun ρ hρ => ?_, fun s hs => ⟨[a], ho.rd s hs, by rw [ha]; rfl⟩⟩
      have := ho.vr ρ hρ
      rw [hv] at this
      exact this
  simp only [okT] at hok
  split at hok
  · rename_i hu
    obtain ⟨b, rfl⟩ := okWide_bool hu hval
    exact hone rfl (by simp [argAV, hu])
  · rename_i k hu
    obtain ⟨b, rfl⟩ := okWide_int hu hval
    exact hone rfl (by simp [argAV, hu])
  · rename_i hu
    obtain ⟨b, rfl⟩ := okWide_string hu hval
    exact hone rfl (by simp [argAV, hu])
  · rename_i fs hu
    obtain ⟨cs, rfl, _⟩ := okWide_struct hu hval
    refine ⟨.agg vs, bl, ho.lt, ho.own, fun ρ hρ => ?_, fun s hs => ⟨vs, ho.rd s hs, by simp [argAV, hu]⟩⟩
    obtain ⟨r1, r2⟩ := ho.vr ρ hρ
    refine ⟨VRs_cons.2 ⟨?_, VRs_nil⟩, r2⟩
    simp only [VR]
    exact ⟨cs.toList, by simp, r1⟩
  · rename_i e hu
    obtain ⟨a, len, cap, rfl⟩ := okWide_slice hu hval
    exact hone rfl (by simp [argAV, hu])
  · cases hok
theorem args_deep (hc : HasCellsD W) {d : Nat} : ∀ {ts : List TypeId} {vs : List Value} {ds : List (DataW H)} {ps : List MemPlace}, (∀ t ∈ ts, okT P (d + 1) t = true) → DataW.TrodAll enc P W base (fun _ => true) held ts vs ds ps →
    (∀ (j : Nat) t v, ts[j]? = some t → vs[j]? = some v → ∃ b0, Value.okWide P W .any b0 t v) → ∀ start, ∃ xs bl, OpnA W (fun s _ => RdAs P s (d + 1) ts xs) start vs xs bl
  | [], vs, ds, ps, _, h, _, start => by
    obtain ⟨rfl, rfl, rfl⟩ := trodAll_nil h
    exact ⟨[], [], by simp, by simp, fun ρ _ => ⟨VRs_nil, by simp⟩, fun s _ => rfl⟩
  | t :: ts, vs, ds, ps, hok, h, hval, start => by
    obtain ⟨v, vs1, x, ds1, a, b, rfl, rfl, rfl, h1, h2⟩ := trodAll_cons h
    obtain ⟨b0, hv⟩ := hval 0 t v rfl rfl
    obtain ⟨av, bl1, o1⟩ := arg_deep hc (hok t (by simp)) h1 hv start
    obtain ⟨xs, bl2, o2⟩ := args_deep hc (fun t' ht => hok t' (by simp [ht])) h2 (fun j t' v' e1 e2 => hval (j + 1) t' v' (by simpa using e1) (by simpa using e2)) (start + bl1.length)
    have := o1.cons o2
    exact ⟨av :: xs, bl1 ++ bl2, this.lt, this.own, this.vr, fun s hs => ⟨av, xs, rfl, this.rd s hs⟩⟩
open Classical in
noncomputable def lawC (P : Program) (d : Nat) (ts : List TypeId) : List AV → St → Option (AV × St) := fun xs s => if RdAs P s d ts xs then some (.bool true, { heap := s.heap, next := s.next, low := min s.low s.next }) else none
theorem deep_call {d : Nat} {ts : List TypeId} {args : List Value} {xs : List AV} {bl : List (AB × Loc)} (ho : OpnA W (fun s _ => RdAs P s d ts xs) 0 args xs bl) {f : Nat} (hs : SoundAt P f (lawC P d ts)) : Calls P f args.toArray W fun e W' => e = .returned (.bool true) ∧ Clean W W' := by
  obtain ⟨s0, hs0⟩ : ∃ s0 : St, s0 = ⟨(bl.map (·.1)).reverse, bl.length, 0⟩ := ⟨_, rfl⟩
  have hnx : s0.next = bl.length := by rw [hs0]
  have hget : ∀ i, s0.get i = (bl[i]?).map (·.1) := by
    intro i
    subst hs0
    unfold St.get
    simp only
    split
    · rename_i h
      rw [List.getElem?_reverse (by simp; omega)]
      simp only [List.length_map, List.getElem?_map]
      rw [show bl.length - 1 - (bl.length - 1 - i) = i by omega]
    · rename_i h
      rw [List.getElem?_eq_none (by omega)]
      rfl
  have hown : ∀ i b, s0.get i = some b → b.owned = false := by
    intro i b h
    rw [hget] at h
    obtain ⟨p, hp, rfl⟩ := Option.map_eq_some_iff.1 h
    exact ho.own p (List.mem_of_getElem? hp)
  obtain ⟨ρ, hρ⟩ : ∃ ρ : Ren, ρ = fun i => (bl[i]?).map (·.2) := ⟨_, rfl⟩
  have hρ1 : ∀ i p, bl[i]? = some p → ρ (0 + i) = some p.2 := fun i p hp => by rw [hρ, Nat.zero_add]; simp [hp]
  obtain ⟨hv, hb⟩ := ho.vr ρ hρ1
  have hR : R s0 ρ W := by
    refine ⟨fun i L h => ?_, fun i b L h1 h2 => ?_, fun i j L M bi bj _ _ _ e3 _ e5 _ => ?_⟩
    · rw [hρ] at h
      obtain ⟨p, hp, rfl⟩ := Option.map_eq_some_iff.1 h
      exact ho.lt p (List.mem_of_getElem? hp)
    · rw [hget] at h1
      rw [hρ] at h2
      obtain ⟨p, hp, rfl⟩ := Option.map_eq_some_iff.1 h1
      simp [hp] at h2
      subst h2
      exact hb p (List.mem_of_getElem? hp)
    · rw [hown i bi e3] at e5; cases e5
  have hrd := ho.rd s0 fun i p hp => by rw [Nat.zero_add, hget, hp]; rfl
  obtain ⟨_, _, h⟩ := hs xs s0 _ _ (by unfold lawC; rw [if_pos hrd])
  have := h ρ W args (fun i hi => by rw [hρ]; simp; omega) hR hv
  refine this.mono fun e W' hp => ?_
  obtain ⟨ρ', v, rfl, hv', hst, _⟩ := hp
  simp only [VR] at hv'
  subst hv'
  exact ⟨rfl, hst.size, hst.os, hst.tape, hst.output, hst.drawn, fun b hb => hst.frame b hb fun id L blk _ _ h1 h2 => by rw [hown id blk h1] at h2; cases h2⟩
theorem trodAll_len : ∀ {ts : List TypeId} {vs : List Value} {ds : List (DataW H)} {ps : List MemPlace}, DataW.TrodAll enc P W base (fun _ => true) held ts vs ds ps → ds.length = ts.length
  | [], vs, ds, ps, h => by
    obtain ⟨rfl, rfl, rfl⟩ := trodAll_nil h
    rfl
  | t :: ts, vs, ds, ps, h => by
    obtain ⟨v, vs1, x, ds1, a, b, rfl, rfl, rfl, h1, h2⟩ := trodAll_cons h
    simp [trodAll_len h2]
end Go.AM
end
/-
  What the arguments of the statements show: numbers, nodes, states, lists of states. Own work of this project.
-/
section
set_option maxRecDepth 100000
namespace Go.AM
open Go Go.Proofs

variable {P : Program} {s : St}
theorem rd_slice {d : Nat} {t e : TypeId} {vs : List AV} (hu : P.underlying t = some (.slice e)) (h : RdT P s (d + 1) t vs) : vs = [.nils] ∨ ∃ (id n cap : Nat) (rows : List (List AV)), vs = [.sl id 0 n (some cap) (P.cellsOf e)] ∧ n ≤ cap ∧ cap ≤ maxLen ∧ rows.length = cap ∧ s.get id = some (.row rows.flatten false) ∧ ∀ r ∈ rows, RdT P s d e r ∧ r.length = P.cellsOf e := by
  simp only [RdT, hu] at h
  exact h
theorem rd_int {d : Nat} {t : TypeId} {k : IntKind} {vs : List AV} (hu : P.underlying t = some (.int k)) (h : RdT P s (d + 1) t vs) : ∃ n, vs = [.int k n] ∧ (Lit.int k n).wf = true := by
  simp only [RdT, hu] at h
  exact h
theorem rda_int {d : Nat} {t : TypeId} {k : IntKind} {v : AV} (hu : P.underlying t = some (.int k)) (h : RdA P s (d + 1) t v) : ∃ n, v = .int k n ∧ (Lit.int k n).wf = true := by
  obtain ⟨vs, h1, rfl⟩ := h
  obtain ⟨n, rfl, hw⟩ := rd_int hu h1
  exact ⟨n, by simp [argAV, hu], hw⟩
theorem lawC_some {d : Nat} {ts : List TypeId} {xs : List AV} {r : AV} {s' : St} (h : lawC P d ts xs s = some (r, s')) : RdAs P s d ts xs ∧ r = .bool true ∧ s' = s.lowed := by
  unfold lawC at h
  split at h
  · rename_i hr
    injection h with h
    obtain ⟨rfl, rfl⟩ := Prod.mk.inj h
    exact ⟨hr, rfl, rfl⟩
  · cases h
theorem rdas_1 {d : Nat} {t : TypeId} {xs : List AV} (h : RdAs P s d [t] xs) : ∃ v, xs = [v] ∧ RdA P s d t v := by
  obtain ⟨v, r, rfl, h1, h2⟩ := h
  simp only [RdAs] at h2
  subst h2
  exact ⟨v, rfl, h1⟩
theorem rdas_2 {d : Nat} {t1 t2 : TypeId} {xs : List AV} (h : RdAs P s d [t1, t2] xs) : ∃ v w, xs = [v, w] ∧ RdA P s d t1 v ∧ RdA P s d t2 w := by
  obtain ⟨v, r, rfl, h1, h2⟩ := h
  obtain ⟨w, rfl, h3⟩ := rdas_1 h2
  exact ⟨v, w, rfl, h1, h3⟩
theorem rdas_3 {d : Nat} {t1 t2 t3 : TypeId} {xs : List AV} (h : RdAs P s d [t1, t2, t3] xs) : ∃ v w u, xs = [v, w, u] ∧ RdA P s d t1 v ∧ RdA P s d t2 w ∧ RdA P s d t3 u := by
  obtain ⟨v, r, rfl, h1, h2⟩ := h
  obtain ⟨w, u, rfl, h3, h4⟩ := rdas_2 h2
  exact ⟨v, w, u, rfl, h1, h3, h4⟩
end Go.AM
end
/-
  Arguments that are structs, field by field. Own work of this project.
-/
section
namespace Go.AM
open Go

variable {s t u : St}
section
variable {P : Program}
def RdTs (P : Program) (s : St) (d : Nat) : List TypeId → List AV → Prop
  | [], vs => vs = []
  | t :: r, vs => ∃ a b, vs = a ++ b ∧ RdT P s d t a ∧ RdTs P s d r b
theorem rd_fields {d : Nat} : ∀ (fs : List Field) (vs : List AV), RdF (RdT P s d) fs vs → RdTs P s d (fs.map (·.type)) vs
  | [], _, h => h
  | f :: r, vs, h => by
    obtain ⟨a, b, rfl, h1, h2⟩ := h
    exact ⟨a, b, rfl, h1, rd_fields r b h2⟩
def fieldsT (P : Program) (t : TypeId) : Option (List TypeId) := match P.underlying t with
  | some (.struct fs) => some (fs.toList.map (·.type))
  | _ => none
theorem rd_struct {d : Nat} {t : TypeId} {ts : List TypeId} {vs : List AV} (hu : fieldsT P t = some ts) (h : RdT P s (d + 1) t vs) : RdTs P s d ts vs := by
  unfold fieldsT at hu
  split at hu
  · rename_i fs hq
    injection hu with hu
    subst hu
    simp only [RdT, hq] at h
    exact rd_fields _ _ h
  · cases hu
end
end Go.AM
end
/-
  OmapPlays. Own work of this project; in part printed by a program of it.
-/
section
set_option maxRecDepth 100000
set_option maxHeartbeats 8000000
namespace Go.AM
open Go Go.Proofs

variable {s t u : St}

theorem act_unders : Try.prog.underlying 22 = some (.slice 31) := by kernel_rfl
theorem act_cells : Try.prog.cellsOf 31 = 3 := by kernel_rfl
theorem act_fields : fieldsT Try.prog 31 = some [3, 3, 9] := by kernel_rfl
theorem int_underK : Try.prog.underlying 3 = some (.int .i64) := by kernel_rfl
theorem str_underK : Try.prog.underlying 9 = some .string := by kernel_rfl
theorem bool_underK : Try.prog.underlying 4 = some .bool := by kernel_rfl
theorem rd_strK {P : Program} {d : Nat} {t : TypeId} {vs : List AV} (hu : P.underlying t = some .string) (h : RdT P s (d + 1) t vs) : ∃ n, vs = [.str n] := by
  simp only [RdT, hu] at h
  exact h
theorem rda_boolK {P : Program} {d : Nat} {t : TypeId} {v : AV} (hu : P.underlying t = some .bool) (h : RdA P s (d + 1) t v) : ∃ b, v = .bool b := by
  obtain ⟨vs, h1, rfl⟩ := h
  simp only [RdT, hu] at h1
  obtain ⟨b, rfl⟩ := h1
  exact ⟨b, by simp [argAV, hu]⟩
theorem acts_of_rows {d : Nat} : ∀ {rows : List (List AV)}, (∀ r ∈ rows, RdT Try.prog s (d + 2) 31 r) → ∃ l : List AcT, rows.flatten = acC.cells l ∧ l.length = rows.length
  | [], _ => ⟨[], rfl, rfl⟩
  | r :: rows, h => by
    obtain ⟨r1, x1, rfl, k1, r2, x2, rfl, k2, r3, x3, rfl, k3, rfl⟩ := rd_struct act_fields (h r (by simp))
    obtain ⟨a, rfl, _⟩ := rd_int int_underK k1
    obtain ⟨b, rfl, _⟩ := rd_int int_underK k2
    obtain ⟨c, rfl⟩ := rd_strK str_underK k3
    obtain ⟨l, h1, h2⟩ := acts_of_rows (rows := rows) fun r' hr' => h r' (by simp [hr'])
    exact ⟨(a, b, c) :: l, by rw [List.flatten_cons, h1, cells_cons]; rfl, by simp [h2]⟩
theorem rda_acts08 {v : AV} (h : RdA Try.prog s 8 22 v) : ∃ l, AM.read acC s v = some l := by
  obtain ⟨vs, h1, rfl⟩ := h
  rcases rd_slice act_unders h1 with rfl | ⟨id, n, cap, rows, rfl, h1, _, h3, h4, h5⟩
  · exact ⟨[], by simp [argAV, act_unders]; rfl⟩
  · obtain ⟨l, e1, e2⟩ := acts_of_rows (d := 5) fun r hr => (h5 r hr).1
    have e : argAV Try.prog 22 [.sl id 0 n (some cap) (Try.prog.cellsOf 31)] = .sl id 0 n (some cap) 3 := by simp [argAV, act_unders, act_cells]
    rw [e]
    refine ⟨l.take n, ?_⟩
    have hall : AM.read acC s (.sl id 0 cap (some cap) 3) = some l := by
      have hcl : (acC.cells l).length = l.length * 3 := cells_len acC l
      refine read_of (C := acC) (by omega) h4 ?_ ?_
      · rw [e1, hcl]
        show 0 + cap * 3 ≤ _
        omega
      · rw [e1, List.drop_zero, show cap * acC.sz = (acC.cells l).length by rw [hcl]; show cap * 3 = _; omega, List.take_length]
    exact read_take hall n h1
theorem sto_z3 {m : Nat} {t : St} (h : sameN m t) {a b c : AV} (ha : a.one = true) (hb : b.one = true) (hc : c.one = true) (cs : List AV) (hcs : cs.length = 3) : AM.sto (t.push (.row cs true)) 3 (.ptr m 0) (.agg [a, b, c]) = some (.und, t.lowed.push (.row [a, b, c] true)) := by
  unfold sameN at h
  subst h
  have hg : (t.push (.row cs true)).get t.next = some (.row cs true) := St.get_push_new t _
  simp only [AM.sto, hg]
  rw [if_pos ⟨rfl, by simp [AV.cells, ha, hb, hc], by omega⟩]
  simp [setAt, AV.cells, hcs, St.push, St.put, St.lowed]
theorem row3_lod {id : Nat} {a b c : AV} {own : Bool} (h : t.get id = some (.row [a, b, c] own)) : lod1 t (.ptr id 0) = some a ∧ lod1 t (.ptr id 1) = some b ∧ lod1 t (.ptr id 2) = some c ∧ ltN id t := by
  refine ⟨?_, ?_, ?_, St.get_lt h⟩ <;> simp [lod1, h]
theorem MpR.nb {id : Nat} {q : Option Nat} {d : Bool} {L : List PrS} (h : MpR t id q d L) {b : Nat} {x : Bool} {w : AV} {own : Bool} (hg : t.get b = some (.row [.bool x, w] own)) : b ∉ id :: q.toList := by
  have h1 : b ≠ id := by
    rintro rfl
    have := h.box
    rw [hg] at this
    injection this with this
    injection this with this _
    injection this with this _
    cases d <;> cases this
  cases q with
  | none => simp [h1]
  | some j =>
    have h2 : b ≠ j := by
      rintro rfl
      have := (h.dat b rfl).2
      rw [hg] at this
      injection this with this
      injection this with this _
      cases L with
      | nil => cases this
      | cons y r =>
        rw [pr_cells2] at this
        injection this with this _
        cases this
    simp [h1, h2]
/-- A map and the reference's: the same pairs. -/
structure PlM (s t : St) (rb id : Nat) (q : Option Nat) (d : Bool) (L : List PrS) (rv : AV) : Prop where
  mp : MpR t id q d L
  hid : s.next ≤ id
  hq : ∀ j, q = some j → s.next ≤ j
  rb : t.get rb = some (.row [.bool d, rv] true)
  own : Own prC s t rv L
  sep : ∀ j, q = some j → ∀ o n c z, rv ≠ .sl j o n c z
  srt : SrtD d L
variable {rb id : Nat} {q : Option Nat} {d : Bool} {L : List PrS} {rv : AV}
theorem PlM.keep (h : PlM s t rb id q d L rv) (hK : Keep t u) : PlM s u rb id q d L rv := ⟨h.mp.keep hK, h.hid, h.hq, hK.blk h.rb, h.own.mono fun _ _ => hK.blk, h.sep, h.srt⟩
/-- Behind a change of the map. -/
theorem PlM.chg (h : PlM s t rb id q d L rv) (hC : Chg (id :: q.toList) t u) {q' : Option Nat} (hq' : ∀ j, q' = some j → q = some j ∨ t.next ≤ j) :
    u.get rb = some (.row [.bool d, rv] true) ∧ Own prC s u rv L ∧ (∀ j, q' = some j → ∀ o n c z, rv ≠ .sl j o n c z) ∧ (∀ j, q' = some j → s.next ≤ j ∧ (j < t.next ∨ t.next ≤ j)) := by
  have hO : Own prC s u rv L := by
    have h0 := h.own
    rcases h0 with e | ⟨j, e, h1, h2, h3⟩
    · exact .inl e
    · refine .inr ⟨j, e, h1, h2, hC.blk h3 fun hm => ?_⟩
      rcases List.mem_cons.1 hm with rfl | hm
      · have := h.mp.box
        rw [h3] at this
        injection this with this
        injection this with this _
        cases L with
        | nil => exact h1 rfl
        | cons y r =>
          rw [pr_cells2] at this
          injection this with this _
          cases d <;> cases this
      · cases hq : q with
        | none => rw [hq] at hm; simp at hm
        | some j0 =>
          rw [hq] at hm
          simp at hm
          subst hm
          exact h.sep j hq 0 _ none _ e
  refine ⟨hC.blk h.rb (h.mp.nb h.rb), hO, fun j hj o n c z e => ?_, fun j hj => ?_⟩
  · rcases hq' j hj with e' | e'
    · exact h.sep j e' o n c z e
    · rcases h.own with ⟨e2, _⟩ | ⟨j2, e2, _, _, h3⟩
      · rw [e2] at e; cases e
      · rw [e2] at e
        injection e with e
        have := St.get_lt h3
        omega
  · rcases hq' j hj with e' | e'
    · exact ⟨h.hq j e', by omega⟩
    · have h1 := h.hid
      have := St.get_lt h.mp.box
      exact ⟨by omega, by omega⟩
/-- The reference has made a new list. -/
theorem PlM.next {t0 t1 u : St} {rv' : AV} {L' : List PrS} {q' : Option Nat} (hm : MpR t1 id q' d L') (hid : s.next ≤ id) (hq : ∀ j, q' = some j → s.next ≤ j) (hb : t1.get rb = some (.row [.bool d, rv] true)) (hs : s.next ≤ t1.next) (hO : Own prC t1 t0 rv' L') (hK : Keep t1 t0) (hsr : SrtD d L') (hu : u = t0.put rb (.row [.bool d, rv'] true)) (hrb : s.next ≤ rb) (hKs : Keep s t0) :
    PlM s u rb id q' d L' rv' ∧ Keep s u := by
  have hb0 := hK.blk hb
  have hlt := St.get_lt hb0
  have hrbl := St.get_lt hb
  have hnb := hm.nb hb
  have hne : ∀ j, q' = some j → j ≠ rb := fun j e => by
    rintro rfl
    apply hnb
    rw [e]
    simp
  have hni : id ≠ rb := fun e => hnb (by rw [e]; simp)
  subst hu
  refine ⟨⟨⟨?_, hm.nol, fun j e => ⟨(hm.dat j e).1, ?_⟩, hm.hn⟩, hid, hq, St.get_put_same hb0, ?_, fun j e o n c z e2 => ?_, hsr⟩, hKs.put _ hrb hlt⟩
  · rw [St.get_put_ne _ _ hlt hni]
    exact hK.blk hm.box
  · rw [St.get_put_ne _ _ hlt (hne j e)]
    exact hK.blk (hm.dat j e).2
  · rcases hO with e | ⟨j, e, h1, h2, h3⟩
    · exact .inl e
    · refine .inr ⟨j, e, h1, by omega, ?_⟩
      rw [St.get_put_ne _ _ hlt (by omega)]
      exact h3
  · rcases hO with ⟨e3, _⟩ | ⟨j2, e3, _, h2, _⟩
    · rw [e3] at e2; cases e2
    · rw [e3] at e2
      injection e2 with e2
      have := St.get_lt (hm.dat j e).2
      omega
end Go.AM
end
/-
  OmapHolds. Own work of this project; in part printed by a program of it.
-/
section
set_option maxRecDepth 100000
set_option maxHeartbeats 8000000
namespace Go.AM
open Go Go.Proofs

variable {s t u : St}

theorem u8_nat {n : Int} (h : (Lit.int .u8 n).wf = true) : ∃ b : Nat, n = (b : Int) ∧ b < 256 := by
  have e1 : IntKind.u8.min = 0 := by decide
  have e2 : IntKind.u8.max = 255 := by decide
  have : 0 ≤ n ∧ n ≤ 255 := by
    simp [Lit.wf, e1, e2] at h
    omega
  exact ⟨n.toNat, by omega, by omega⟩
theorem bin_remI {a b : Nat} (hb : 0 < b) : binOp .rem .no (.int .i64 (a : Int)) (.int .i64 (b : Int)) = some (.int .i64 ((a % b : Nat) : Int)) := by
  have h0 : ¬ ((b : Int) = 0) := by omega
  have e : (a : Int).tmod (b : Int) = ((a % b : Nat) : Int) := by rw [Int.tmod_eq_emod_of_nonneg (by omega)]; rfl
  show (if (b : Int) = 0 then none else some (AV.int .i64 ((a : Int).tmod (b : Int)))) = _
  rw [if_neg h0, e]
variable {rb id : Nat} {q : Option Nat} {d : Bool} {L : List PrS} {rv : AV}
theorem MpR.nbo (h : MpR t id q d L) {b : Nat} {d' : Bool} {w : AV} {own : Bool} (hg : t.get b = some (.row [ordV d', w] own)) (hne : b ≠ id) : b ∉ id :: q.toList := by
  cases q with
  | none => simp [hne]
  | some j =>
    have h2 : b ≠ j := by
      rintro rfl
      have := (h.dat b rfl).2
      rw [hg] at this
      injection this with this
      injection this with this _
      cases L with
      | nil => cases this
      | cons y r =>
        rw [pr_cells2] at this
        injection this with this _
        cases d' <;> cases this
    simp [hne, h2]
theorem own_chg (h : MpR t id q d L) {A : List PrS} (hO : Own prC s t rv A) (hsep : ∀ j, q = some j → ∀ o n c z, rv ≠ .sl j o n c z) (hC : Chg (id :: q.toList) t u) {q' : Option Nat} (hq' : ∀ j, q' = some j → q = some j ∨ t.next ≤ j) :
    Own prC s u rv A ∧ ∀ j, q' = some j → ∀ o n c z, rv ≠ .sl j o n c z := by
  constructor
  · rcases hO with e | ⟨j, e, h1, h2, h3⟩
    · exact .inl e
    · refine .inr ⟨j, e, h1, h2, hC.blk h3 fun hm => ?_⟩
      rcases List.mem_cons.1 hm with rfl | hm
      · have := h.box
        rw [h3] at this
        injection this with this
        injection this with this _
        cases A with
        | nil => exact h1 rfl
        | cons y r =>
          rw [pr_cells2] at this
          injection this with this _
          cases d <;> cases this
      · cases hq : q with
        | none => rw [hq] at hm; simp at hm
        | some j0 =>
          rw [hq] at hm
          simp at hm
          subst hm
          exact hsep j hq 0 _ none _ e
  · intro j hj o n c z e
    rcases hq' j hj with e' | e'
    · exact hsep j e' o n c z e
    · rcases hO with ⟨e2, _⟩ | ⟨j2, e2, _, _, h3⟩
      · rw [e2] at e; cases e
      · rw [e2] at e
        injection e with e
        have := St.get_lt h3
        omega
theorem chg_keep {a : St} (hK : Keep a t) (h1 : a.next ≤ id) (h2 : ∀ j, q = some j → a.next ≤ j) (hC : Chg (id :: q.toList) t u) : Keep a u := hK.chgn hC fun k hk => by
  rcases List.mem_cons.1 hk with rfl | hk
  · exact h1
  · cases hq : q with
    | none => rw [hq] at hk; simp at hk
    | some j => rw [hq] at hk; simp at hk; subst hk; exact h2 k hq
theorem q_new {a : St} {q' : Option Nat} (hK : Keep a t) (h2 : ∀ j, q = some j → a.next ≤ j) (hq' : ∀ j, q' = some j → q = some j ∨ t.next ≤ j) : ∀ j, q' = some j → a.next ≤ j := fun j e => by
  rcases hq' j e with e | e
  · exact h2 j e
  · have := hK.next
    omega
/-! ### Plain laws -/
theorem rk_self (h : SrtD d L) {i : Nat} {y : PrS} (hy : L[i]? = some y) : rkD d L y.1 = i := rk_eq (Nat.le_of_lt (getlt hy)) (fun j z hj hz => h.lt hz hy hj) fun z hz => by
  rw [hy] at hz; injection hz with hz; rw [← hz]; omega
theorem gt_self (h : SrtD d L) {i : Nat} {y : PrS} (hy : L[i]? = some y) : gtD d L y.1 = some y.2 := by
  unfold gtD
  rw [rk_self h hy, hy]
  simp
theorem mem_put (h : SrtD d L) (k : Int) (v : ByteArray) (y : PrS) : y ∈ putD d L k v ↔ y = (k, v) ∨ (y ∈ L ∧ y.1 ≠ k) := by
  rw [← putR_put h]
  unfold putR
  have e : y ∈ dropK k L ↔ y ∈ L ∧ y.1 ≠ k := by
    unfold dropK
    rw [List.mem_filter]
    simp
  rw [← e]
  conv => rhs; rhs; rw [← List.take_append_drop (rkD d (dropK k L) k) (dropK k L)]
  simp only [List.mem_append, List.mem_cons]
  constructor
  · rintro (h | h | h)
    · exact .inr (.inl h)
    · exact .inl h
    · exact .inr (.inr h)
  · rintro (h | h | h)
    · exact .inr (.inl h)
    · exact .inl h
    · exact .inr (.inr h)
theorem srt_ext : ∀ {A B : List PrS}, SrtD d A → SrtD d B → (∀ y, y ∈ A ↔ y ∈ B) → A = B
  | [], [], _, _, _ => rfl
  | [], b :: B, _, _, h => absurd ((h b).2 (by simp)) (by simp)
  | a :: A, [], _, _, h => absurd ((h a).1 (by simp)) (by simp)
  | a :: A, b :: B, hA, hB, h => by
    unfold SrtD at hA hB
    rw [List.pairwise_cons] at hA hB
    have e : a = b := by
      rcases List.mem_cons.1 ((h a).1 (by simp)) with e | e
      · exact e
      · rcases List.mem_cons.1 ((h b).2 (by simp)) with e2 | e2
        · exact e2.symm
        · have h1 := hB.1 a e
          have h2 := hA.1 b e2
          omega
    subst e
    rw [srt_ext hA.2 hB.2 fun y => ?_]
    constructor
    · intro hy
      rcases List.mem_cons.1 ((h y).1 (List.mem_cons_of_mem _ hy)) with e | e
      · have := hA.1 y hy
        rw [e] at this
        omega
      · exact e
    · intro hy
      rcases List.mem_cons.1 ((h y).2 (List.mem_cons_of_mem _ hy)) with e | e
      · have := hB.1 y hy
        rw [e] at this
        omega
      · exact e
/-- What has been set of a list, from one place on around. -/
def GotR (d : Bool) (L : List PrS) (tn i : Nat) (N : List PrS) : Prop := SrtD d N ∧ (∀ y ∈ N, y ∈ L) ∧ ∀ j, j < i → ∀ y, L[(j + tn) % L.length]? = some y → y ∈ N
theorem GotR.step {tn i : Nat} {N : List PrS} (hL : SrtD d L) (h : GotR d L tn i N) {y : PrS} (hy : L[(i + tn) % L.length]? = some y) : GotR d L tn (i + 1) (putD d N y.1 y.2) := by
  obtain ⟨h1, h2, h3⟩ := h
  have uniq : ∀ a ∈ L, a.1 = y.1 → a = y := fun a ha e => by
    obtain ⟨j, hj⟩ := List.mem_iff_getElem?.1 ha
    have e1 := rk_self hL hj
    have e2 := rk_self hL hy
    rw [e, e2] at e1
    rw [← e1, hy] at hj
    injection hj with hj
    exact hj.symm
  refine ⟨put_srt h1 _ _, fun a ha => ?_, fun j hj a ha => ?_⟩
  · rcases (mem_put h1 _ _ a).1 ha with rfl | ⟨h, _⟩
    · exact List.mem_of_getElem? hy
    · exact h2 a h
  · rw [mem_put h1]
    by_cases e : j = i
    · subst e
      rw [hy] at ha
      injection ha with ha
      exact .inl ha.symm
    · have hm := h3 j (by omega) a ha
      by_cases e2 : a.1 = y.1
      · exact .inl (uniq a (h2 a hm) e2)
      · exact .inr ⟨hm, e2⟩
theorem GotR.all {tn : Nat} {N : List PrS} (hL : SrtD d L) (h : GotR d L tn L.length N) : N = L := by
  obtain ⟨h1, h2, h3⟩ := h
  refine srt_ext h1 hL fun y => ⟨h2 y, fun hy => ?_⟩
  obtain ⟨k, hk⟩ := List.mem_iff_getElem?.1 hy
  have hkl := getlt hk
  have hpos : 0 < L.length := by omega
  have hm := Nat.mod_lt tn hpos
  by_cases c : tn % L.length ≤ k
  · refine h3 (k - tn % L.length) (by omega) y ?_
    have e : (k - tn % L.length + tn) % L.length = k := by
      rw [Nat.add_mod, Nat.mod_eq_of_lt (show k - tn % L.length < L.length by omega), show k - tn % L.length + tn % L.length = k by omega, Nat.mod_eq_of_lt hkl]
    rw [e]; exact hk
  · refine h3 (k + L.length - tn % L.length) (by omega) y ?_
    have e : (k + L.length - tn % L.length + tn) % L.length = k := by
      rw [Nat.add_mod, Nat.mod_eq_of_lt (show k + L.length - tn % L.length < L.length by omega), show k + L.length - tn % L.length + tn % L.length = k + L.length by omega, Nat.add_mod_right, Nat.mod_eq_of_lt hkl]
    rw [e]; exact hk
theorem s_OmapHolds : SoundAt Try.prog 5 (lawC Try.prog 8 [4, 22, 5]) :=
  con_keep (tb_sound (l := [(9, closed [] (.bool true)), (8, R_light), (10, R_made), (17, R_Delete), (11, R_Set), (13, R_All), (16, conF prC pPairs), (25, R_Len), (26, R_Rank), (27, R_lat), (28, R_gets), (15, R_Same)]) (by simpa using ⟨s_known, s_light, s_made, s_Delete, s_Set, s_All, s_pairs, s_Len, s_Rank, s_lat, s_gets, s_Same⟩)) mixed Try.func5 k5 c5 fun args s r s' h => by
    obtain ⟨hh, rfl, rfl⟩ := lawC_some h
    obtain ⟨y1, vl, y3, rfl, k1, k2, k3⟩ := rdas_3 hh
    obtain ⟨d, rfl⟩ := rda_boolK bool_underK k1
    obtain ⟨M, hV⟩ := rda_acts08 k2
    obtain ⟨tn', rfl, hwf⟩ := rda_int (show Try.prog.underlying 5 = some (.int .u8) by kernel_rfl) k3
    obtain ⟨tn, rfl, htn⟩ := u8_nat hwf
    refine ⟨rfl, rfl, by simp [a5], fun env hlen ha => ?_⟩
    have h0 : E env 0 = _ := ha 0 _ rfl
    have h1 : E env 1 = _ := ha 1 _ rfl
    have h2 : E env 2 = _ := ha 2 _ rfl
    have hlen : elen env = _ := hlen
    simp only [a5] at hlen
    unfold a5
    try dsimp only [oO, oG]
    have hM := lenV_read hV
    have qli := q_light false hV
    rcases Bool.eq_false_or_eq_true (ltA M) with hlt | hlt
    rotate_left
    · rw [hlt] at qli
      simp (config := {contextual := true, maxDischargeDepth := 12, maxSteps := 4000000}) only [tb_at, h0, h1, h2, hlen, qli, notV_bool, Bool.not_true, Bool.not_false, pickV_t, pickV_f, bin_eql, bin_neq, bin_neb, bin_npn, bin_np, bin_npnx, gcall_tt, gpure_tf, beq_self_eq_true, Bool.true_and, Bool.and_true, decide_true, decide_false, ↓bD, bU, forall_const, bS, implies_true, isNx, eq_self, ↓wp_cond, ↓wp_loop, ↓reduceIte, reduceCtorEq, Nat.reduceEqDiff, Nat.reduceLT, Nat.reduceAdd, Nat.reduceMul, bT, ↓sg_bsl, ↓st_callf, bX, ap_mkfn, ap_conv, ↓wi_seq, ↓wi_base, ↓wi_block, ↓wi_cond, ↓wi_loop, ↓wi_rf, ↓wy_seq, ↓wy_base, ↓wy_block, ↓wy_cond, ↓wy_loop, ↓wy_yld, ae_callvV, callvV_fn, List.append_nil, List.cons_append, List.nil_append, bin_nff, bin_nfn, bin_nffx, bin_nfnx, bin_streq, bin_bo_same, lstep_some, ↓st_load1nf, ↓st_loadnf, ↓st_appr, ↓st_appf0, bin_nfls, ap_lens, lensV_str, ↓sg_callf3, gcall_ff, gpure_ff0, q_known]
      all_goals first | exact .refl s | skip
    rw [hlt] at qli
    obtain ⟨hM60, hMk⟩ := ltA_true hlt
    obtain ⟨id, t1, qm, hi0, hm0, hK1⟩ := q_made (s := s) d
    obtain ⟨idn, t2, qn, hi1, hn0, hK2⟩ := q_made (s := t1) d
    have hK12 := hK1.trans hK2
    have hidl := St.get_lt hm0.box
    have hne : idn ≠ id := by omega
    have hidn : s.next ≤ idn := by have := hK1.next; omega
    simp (config := {contextual := true, maxDischargeDepth := 12, maxSteps := 4000000}) only [tb_at, h0, h1, h2, hlen, qli, qm, qn, bin_np, hM, notV_bool, Bool.not_true, Bool.not_false, pickV_t, pickV_f, bin_eql, bin_neq, bin_neb, bin_npn, bin_np, bin_npnx, gcall_tt, gpure_tf, beq_self_eq_true, Bool.true_and, Bool.and_true, decide_true, decide_false, ↓bD, bU, forall_const, bS, implies_true, isNx, eq_self, ↓wp_cond, ↓wp_loop, ↓reduceIte, reduceCtorEq, Nat.reduceEqDiff, Nat.reduceLT, Nat.reduceAdd, Nat.reduceMul, bT, ↓sg_bsl, ↓st_callf, bX, ap_mkfn, ap_conv, ↓wi_seq, ↓wi_base, ↓wi_block, ↓wi_cond, ↓wi_loop, ↓wi_rf, ↓wy_seq, ↓wy_base, ↓wy_block, ↓wy_cond, ↓wy_loop, ↓wy_yld, ae_callvV, callvV_fn, List.append_nil, List.cons_append, List.nil_append, bin_nff, bin_nfn, bin_nffx, bin_nfnx, bin_streq, bin_bo_same, lstep_some, ↓st_load1nf, ↓st_loadnf, ↓st_appr, ↓st_appf0, bin_nfls, ap_lens, lensV_str, ↓sg_callf3, gcall_ff, gpure_ff0, q_known]
    obtain ⟨I, hI⟩ : ∃ I : Nat → Env → St → Prop, ∀ n e t, I n e t = (Keep s t ∧ ∃ (i : Nat) (q : Option Nat) (L : List PrS), n + i = M.length ∧ elen e = 151 ∧ E e 0 = .bool d ∧ E e 2 = .int .u8 (tn : Int) ∧ E e 7 = .ptr id 0 ∧ E e 8 = .ptr idn 0 ∧ E e 30 = vl ∧ E e 31 = .int .i64 (M.length : Int) ∧ E e 32 = .int .i64 (i : Int) ∧ MpR t id q d L ∧ (∀ j, q = some j → s.next ≤ j) ∧ SrtD d L ∧ L.length ≤ i ∧ MpR t idn none d []) := ⟨fun n e t => (Keep s t ∧ ∃ (i : Nat) (q : Option Nat) (L : List PrS), n + i = M.length ∧ elen e = 151 ∧ E e 0 = .bool d ∧ E e 2 = .int .u8 (tn : Int) ∧ E e 7 = .ptr id 0 ∧ E e 8 = .ptr idn 0 ∧ E e 30 = vl ∧ E e 31 = .int .i64 (M.length : Int) ∧ E e 32 = .int .i64 (i : Int) ∧ MpR t id q d L ∧ (∀ j, q = some j → s.next ≤ j) ∧ SrtD d L ∧ L.length ≤ i ∧ MpR t idn none d []), fun _ _ _ => rfl⟩
    refine lwp_inv I (n := M.length) ?_ ?_
    · rw [hI]
      exact ⟨hK12, 0, none, [], by omega, (by simp only [bE, Nat.reduceEqDiff, bN, Nat.reduceLT, hlen]; try rfl), (by simp only [bE, Nat.reduceEqDiff, bN, Nat.reduceLT, hlen, h0]; try rfl), (by simp only [bE, Nat.reduceEqDiff, bN, Nat.reduceLT, hlen, h2]; try rfl), (by simp only [bE, Nat.reduceEqDiff, bN, Nat.reduceLT, hlen]; try rfl), (by simp only [bE, Nat.reduceEqDiff, bN, Nat.reduceLT, hlen]; try rfl), (by simp only [bE, Nat.reduceEqDiff, bN, Nat.reduceLT, hlen, h1]; try rfl), (by simp only [bE, Nat.reduceEqDiff, bN, Nat.reduceLT, hlen]; try rfl), (by simp only [bE, Nat.reduceEqDiff, bN, Nat.reduceLT, hlen]; try rfl), hm0.keep hK2, (fun j e => by cases e), List.Pairwise.nil, Nat.le_refl _, hn0⟩
    clear h0 h1 h2 hlen ha qli qm qn
    intro n e t hi
    rw [hI] at hi
    obtain ⟨hK, i, q, L, hni, he, e0, e2, e7, e8, e30, e31, e32, hm, hq, hsr, hLi, hn⟩ := hi
    by_cases hlt : i < M.length
    · have y1 := eq_true (show (i : Int) < (M.length : Int) by omega)
      have hw2 := wrap_add1 (n := i) (by omega)
      obtain ⟨ac, hac⟩ := getsome hlt
      obtain ⟨i1, i2, _, _, _, i3⟩ := ac_lods (hK.read hV) hac
      have st3 := sto_z3 (m := t.next) (t := t) rfl (a := .int .i64 ac.1) (b := .int .i64 ac.2.1) (c := .str ac.2.2) rfl rfl rfl [.int .i64 0, .int .i64 0, .str ⟨#[]⟩] rfl
      obtain ⟨tb, htb⟩ : ∃ tb, tb = t.lowed.push (.row [.int .i64 ac.1, .int .i64 ac.2.1, .str ac.2.2] true) := ⟨_, rfl⟩
      have hKb : Keep t tb := by rw [htb]; exact (keep_lowed t).push _
      have gb : tb.get t.next = some (.row [.int .i64 ac.1, .int .i64 ac.2.1, .str ac.2.2] true) := by rw [htb]; exact St.get_push_new t.lowed _
      rw [← htb] at st3
      obtain ⟨bx, hbx⟩ : ∃ bx, bx = t.next := ⟨_, rfl⟩
      rw [← hbx] at gb st3
      have lbx : ltN bx (t.push (.row [.int .i64 0, .int .i64 0, .str ⟨#[]⟩] true)) := by rw [hbx]; show t.next < t.next + 1; omega
      obtain ⟨a0, a1, a2, alt⟩ := row3_lod gb
      have hKsb := hK.trans hKb
      have hmb := hm.keep hKb
      have hnb := hn.keep hKb
      have hnM := hmb.nbo hnb.box hne
      by_cases c0 : ac.1 = 1
      · have z0 := eq_true c0
        obtain ⟨tc, qs, ⟨q', hm', hq'⟩, hC⟩ := q_Delete hmb hsr ac.2.1
        have hKf := chg_keep hKsb hi0 hq hC
        have hle := del_len d L ac.2.1
        simp (config := {contextual := true, maxDischargeDepth := 12, maxSteps := 4000000}) only [tb_at, he, e0, e2, e7, e8, e30, e31, e32, ← hbx, hM, y1, hw2, i1, i2, i3, st3, lbx, a0, a1, a2, alt, z0, qs, notV_bool, Bool.not_true, Bool.not_false, pickV_t, pickV_f, bin_eql, bin_neq, bin_neb, bin_npn, bin_np, bin_npnx, gcall_tt, gpure_tf, beq_self_eq_true, Bool.true_and, Bool.and_true, decide_true, decide_false, ↓bD, bU, forall_const, bS, implies_true, isNx, eq_self, ↓wp_cond, ↓wp_loop, ↓reduceIte, reduceCtorEq, Nat.reduceEqDiff, Nat.reduceLT, Nat.reduceAdd, Nat.reduceMul, bT, ↓sg_bsl, ↓st_callf, bX, ap_mkfn, ap_conv, ↓wi_seq, ↓wi_base, ↓wi_block, ↓wi_cond, ↓wi_loop, ↓wi_rf, ↓wy_seq, ↓wy_base, ↓wy_block, ↓wy_cond, ↓wy_loop, ↓wy_yld, ae_callvV, callvV_fn, List.append_nil, List.cons_append, List.nil_append, bin_nff, bin_nfn, bin_nffx, bin_nfnx, bin_streq, bin_bo_same, lstep_some, ↓st_load1nf, ↓st_loadnf, ↓st_appr, ↓st_appf0, bin_nfls, ap_lens, lensV_str, ↓sg_callf3, gcall_ff, gpure_ff0, q_known]
        refine ⟨n - 1, by omega, ?_⟩
        rw [hI]
        exact ⟨hKf, i + 1, q', _, by omega, (by simp only [bE, Nat.reduceEqDiff, bN, Nat.reduceLT, he, e0, e2, e7, e8, e30, e31, e32]; try rfl), (by simp only [bE, Nat.reduceEqDiff, bN, Nat.reduceLT, he, e0, e2, e7, e8, e30, e31, e32]; try rfl), (by simp only [bE, Nat.reduceEqDiff, bN, Nat.reduceLT, he, e0, e2, e7, e8, e30, e31, e32]; try rfl), (by simp only [bE, Nat.reduceEqDiff, bN, Nat.reduceLT, he, e0, e2, e7, e8, e30, e31, e32]; try rfl), (by simp only [bE, Nat.reduceEqDiff, bN, Nat.reduceLT, he, e0, e2, e7, e8, e30, e31, e32]; try rfl), (by simp only [bE, Nat.reduceEqDiff, bN, Nat.reduceLT, he, e0, e2, e7, e8, e30, e31, e32]; try rfl), (by simp only [bE, Nat.reduceEqDiff, bN, Nat.reduceLT, he, e0, e2, e7, e8, e30, e31, e32]; try rfl), (by simp only [bE, Nat.reduceEqDiff, bN, Nat.reduceLT, he, e0, e2, e7, e8, e30, e31, e32]; try rfl), hm', q_new hKsb hq hq', del_srt hsr _, by omega, hnb.chg hC hnM (fun j e => by cases e)⟩
      · have z0 := eq_false c0
        obtain ⟨tc, qs, ⟨q', hm', hq'⟩, hC, _⟩ := q_Set hmb hsr ac.2.1 ac.2.2 (by omega)
        have hKf := chg_keep hKsb hi0 hq hC
        have hle := put_len d L ac.2.1 ac.2.2
        obtain ⟨va, vb, hab⟩ := atomsG (gtD d L ac.2.1)
        rw [hab] at qs
        simp (config := {contextual := true, maxDischargeDepth := 12, maxSteps := 4000000}) only [tb_at, he, e0, e2, e7, e8, e30, e31, e32, ← hbx, hM, y1, hw2, i1, i2, i3, st3, lbx, a0, a1, a2, alt, z0, qs, notV_bool, Bool.not_true, Bool.not_false, pickV_t, pickV_f, bin_eql, bin_neq, bin_neb, bin_npn, bin_np, bin_npnx, gcall_tt, gpure_tf, beq_self_eq_true, Bool.true_and, Bool.and_true, decide_true, decide_false, ↓bD, bU, forall_const, bS, implies_true, isNx, eq_self, ↓wp_cond, ↓wp_loop, ↓reduceIte, reduceCtorEq, Nat.reduceEqDiff, Nat.reduceLT, Nat.reduceAdd, Nat.reduceMul, bT, ↓sg_bsl, ↓st_callf, bX, ap_mkfn, ap_conv, ↓wi_seq, ↓wi_base, ↓wi_block, ↓wi_cond, ↓wi_loop, ↓wi_rf, ↓wy_seq, ↓wy_base, ↓wy_block, ↓wy_cond, ↓wy_loop, ↓wy_yld, ae_callvV, callvV_fn, List.append_nil, List.cons_append, List.nil_append, bin_nff, bin_nfn, bin_nffx, bin_nfnx, bin_streq, bin_bo_same, lstep_some, ↓st_load1nf, ↓st_loadnf, ↓st_appr, ↓st_appf0, bin_nfls, ap_lens, lensV_str, ↓sg_callf3, gcall_ff, gpure_ff0, q_known]
        refine ⟨n - 1, by omega, ?_⟩
        rw [hI]
        exact ⟨hKf, i + 1, q', _, by omega, (by simp only [bE, Nat.reduceEqDiff, bN, Nat.reduceLT, he, e0, e2, e7, e8, e30, e31, e32]; try rfl), (by simp only [bE, Nat.reduceEqDiff, bN, Nat.reduceLT, he, e0, e2, e7, e8, e30, e31, e32]; try rfl), (by simp only [bE, Nat.reduceEqDiff, bN, Nat.reduceLT, he, e0, e2, e7, e8, e30, e31, e32]; try rfl), (by simp only [bE, Nat.reduceEqDiff, bN, Nat.reduceLT, he, e0, e2, e7, e8, e30, e31, e32]; try rfl), (by simp only [bE, Nat.reduceEqDiff, bN, Nat.reduceLT, he, e0, e2, e7, e8, e30, e31, e32]; try rfl), (by simp only [bE, Nat.reduceEqDiff, bN, Nat.reduceLT, he, e0, e2, e7, e8, e30, e31, e32]; try rfl), (by simp only [bE, Nat.reduceEqDiff, bN, Nat.reduceLT, he, e0, e2, e7, e8, e30, e31, e32]; try rfl), (by simp only [bE, Nat.reduceEqDiff, bN, Nat.reduceLT, he, e0, e2, e7, e8, e30, e31, e32]; try rfl), hm', q_new hKsb hq hq', put_srt hsr _ _, by omega, hnb.chg hC hnM (fun j e => by cases e)⟩
    have y1 := eq_false (show ¬ (i : Int) < (M.length : Int) by omega)
    have hL60 : L.length ≤ 60 := by omega
    obtain ⟨w1, t3, qA, hI1, hKA⟩ := q_All hm
    obtain ⟨av, t4, qP, hO4, hKP⟩ := q_pairs hI1 (by omega) (m := 100)
    rw [it_read (f := .nils) hL60] at hO4
    have hKAP := hKA.trans hKP
    have hm4 := hm.keep hKAP
    have hn4 := hn.keep hKAP
    have hKs4 := hK.trans hKAP
    have hLv := lenV_read hO4.read
    have qL := q_Len false hm4
    have nn : ((L.length : Int) = (L.length : Int)) = True := eq_self _
    simp (config := {contextual := true, maxDischargeDepth := 12, maxSteps := 4000000}) only [tb_at, he, e0, e2, e7, e8, e30, e31, e32, hM, y1, qA, qP, hLv, qL, nn, notV_bool, Bool.not_true, Bool.not_false, pickV_t, pickV_f, bin_eql, bin_neq, bin_neb, bin_npn, bin_np, bin_npnx, gcall_tt, gpure_tf, beq_self_eq_true, Bool.true_and, Bool.and_true, decide_true, decide_false, ↓bD, bU, forall_const, bS, implies_true, isNx, eq_self, ↓wp_cond, ↓wp_loop, ↓reduceIte, reduceCtorEq, Nat.reduceEqDiff, Nat.reduceLT, Nat.reduceAdd, Nat.reduceMul, bT, ↓sg_bsl, ↓st_callf, bX, ap_mkfn, ap_conv, ↓wi_seq, ↓wi_base, ↓wi_block, ↓wi_cond, ↓wi_loop, ↓wi_rf, ↓wy_seq, ↓wy_base, ↓wy_block, ↓wy_cond, ↓wy_loop, ↓wy_yld, ae_callvV, callvV_fn, List.append_nil, List.cons_append, List.nil_append, bin_nff, bin_nfn, bin_nffx, bin_nfnx, bin_streq, bin_bo_same, lstep_some, ↓st_load1nf, ↓st_loadnf, ↓st_appr, ↓st_appf0, bin_nfls, ap_lens, lensV_str, ↓sg_callf3, gcall_ff, gpure_ff0, q_known]
    obtain ⟨u, hu⟩ : ∃ u, u = t4 := ⟨_, rfl⟩
    rw [← hu] at hO4 hm4 hn4 hKs4 ⊢
    have hr4 := hO4.read
    have hKx : Keep s t := hK
    obtain ⟨I2, hI2⟩ : ∃ I : Nat → Env → St → Prop, ∀ n e t, I n e t = (Keep u t ∧ ∃ i : Nat, n + i = L.length ∧ elen e = 151 ∧ E e 0 = .bool d ∧ E e 2 = .int .u8 (tn : Int) ∧ E e 7 = .ptr id 0 ∧ E e 8 = .ptr idn 0 ∧ E e 11 = av ∧ E e 58 = av ∧ E e 59 = .int .i64 (L.length : Int) ∧ E e 60 = .int .i64 (i : Int)) := ⟨fun n e t => (Keep u t ∧ ∃ i : Nat, n + i = L.length ∧ elen e = 151 ∧ E e 0 = .bool d ∧ E e 2 = .int .u8 (tn : Int) ∧ E e 7 = .ptr id 0 ∧ E e 8 = .ptr idn 0 ∧ E e 11 = av ∧ E e 58 = av ∧ E e 59 = .int .i64 (L.length : Int) ∧ E e 60 = .int .i64 (i : Int)), fun _ _ _ => rfl⟩
    refine lwp_inv I2 (n := L.length) ?_ ?_
    · rw [hI2]
      exact ⟨.refl _, 0, by omega, (by simp only [bE, Nat.reduceEqDiff, bN, Nat.reduceLT, he]; try rfl), (by simp only [bE, Nat.reduceEqDiff, bN, Nat.reduceLT, he, e0]; try rfl), (by simp only [bE, Nat.reduceEqDiff, bN, Nat.reduceLT, he, e2]; try rfl), (by simp only [bE, Nat.reduceEqDiff, bN, Nat.reduceLT, he, e7]; try rfl), (by simp only [bE, Nat.reduceEqDiff, bN, Nat.reduceLT, he, e8]; try rfl), (by simp only [bE, Nat.reduceEqDiff, bN, Nat.reduceLT, he]; try rfl), (by simp only [bE, Nat.reduceEqDiff, bN, Nat.reduceLT, he]; try rfl), (by simp only [bE, Nat.reduceEqDiff, bN, Nat.reduceLT, he]; try rfl), (by simp only [bE, Nat.reduceEqDiff, bN, Nat.reduceLT, he]; try rfl)⟩
    clear e0 e2 e7 e8 e30 e31 e32 he hni qA qP qL
    intro n e t hi
    rw [hI2] at hi
    obtain ⟨hK, i, hni, he, e0, e2, e7, e8, e11, e58, e59, e60⟩ := hi
    have hmt := hm4.keep hK
    have hrt := hK.read hr4
    by_cases hlt2 : i < L.length
    · have y1 := eq_true (show (i : Int) < (L.length : Int) by omega)
      have hw2 := wrap_add1 (n := i) (by omega)
      obtain ⟨y, hy⟩ := getsome hlt2
      obtain ⟨i1, a0, _, _, a3⟩ := pr_lods hrt hy
      have st1 := sto_z2 (m := t.next) (t := t) rfl (a := .int .i64 y.1) (b := .str y.2) rfl rfl [.int .i64 0, .str ⟨#[]⟩] rfl
      obtain ⟨tb, htb⟩ : ∃ tb, tb = t.lowed.push (.row [.int .i64 y.1, .str y.2] true) := ⟨_, rfl⟩
      have hKb : Keep t tb := by rw [htb]; exact (keep_lowed t).push _
      have gb : tb.get t.next = some (.row [.int .i64 y.1, .str y.2] true) := by rw [htb]; exact St.get_push_new t.lowed _
      rw [← htb] at st1
      obtain ⟨b0, b1, blt⟩ := row2_lod gb
      have b2 := row2_lod2 gb
      have hmb := hmt.keep hKb
      have hrb := hKb.read hrt
      have q1 := q_Rank false hmb hsr y.1
      rw [rk_self hsr hy] at q1
      have q2 := q_lat false hmb (i : Int)
      rw [at_nat, hy] at q2
      have q3 := q_gets false hmb hsr y.1
      rw [gt_self hsr hy] at q3
      simp only [pd, Option.getD_some, Option.isSome_some] at q2 q3
      have ni : ((i : Int) = (i : Int)) = True := eq_self _
      have hKf := hK.trans hKb
      by_cases c0 : i = 0
      · have z0 := eq_false (show ¬ (0 : Int) < (i : Int) by omega)
        simp (config := {contextual := true, maxDischargeDepth := 12, maxSteps := 4000000}) only [tb_at, he, e0, e2, e7, e8, e11, e58, e59, e60, y1, hw2, i1, a0, a3, st1, b0, b1, b2, blt, q1, q2, q3, z0, ni, reserve0, notV_bool, Bool.not_true, Bool.not_false, pickV_t, pickV_f, bin_eql, bin_neq, bin_neb, bin_npn, bin_np, bin_npnx, gcall_tt, gpure_tf, beq_self_eq_true, Bool.true_and, Bool.and_true, decide_true, decide_false, ↓bD, bU, forall_const, bS, implies_true, isNx, eq_self, ↓wp_cond, ↓wp_loop, ↓reduceIte, reduceCtorEq, Nat.reduceEqDiff, Nat.reduceLT, Nat.reduceAdd, Nat.reduceMul, bT, ↓sg_bsl, ↓st_callf, bX, ap_mkfn, ap_conv, ↓wi_seq, ↓wi_base, ↓wi_block, ↓wi_cond, ↓wi_loop, ↓wi_rf, ↓wy_seq, ↓wy_base, ↓wy_block, ↓wy_cond, ↓wy_loop, ↓wy_yld, ae_callvV, callvV_fn, List.append_nil, List.cons_append, List.nil_append, bin_nff, bin_nfn, bin_nffx, bin_nfnx, bin_streq, bin_bo_same, lstep_some, ↓st_load1nf, ↓st_loadnf, ↓st_appr, ↓st_appf0, bin_nfls, ap_lens, lensV_str, ↓sg_callf3, gcall_ff, gpure_ff0, q_known]
        refine ⟨n - 1, by omega, ?_⟩
        rw [hI2]
        exact ⟨hKf, i + 1, by omega, (by simp only [bE, Nat.reduceEqDiff, bN, Nat.reduceLT, he, e0, e2, e7, e8, e11, e58, e59, e60]; try rfl), (by simp only [bE, Nat.reduceEqDiff, bN, Nat.reduceLT, he, e0, e2, e7, e8, e11, e58, e59, e60]; try rfl), (by simp only [bE, Nat.reduceEqDiff, bN, Nat.reduceLT, he, e0, e2, e7, e8, e11, e58, e59, e60]; try rfl), (by simp only [bE, Nat.reduceEqDiff, bN, Nat.reduceLT, he, e0, e2, e7, e8, e11, e58, e59, e60]; try rfl), (by simp only [bE, Nat.reduceEqDiff, bN, Nat.reduceLT, he, e0, e2, e7, e8, e11, e58, e59, e60]; try rfl), (by simp only [bE, Nat.reduceEqDiff, bN, Nat.reduceLT, he, e0, e2, e7, e8, e11, e58, e59, e60]; try rfl), (by simp only [bE, Nat.reduceEqDiff, bN, Nat.reduceLT, he, e0, e2, e7, e8, e11, e58, e59, e60]; try rfl), (by simp only [bE, Nat.reduceEqDiff, bN, Nat.reduceLT, he, e0, e2, e7, e8, e11, e58, e59, e60]; try rfl), (by simp only [bE, Nat.reduceEqDiff, bN, Nat.reduceLT, he, e0, e2, e7, e8, e11, e58, e59, e60]; try rfl)⟩
      · obtain ⟨i', rfl⟩ : ∃ i', i = i' + 1 := ⟨i - 1, by omega⟩
        have z0 := eq_true (show (0 : Int) < ((i' + 1 : Nat) : Int) by omega)
        obtain ⟨y', hy'⟩ := getsome (show i' < L.length by omega)
        obtain ⟨j1, _, c1, _, c3⟩ := pr_lods hrb hy'
        have hw3 := wrap_sub1 (n := i') (by omega)
        have hlt3 := hsr.lt hy' hy (by omega)
        cases d with
        | true =>
          have z1 := eq_false (show ¬ y'.1 ≤ y.1 by have e1 : sg true y'.1 = -y'.1 := rfl; have e2 : sg true y.1 = -y.1 := rfl; rw [e1, e2] at hlt3; omega)
          simp (config := {contextual := true, maxDischargeDepth := 12, maxSteps := 4000000}) only [tb_at, he, e0, e2, e7, e8, e11, e58, e59, e60, y1, hw2, i1, a0, a3, st1, b0, b1, b2, blt, q1, q2, q3, z0, z1, hw3, j1, c1, c3, ni, reserve0, notV_bool, Bool.not_true, Bool.not_false, pickV_t, pickV_f, bin_eql, bin_neq, bin_neb, bin_npn, bin_np, bin_npnx, gcall_tt, gpure_tf, beq_self_eq_true, Bool.true_and, Bool.and_true, decide_true, decide_false, ↓bD, bU, forall_const, bS, implies_true, isNx, eq_self, ↓wp_cond, ↓wp_loop, ↓reduceIte, reduceCtorEq, Nat.reduceEqDiff, Nat.reduceLT, Nat.reduceAdd, Nat.reduceMul, bT, ↓sg_bsl, ↓st_callf, bX, ap_mkfn, ap_conv, ↓wi_seq, ↓wi_base, ↓wi_block, ↓wi_cond, ↓wi_loop, ↓wi_rf, ↓wy_seq, ↓wy_base, ↓wy_block, ↓wy_cond, ↓wy_loop, ↓wy_yld, ae_callvV, callvV_fn, List.append_nil, List.cons_append, List.nil_append, bin_nff, bin_nfn, bin_nffx, bin_nfnx, bin_streq, bin_bo_same, lstep_some, ↓st_load1nf, ↓st_loadnf, ↓st_appr, ↓st_appf0, bin_nfls, ap_lens, lensV_str, ↓sg_callf3, gcall_ff, gpure_ff0, q_known]
          refine ⟨n - 1, by omega, ?_⟩
          rw [hI2]
          exact ⟨hKf, i' + 1 + 1, by omega, (by simp only [bE, Nat.reduceEqDiff, bN, Nat.reduceLT, he, e0, e2, e7, e8, e11, e58, e59, e60]; try rfl), (by simp only [bE, Nat.reduceEqDiff, bN, Nat.reduceLT, he, e0, e2, e7, e8, e11, e58, e59, e60]; try rfl), (by simp only [bE, Nat.reduceEqDiff, bN, Nat.reduceLT, he, e0, e2, e7, e8, e11, e58, e59, e60]; try rfl), (by simp only [bE, Nat.reduceEqDiff, bN, Nat.reduceLT, he, e0, e2, e7, e8, e11, e58, e59, e60]; try rfl), (by simp only [bE, Nat.reduceEqDiff, bN, Nat.reduceLT, he, e0, e2, e7, e8, e11, e58, e59, e60]; try rfl), (by simp only [bE, Nat.reduceEqDiff, bN, Nat.reduceLT, he, e0, e2, e7, e8, e11, e58, e59, e60]; try rfl), (by simp only [bE, Nat.reduceEqDiff, bN, Nat.reduceLT, he, e0, e2, e7, e8, e11, e58, e59, e60]; try rfl), (by simp only [bE, Nat.reduceEqDiff, bN, Nat.reduceLT, he, e0, e2, e7, e8, e11, e58, e59, e60]; try rfl), (by simp only [bE, Nat.reduceEqDiff, bN, Nat.reduceLT, he, e0, e2, e7, e8, e11, e58, e59, e60]; try rfl)⟩
        | false =>
          have z1 := eq_false (show ¬ y.1 ≤ y'.1 by have e1 : sg false y'.1 = y'.1 := rfl; have e2 : sg false y.1 = y.1 := rfl; rw [e1, e2] at hlt3; omega)
          simp (config := {contextual := true, maxDischargeDepth := 12, maxSteps := 4000000}) only [tb_at, he, e0, e2, e7, e8, e11, e58, e59, e60, y1, hw2, i1, a0, a3, st1, b0, b1, b2, blt, q1, q2, q3, z0, z1, hw3, j1, c1, c3, ni, reserve0, notV_bool, Bool.not_true, Bool.not_false, pickV_t, pickV_f, bin_eql, bin_neq, bin_neb, bin_npn, bin_np, bin_npnx, gcall_tt, gpure_tf, beq_self_eq_true, Bool.true_and, Bool.and_true, decide_true, decide_false, ↓bD, bU, forall_const, bS, implies_true, isNx, eq_self, ↓wp_cond, ↓wp_loop, ↓reduceIte, reduceCtorEq, Nat.reduceEqDiff, Nat.reduceLT, Nat.reduceAdd, Nat.reduceMul, bT, ↓sg_bsl, ↓st_callf, bX, ap_mkfn, ap_conv, ↓wi_seq, ↓wi_base, ↓wi_block, ↓wi_cond, ↓wi_loop, ↓wi_rf, ↓wy_seq, ↓wy_base, ↓wy_block, ↓wy_cond, ↓wy_loop, ↓wy_yld, ae_callvV, callvV_fn, List.append_nil, List.cons_append, List.nil_append, bin_nff, bin_nfn, bin_nffx, bin_nfnx, bin_streq, bin_bo_same, lstep_some, ↓st_load1nf, ↓st_loadnf, ↓st_appr, ↓st_appf0, bin_nfls, ap_lens, lensV_str, ↓sg_callf3, gcall_ff, gpure_ff0, q_known]
          refine ⟨n - 1, by omega, ?_⟩
          rw [hI2]
          exact ⟨hKf, i' + 1 + 1, by omega, (by simp only [bE, Nat.reduceEqDiff, bN, Nat.reduceLT, he, e0, e2, e7, e8, e11, e58, e59, e60]; try rfl), (by simp only [bE, Nat.reduceEqDiff, bN, Nat.reduceLT, he, e0, e2, e7, e8, e11, e58, e59, e60]; try rfl), (by simp only [bE, Nat.reduceEqDiff, bN, Nat.reduceLT, he, e0, e2, e7, e8, e11, e58, e59, e60]; try rfl), (by simp only [bE, Nat.reduceEqDiff, bN, Nat.reduceLT, he, e0, e2, e7, e8, e11, e58, e59, e60]; try rfl), (by simp only [bE, Nat.reduceEqDiff, bN, Nat.reduceLT, he, e0, e2, e7, e8, e11, e58, e59, e60]; try rfl), (by simp only [bE, Nat.reduceEqDiff, bN, Nat.reduceLT, he, e0, e2, e7, e8, e11, e58, e59, e60]; try rfl), (by simp only [bE, Nat.reduceEqDiff, bN, Nat.reduceLT, he, e0, e2, e7, e8, e11, e58, e59, e60]; try rfl), (by simp only [bE, Nat.reduceEqDiff, bN, Nat.reduceLT, he, e0, e2, e7, e8, e11, e58, e59, e60]; try rfl), (by simp only [bE, Nat.reduceEqDiff, bN, Nat.reduceLT, he, e0, e2, e7, e8, e11, e58, e59, e60]; try rfl)⟩
    have y1 := eq_false (show ¬ (i : Int) < (L.length : Int) by omega)
    clear hni
    simp (config := {contextual := true, maxDischargeDepth := 12, maxSteps := 4000000}) only [tb_at, he, e0, e2, e7, e8, e11, e58, e59, e60, y1, hLv, notV_bool, Bool.not_true, Bool.not_false, pickV_t, pickV_f, bin_eql, bin_neq, bin_neb, bin_npn, bin_np, bin_npnx, gcall_tt, gpure_tf, beq_self_eq_true, Bool.true_and, Bool.and_true, decide_true, decide_false, ↓bD, bU, forall_const, bS, implies_true, isNx, eq_self, ↓wp_cond, ↓wp_loop, ↓reduceIte, reduceCtorEq, Nat.reduceEqDiff, Nat.reduceLT, Nat.reduceAdd, Nat.reduceMul, bT, ↓sg_bsl, ↓st_callf, bX, ap_mkfn, ap_conv, ↓wi_seq, ↓wi_base, ↓wi_block, ↓wi_cond, ↓wi_loop, ↓wi_rf, ↓wy_seq, ↓wy_base, ↓wy_block, ↓wy_cond, ↓wy_loop, ↓wy_yld, ae_callvV, callvV_fn, List.append_nil, List.cons_append, List.nil_append, bin_nff, bin_nfn, bin_nffx, bin_nfnx, bin_streq, bin_bo_same, lstep_some, ↓st_load1nf, ↓st_loadnf, ↓st_appr, ↓st_appf0, bin_nfls, ap_lens, lensV_str, ↓sg_callf3, gcall_ff, gpure_ff0, q_known]
    obtain ⟨I3, hI3⟩ : ∃ I : Nat → Env → St → Prop, ∀ n e t, I n e t = (Keep s t ∧ ∃ (i : Nat) (qn : Option Nat) (N : List PrS), n + i = L.length ∧ elen e = 151 ∧ E e 0 = .bool d ∧ E e 2 = .int .u8 (tn : Int) ∧ E e 8 = .ptr idn 0 ∧ E e 11 = av ∧ E e 121 = av ∧ E e 122 = .int .i64 (L.length : Int) ∧ E e 123 = .int .i64 (i : Int) ∧ MpR t idn qn d N ∧ (∀ j, qn = some j → s.next ≤ j) ∧ GotR d L tn i N ∧ N.length ≤ i ∧ Own prC s t av L ∧ (∀ j, qn = some j → ∀ o n c z, av ≠ .sl j o n c z)) := ⟨fun n e t => (Keep s t ∧ ∃ (i : Nat) (qn : Option Nat) (N : List PrS), n + i = L.length ∧ elen e = 151 ∧ E e 0 = .bool d ∧ E e 2 = .int .u8 (tn : Int) ∧ E e 8 = .ptr idn 0 ∧ E e 11 = av ∧ E e 121 = av ∧ E e 122 = .int .i64 (L.length : Int) ∧ E e 123 = .int .i64 (i : Int) ∧ MpR t idn qn d N ∧ (∀ j, qn = some j → s.next ≤ j) ∧ GotR d L tn i N ∧ N.length ≤ i ∧ Own prC s t av L ∧ (∀ j, qn = some j → ∀ o n c z, av ≠ .sl j o n c z)), fun _ _ _ => rfl⟩
    refine lwp_inv I3 (n := L.length) ?_ ?_
    · rw [hI3]
      exact ⟨hKs4.trans hK, 0, none, [], by omega, (by simp only [bE, Nat.reduceEqDiff, bN, Nat.reduceLT, he]; try rfl), (by simp only [bE, Nat.reduceEqDiff, bN, Nat.reduceLT, he, e0]; try rfl), (by simp only [bE, Nat.reduceEqDiff, bN, Nat.reduceLT, he, e2]; try rfl), (by simp only [bE, Nat.reduceEqDiff, bN, Nat.reduceLT, he, e8]; try rfl), (by simp only [bE, Nat.reduceEqDiff, bN, Nat.reduceLT, he, e11]; try rfl), (by simp only [bE, Nat.reduceEqDiff, bN, Nat.reduceLT, he]; try rfl), (by simp only [bE, Nat.reduceEqDiff, bN, Nat.reduceLT, he]; try rfl), (by simp only [bE, Nat.reduceEqDiff, bN, Nat.reduceLT, he]; try rfl), hn4.keep hK, (fun j e => by cases e), ⟨List.Pairwise.nil, (fun y h => by simp at h), (fun j h => by omega)⟩, Nat.le_refl _, ((show Own prC s u av L from hO4.from (Nat.le_trans hKx.next hKA.next)).mono fun _ _ => hK.blk), (fun j e => by cases e)⟩
    clear e0 e2 e7 e8 e11 e58 e59 e60 he
    intro n e t hi
    rw [hI3] at hi
    obtain ⟨hK, i, qn, N, hni, he, e0, e2, e8, e11, e121, e122, e123, hn, hq, hG, hNi, hO, hsep⟩ := hi
    have hLn := lenV_read hO.read
    by_cases hlt3 : i < L.length
    · have y1 := eq_true (show (i : Int) < (L.length : Int) by omega)
      have hw2 := wrap_add1 (n := i) (by omega)
      have hlp : 0 < L.length := by omega
      obtain ⟨y, hy⟩ := getsome (Nat.mod_lt (i + tn) hlp)
      obtain ⟨i1, a0, _, _, a3⟩ := pr_lods hO.read hy
      have hwt : IntKind.i64.wrap (tn : Int) = (tn : Int) := wrapI (by omega) (by omega)
      have hwa : IntKind.i64.wrap ((i : Int) + (tn : Int)) = ((i + tn : Nat) : Int) := by
        rw [← Int.natCast_add]
        exact wrapI (by omega) (by omega)
      have hrem := bin_remI (a := i + tn) hlp
      have st1 := sto_z2 (m := t.next) (t := t) rfl (a := .int .i64 y.1) (b := .str y.2) rfl rfl [.int .i64 0, .str ⟨#[]⟩] rfl
      obtain ⟨tb, htb⟩ : ∃ tb, tb = t.lowed.push (.row [.int .i64 y.1, .str y.2] true) := ⟨_, rfl⟩
      have hKb : Keep t tb := by rw [htb]; exact (keep_lowed t).push _
      have gb : tb.get t.next = some (.row [.int .i64 y.1, .str y.2] true) := by rw [htb]; exact St.get_push_new t.lowed _
      rw [← htb] at st1
      obtain ⟨b0, b1, blt⟩ := row2_lod gb
      obtain ⟨tc, qs, ⟨q', hm', hq'⟩, hC, _⟩ := q_Set (hn.keep hKb) hG.1 y.1 y.2 (by omega)
      obtain ⟨va, vb, hab⟩ := atomsG (gtD d N y.1)
      rw [hab] at qs
      have hKsb := hK.trans hKb
      have hKf := chg_keep hKsb hidn hq hC
      obtain ⟨hO', hsep'⟩ := own_chg (hn.keep hKb) (hO.mono fun _ _ => hKb.blk) hsep hC hq'
      have hle := put_len d N y.1 y.2
      simp (config := {contextual := true, maxDischargeDepth := 12, maxSteps := 4000000}) only [tb_at, he, e0, e2, e8, e11, e121, e122, e123, y1, hw2, hLn, hwt, hwa, hrem, i1, a0, a3, st1, b0, b1, blt, qs, notV_bool, Bool.not_true, Bool.not_false, pickV_t, pickV_f, bin_eql, bin_neq, bin_neb, bin_npn, bin_np, bin_npnx, gcall_tt, gpure_tf, beq_self_eq_true, Bool.true_and, Bool.and_true, decide_true, decide_false, ↓bD, bU, forall_const, bS, implies_true, isNx, eq_self, ↓wp_cond, ↓wp_loop, ↓reduceIte, reduceCtorEq, Nat.reduceEqDiff, Nat.reduceLT, Nat.reduceAdd, Nat.reduceMul, bT, ↓sg_bsl, ↓st_callf, bX, ap_mkfn, ap_conv, ↓wi_seq, ↓wi_base, ↓wi_block, ↓wi_cond, ↓wi_loop, ↓wi_rf, ↓wy_seq, ↓wy_base, ↓wy_block, ↓wy_cond, ↓wy_loop, ↓wy_yld, ae_callvV, callvV_fn, List.append_nil, List.cons_append, List.nil_append, bin_nff, bin_nfn, bin_nffx, bin_nfnx, bin_streq, bin_bo_same, lstep_some, ↓st_load1nf, ↓st_loadnf, ↓st_appr, ↓st_appf0, bin_nfls, ap_lens, lensV_str, ↓sg_callf3, gcall_ff, gpure_ff0, q_known]
      refine ⟨n - 1, by omega, ?_⟩
      rw [hI3]
      exact ⟨hKf, i + 1, q', _, by omega, (by simp only [bE, Nat.reduceEqDiff, bN, Nat.reduceLT, he, e0, e2, e8, e11, e121, e122, e123]; try rfl), (by simp only [bE, Nat.reduceEqDiff, bN, Nat.reduceLT, he, e0, e2, e8, e11, e121, e122, e123]; try rfl), (by simp only [bE, Nat.reduceEqDiff, bN, Nat.reduceLT, he, e0, e2, e8, e11, e121, e122, e123]; try rfl), (by simp only [bE, Nat.reduceEqDiff, bN, Nat.reduceLT, he, e0, e2, e8, e11, e121, e122, e123]; try rfl), (by simp only [bE, Nat.reduceEqDiff, bN, Nat.reduceLT, he, e0, e2, e8, e11, e121, e122, e123]; try rfl), (by simp only [bE, Nat.reduceEqDiff, bN, Nat.reduceLT, he, e0, e2, e8, e11, e121, e122, e123]; try rfl), (by simp only [bE, Nat.reduceEqDiff, bN, Nat.reduceLT, he, e0, e2, e8, e11, e121, e122, e123]; try rfl), (by simp only [bE, Nat.reduceEqDiff, bN, Nat.reduceLT, he, e0, e2, e8, e11, e121, e122, e123]; try rfl), hm', q_new hKsb hq hq', hG.step hsr hy, by omega, hO', hsep'⟩
    have y1 := eq_false (show ¬ (i : Int) < (L.length : Int) by omega)
    obtain rfl : i = L.length := by omega
    obtain rfl := hG.all hsr
    obtain ⟨w5, t5, qA, hI5, hKA5⟩ := q_All hn
    obtain ⟨v6, t6, qP, hO6, hKP6⟩ := q_pairs hI5 (by omega) (m := 100)
    rw [it_read (f := .nils) hL60] at hO6
    have hK56 := hKA5.trans hKP6
    have qS := q_Same false hO6.read (hK56.read hO.read) (by omega)
    have hKf := hK.trans hK56
    simp (config := {contextual := true, maxDischargeDepth := 12, maxSteps := 4000000}) only [tb_at, he, e0, e2, e8, e11, e121, e122, e123, y1, qA, qP, qS, notV_bool, Bool.not_true, Bool.not_false, pickV_t, pickV_f, bin_eql, bin_neq, bin_neb, bin_npn, bin_np, bin_npnx, gcall_tt, gpure_tf, beq_self_eq_true, Bool.true_and, Bool.and_true, decide_true, decide_false, ↓bD, bU, forall_const, bS, implies_true, isNx, eq_self, ↓wp_cond, ↓wp_loop, ↓reduceIte, reduceCtorEq, Nat.reduceEqDiff, Nat.reduceLT, Nat.reduceAdd, Nat.reduceMul, bT, ↓sg_bsl, ↓st_callf, bX, ap_mkfn, ap_conv, ↓wi_seq, ↓wi_base, ↓wi_block, ↓wi_cond, ↓wi_loop, ↓wi_rf, ↓wy_seq, ↓wy_base, ↓wy_block, ↓wy_cond, ↓wy_loop, ↓wy_yld, ae_callvV, callvV_fn, List.append_nil, List.cons_append, List.nil_append, bin_nff, bin_nfn, bin_nffx, bin_nfnx, bin_streq, bin_bo_same, lstep_some, ↓st_load1nf, ↓st_loadnf, ↓st_appr, ↓st_appf0, bin_nfls, ap_lens, lensV_str, ↓sg_callf3, gcall_ff, gpure_ff0, q_known]
    all_goals first | exact hKf | skip

end Go.AM
end
