/-
  The reference's buffer: Put, Between, From, Forget. Own work of this project; in part printed by a program of it.
-/
import Derived.Test.YtnojanlkminpaaaP4
import Derived.KernelRfl
import Derived.ProofKit
import Derived.Carry
import Derived.Deep.Slices
import Derived.HandedShaped
import Derived.OpenShut
section
set_option linter.unusedVariables false
set_option linter.unusedSimpArgs false
set_option maxRecDepth 100000
set_option maxHeartbeats 8000000
namespace Go.AM
open Go Go.Proofs

variable {s t u : St}
def RefR (t : St) (id : Nat) (dv : AV) (vs : List AV) (ls : List (List Nd)) (g : Nat) : Prop := t.get id = some (.row [dv, .int .i64 (g : Int)] true) ∧ OutR t dv vs ∧ InR t vs ls
theorem RefR.keep {M : List Nat} (hc : Chg M t u) (ha : Apart t M) {id g : Nat} {dv : AV} {vs : List AV} {ls : List (List Nd)} (h : RefR t id dv vs ls g) (hid : id ∉ M) (hm : ∀ j off n cap z, dv = .sl j off n cap z → j ∉ M) : RefR u id dv vs ls g :=
  ⟨hc.blk h.1 hid, h.2.1.keep hc hm, h.2.2.keep hc ha⟩
theorem RefR.keep0 (hk : Keep t u) {id g : Nat} {dv : AV} {vs : List AV} {ls : List (List Nd)} (h : RefR t id dv vs ls g) : RefR u id dv vs ls g := h.keep (hk.chg []) (.nil t) (by simp) (fun _ _ _ _ _ _ => by simp)
theorem RefR.low {id g : Nat} {dv : AV} {vs : List AV} {ls : List (List Nd)} (h : RefR s id dv vs ls g) : RefR (lowd s) id dv vs ls g := h.keep0 (keep_lowd s)
theorem RefR.mono (hc : ∀ id b, t.get id = some b → u.get id = some b) {id g : Nat} {dv : AV} {vs : List AV} {ls : List (List Nd)} (h : RefR t id dv vs ls g) : RefR u id dv vs ls g := ⟨hc _ _ h.1, h.2.1.mono hc, h.2.2.mono hc⟩
theorem refJ_len (l : List Nd) : ∀ (m : List Nd), (refJ l m).length ≤ l.length + m.length := by
  intro m
  unfold refJ
  induction m generalizing l with
  | nil => simp
  | cons x m ih =>
    simp only [List.foldl_cons, List.length_cons]
    have := ih (jstep l x)
    have := jstep_len l x
    omega

def rbetP (g : Nat) (ls : List (List Nd)) (f l : Int) : List Nd × Int := if f < 1 ∨ l < f then ([], 2) else if f ≤ (g : Int) ∨ (ls.length : Int) < l then ([], 9) else (((ls.drop (f - 1).toNat).take (l.toNat - (f - 1).toNat)).foldl refJ [], 0)
theorem fold_len (a : List Nd) : ∀ (ls : List (List Nd)), (ls.foldl refJ a).length ≤ a.length + ls.flatten.length := by
  intro ls
  induction ls generalizing a with
  | nil => simp
  | cons l ls ih =>
    simp only [List.foldl_cons, List.flatten_cons, List.length_append]
    have := ih (refJ a l)
    have := refJ_len a l
    omega
theorem wrap_in {x : Int} (h1 : -4611686018427387904 ≤ x) (h2 : x ≤ 4611686018427387904) : IntKind.i64.wrap x = x := by
  simp only [IntKind.wrap, IntKind.signed, IntKind.bits]
  simp
  omega
noncomputable def R_RBetween : Con := runFn (tb [(33, conF ndC (pLL ndC ndC gRJoin))]) a11
theorem s_RBetween : SoundAt Try.prog 11 R_RBetween := run_sound (tb_sound (l := [(33, conF ndC (pLL ndC ndC gRJoin))]) (by simpa using s_RJoin)) mixed Try.func11 k11 c11
theorem n_RBetween : noNxtC a11.body = true := by kernel_rfl
theorem w_RBetween {s : St} {id g : Nat} {dv : AV} {vs : List AV} {ls : List (List Nd)} (hb : RefR s id dv vs ls g) (hg : g ≤ vs.length) (hv1 : vs.length ≤ 1000000) (f l : Int) (hfl : ls.flatten.length ≤ 10000) : ∀ env : Env, elen env = a11.ntmps → (∀ i x_, [.ptr id 0, .int .i64 f, .int .i64 l][i]? = some x_ → E env i = x_) → awp (tb [(33, conF ndC (pLL ndC ndC gRJoin))]) a11.body (fun x e t => (∀ i, x ≠ .exit i) ∧ Keep s t ∧ ∃ v, aresults e t a11.results = some (.tup [v, .int .i64 (rbetP g ls f l).2]) ∧ Own ndC s t v (rbetP g ls f l).1) env s := by
  intro env hlen ha
  have h0 : E env 0 = _ := ha 0 _ rfl
  have h1 : E env 1 = _ := ha 1 _ rfl
  have h2 : E env 2 = _ := ha 2 _ rfl
  have hlen : elen env = _ := hlen
  simp only [a11] at hlen
  unfold a11
  try dsimp only [oO, oG]
  obtain ⟨l0, l1, lt0⟩ := row2_lod hb.1
  have lL := hb.2.1.lenV
  have hn := hb.2.2.len
  by_cases c1 : f < 1 ∨ l < f
  · have hz : (decide (f < 1) || decide (l < f)) = true := by simpa using c1
    have hP : rbetP g ls f l = ([], 2) := by unfold rbetP; rw [if_pos c1]
    rw [hP]
    simp (config := {contextual := true, maxDischargeDepth := 12}) only [tb_at, h0, h1, h2, hlen, hz, ↓bD, bU, forall_const, List.all_cons, List.all_nil, Option.map_some, List.map_cons, List.map_nil, ne_eq, implies_true, isNx, cs_dec, cs_not, cs_and, cs_or, cs_valid, eq_self, ↓wp_cond, ↓wp_loop, ↓reduceIte, reduceCtorEq, Nat.reduceEqDiff, Nat.reduceLT, Nat.reduceAdd, Nat.reduceMul, Int.ofNat_lt, Int.ofNat_le, exists_const, ae_app, ap_slc, Option.map_none, mkR_none, mkR_some, ar_look, ae_mset, ae_rng, ae_mkmap0, ar_ent, lookV_push, lookV_lowed, msetV_push, msetV_lowed, lt_put, same_put, sto_over, sto_lowed, cs_dead, Option.map_some, beq_self_eq_true, decide_true, cs_true, cs_false, aa_bsl, ↓sg_bsl, ap_nchk, nchkV_ptr, bin_np, bin_npn, bin_npx, bin_npnx, ap_mm, mmV_max, mmV_min, res3, ↓st_callf, aa_mksl, ae_copy, ap_slc3, slc3V_all, bin_nss, bin_nsn, aa_bsl]
    exact ⟨_, rfl, .nil _ _ _⟩
  have hz : (decide (f < 1) || decide (l < f)) = false := by simpa using c1
  by_cases c2 : f ≤ (g : Int) ∨ (vs.length : Int) < l
  · have hz2 : (decide (f ≤ (g : Int)) || decide ((vs.length : Int) < l)) = true := by simpa using c2
    have hP : rbetP g ls f l = ([], 9) := by unfold rbetP; rw [if_neg c1, if_pos (by rw [← hn]; exact c2)]
    rw [hP]
    simp (config := {contextual := true, maxDischargeDepth := 12}) only [tb_at, h0, h1, h2, hlen, hz, l0, l1, lL, hz2, ↓bD, bU, forall_const, List.all_cons, List.all_nil, Option.map_some, List.map_cons, List.map_nil, ne_eq, implies_true, isNx, cs_dec, cs_not, cs_and, cs_or, cs_valid, eq_self, ↓wp_cond, ↓wp_loop, ↓reduceIte, reduceCtorEq, Nat.reduceEqDiff, Nat.reduceLT, Nat.reduceAdd, Nat.reduceMul, Int.ofNat_lt, Int.ofNat_le, exists_const, ae_app, ap_slc, Option.map_none, mkR_none, mkR_some, ar_look, ae_mset, ae_rng, ae_mkmap0, ar_ent, lookV_push, lookV_lowed, msetV_push, msetV_lowed, lt_put, same_put, sto_over, sto_lowed, cs_dead, Option.map_some, beq_self_eq_true, decide_true, cs_true, cs_false, aa_bsl, ↓sg_bsl, ap_nchk, nchkV_ptr, bin_np, bin_npn, bin_npx, bin_npnx, ap_mm, mmV_max, mmV_min, res3, ↓st_callf, aa_mksl, ae_copy, ap_slc3, slc3V_all, bin_nss, bin_nsn, aa_bsl]
    exact ⟨_, rfl, .nil _ _ _⟩
  have hz2 : (decide (f ≤ (g : Int)) || decide ((vs.length : Int) < l)) = false := by simpa using c2
  have hP : rbetP g ls f l = (((ls.drop (f - 1).toNat).take (l.toNat - (f - 1).toNat)).foldl refJ [], 0) := by unfold rbetP; rw [if_neg c1, if_neg (by rw [← hn]; exact c2)]
  rw [hP]
  obtain ⟨a, ha'⟩ : ∃ a : Nat, (a : Int) = f - 1 := ⟨(f - 1).toNat, by omega⟩
  obtain ⟨b, hb'⟩ : ∃ b : Nat, (b : Int) = l := ⟨l.toNat, by omega⟩
  rw [← ha', ← hb', Int.toNat_natCast, Int.toNat_natCast]
  have hrd := out_rdLL hb.2.1 hb.2.2
  have hab : a + 1 ≤ b := by omega
  have hbn : b ≤ ls.length := by omega
  simp (config := {contextual := true, maxDischargeDepth := 12}) only [tb_at, h0, h1, h2, hlen, hz, l0, l1, lL, hz2, ↓bD, bU, forall_const, List.all_cons, List.all_nil, Option.map_some, List.map_cons, List.map_nil, ne_eq, implies_true, isNx, cs_dec, cs_not, cs_and, cs_or, cs_valid, eq_self, ↓wp_cond, ↓wp_loop, ↓reduceIte, reduceCtorEq, Nat.reduceEqDiff, Nat.reduceLT, Nat.reduceAdd, Nat.reduceMul, Int.ofNat_lt, Int.ofNat_le, exists_const, ae_app, ap_slc, Option.map_none, mkR_none, mkR_some, ar_look, ae_mset, ae_rng, ae_mkmap0, ar_ent, lookV_push, lookV_lowed, msetV_push, msetV_lowed, lt_put, same_put, sto_over, sto_lowed, cs_dead, Option.map_some, beq_self_eq_true, decide_true, cs_true, cs_false, aa_bsl, ↓sg_bsl, ap_nchk, nchkV_ptr, bin_np, bin_npn, bin_npx, bin_npnx, ap_mm, mmV_max, mmV_min, res3, ↓st_callf, aa_mksl, ae_copy, ap_slc3, slc3V_all, bin_nss, bin_nsn, aa_bsl]
  obtain ⟨I, hI⟩ : ∃ I : Nat → Env → St → Prop, ∀ n e t, I n e t = (Keep s t ∧ ∃ i : Nat, a + i + n = b ∧ elen e = 49 ∧ E e 0 = .ptr id 0 ∧ E e 2 = .int .i64 l ∧ E e 9 = .int .i64 ((a + i + 1 : Nat) : Int) ∧ Own ndC s t (E e 8) (((ls.drop a).take i).foldl refJ [])) := ⟨fun n e t => (Keep s t ∧ ∃ i : Nat, a + i + n = b ∧ elen e = 49 ∧ E e 0 = .ptr id 0 ∧ E e 2 = .int .i64 l ∧ E e 9 = .int .i64 ((a + i + 1 : Nat) : Int) ∧ Own ndC s t (E e 8) (((ls.drop a).take i).foldl refJ [])), fun _ _ _ => rfl⟩
  refine lwp_inv I (n := b - a) ?_ ?_
  · rw [hI]
    refine ⟨.refl s, 0, by omega, by simp only [E_pne, E_psame, elen_put, Nat.reduceEqDiff, ne_eq, not_false_eq_true, Nat.reduceLT, hlen], by simp only [E_pne, E_psame, elen_put, Nat.reduceEqDiff, ne_eq, not_false_eq_true, Nat.reduceLT, h0], by simp only [E_pne, E_psame, elen_put, Nat.reduceEqDiff, ne_eq, not_false_eq_true, Nat.reduceLT, h2], ?_, ?_⟩
    · simp only [E_pne, E_psame, elen_put, Nat.reduceEqDiff, ne_eq, not_false_eq_true, Nat.reduceLT, hlen, h1]
      congr 1
      omega
    · simp only [E_pne, E_psame, elen_put, Nat.reduceEqDiff, ne_eq, not_false_eq_true, Nat.reduceLT, hlen]
      exact .nil _ _ _
  intro n e t hi
  rw [hI] at hi
  obtain ⟨hK, i, hni, he, e0, e2, e9, hO⟩ := hi
  obtain ⟨m0, m1, mlt⟩ := row2_lod (hK.blk hb.1)
  by_cases hlt : a + i < b
  · have hz3 : (((a + i + 1 : Nat) : Int) ≤ l) = True := eq_true (by omega)
    have hw1 := wrap_sub1 (n := a + i) (by omega)
    have hw2 := wrap_add1 (n := a + i + 1) (by omega)
    obtain ⟨x, hx⟩ := getsome (l := ls) (i := a + i) (by omega)
    obtain ⟨w, i1, hxx, hrw⟩ := rdLL_at hrd hx
    obtain ⟨a1, al⟩ := hxx t hK
    have hxl : ((ls.drop a).take i).flatten.length + x.length ≤ 10000 := by
      have h1 := flat_take (ls.drop a) (i + 1)
      have h2 : (ls.drop a).flatten.length ≤ ls.flatten.length := by
        conv => rhs; rw [← List.take_append_drop a ls, List.flatten_append, List.length_append]
        omega
      have h3 : (ls.drop a)[i]? = some x := by rw [List.getElem?_drop]; exact hx
      rw [flat_step h3, List.length_append] at h1
      omega
    have hfo := fold_len [] ((ls.drop a).take i)
    simp only [List.length_nil, Nat.zero_add] at hfo
    have hgr : gRJoin (((ls.drop a).take i).foldl refJ []) x = some (refJ (((ls.drop a).take i).foldl refJ []) x, none) := by
      unfold gRJoin
      rw [if_pos ⟨by omega, by omega⟩]
    obtain ⟨u, t2, hc, hK2, hO2⟩ := fresh_LL (D := ndC) (f := gRJoin) hO.read (hK.read hrw) (by unfold lim; omega) (by unfold lim; omega) hgr (fun x hx => by cases hx)
    rw [mkR_none] at hc
    simp (config := {contextual := true, maxDischargeDepth := 12}) only [tb_at, he, e0, e2, e9, hz3, m0, m1, hw1, i1, a1, al, hc, hw2, ↓bD, bU, forall_const, List.all_cons, List.all_nil, Option.map_some, List.map_cons, List.map_nil, ne_eq, implies_true, isNx, cs_dec, cs_not, cs_and, cs_or, cs_valid, eq_self, ↓wp_cond, ↓wp_loop, ↓reduceIte, reduceCtorEq, Nat.reduceEqDiff, Nat.reduceLT, Nat.reduceAdd, Nat.reduceMul, Int.ofNat_lt, Int.ofNat_le, exists_const, ae_app, ap_slc, Option.map_none, mkR_none, mkR_some, ar_look, ae_mset, ae_rng, ae_mkmap0, ar_ent, lookV_push, lookV_lowed, msetV_push, msetV_lowed, lt_put, same_put, sto_over, sto_lowed, cs_dead, Option.map_some, beq_self_eq_true, decide_true, cs_true, cs_false, aa_bsl, ↓sg_bsl, ap_nchk, nchkV_ptr, bin_np, bin_npn, bin_npx, bin_npnx, ap_mm, mmV_max, mmV_min, res3, ↓st_callf, aa_mksl, ae_copy, ap_slc3, slc3V_all, bin_nss, bin_nsn, aa_bsl]
    refine ⟨n - 1, by omega, ?_⟩
    rw [hI]
    refine ⟨hK.trans hK2, i + 1, by omega, by simp only [E_pne, E_psame, elen_put, Nat.reduceEqDiff, ne_eq, not_false_eq_true, Nat.reduceLT, he], by simp only [E_pne, E_psame, elen_put, Nat.reduceEqDiff, ne_eq, not_false_eq_true, Nat.reduceLT, e0], by simp only [E_pne, E_psame, elen_put, Nat.reduceEqDiff, ne_eq, not_false_eq_true, Nat.reduceLT, e2], by simp only [E_pne, E_psame, elen_put, Nat.reduceEqDiff, ne_eq, not_false_eq_true, Nat.reduceLT, he]; rfl, ?_⟩
    simp only [E_pne, E_psame, elen_put, Nat.reduceEqDiff, ne_eq, not_false_eq_true, Nat.reduceLT, he]
    have h3 : (ls.drop a)[i]? = some x := by rw [List.getElem?_drop]; exact hx
    rw [List.take_add_one, h3]
    simp only [Option.toList_some, List.foldl_append, List.foldl_cons, List.foldl_nil]
    exact hO2.from hK.next
  · have hz3 : (((a + i + 1 : Nat) : Int) ≤ l) = False := eq_false (by omega)
    simp (config := {contextual := true, maxDischargeDepth := 12}) only [tb_at, he, e0, e2, e9, hz3, ↓bD, bU, forall_const, List.all_cons, List.all_nil, Option.map_some, List.map_cons, List.map_nil, ne_eq, implies_true, isNx, cs_dec, cs_not, cs_and, cs_or, cs_valid, eq_self, ↓wp_cond, ↓wp_loop, ↓reduceIte, reduceCtorEq, Nat.reduceEqDiff, Nat.reduceLT, Nat.reduceAdd, Nat.reduceMul, Int.ofNat_lt, Int.ofNat_le, exists_const, ae_app, ap_slc, Option.map_none, mkR_none, mkR_some, ar_look, ae_mset, ae_rng, ae_mkmap0, ar_ent, lookV_push, lookV_lowed, msetV_push, msetV_lowed, lt_put, same_put, sto_over, sto_lowed, cs_dead, Option.map_some, beq_self_eq_true, decide_true, cs_true, cs_false, aa_bsl, ↓sg_bsl, ap_nchk, nchkV_ptr, bin_np, bin_npn, bin_npx, bin_npnx, ap_mm, mmV_max, mmV_min, res3, ↓st_callf, aa_mksl, ae_copy, ap_slc3, slc3V_all, bin_nss, bin_nsn, aa_bsl]
    refine ⟨hK, _, rfl, ?_⟩
    have : b - a = i := by omega
    rw [this]
    exact hO
theorem q_RBetween {s : St} {id g : Nat} {dv : AV} {vs : List AV} {ls : List (List Nd)} (hb : RefR s id dv vs ls g) (hg : g ≤ vs.length) (hv1 : vs.length ≤ 1000000) (f l : Int) (hfl : ls.flatten.length ≤ 10000) : ∃ v t, acall R_RBetween false [.ptr id 0, .int .i64 f, .int .i64 l] s = some (.tup [v, .int .i64 (rbetP g ls f l).2], t) ∧ Own ndC s t v ((rbetP g ls f l).1) ∧ Keep s t := run_fresh n_RBetween (by simp [a11]) (fun v => .tup [v, .int .i64 (rbetP g ls f l).2]) (fun _ _ _ _ _ => rfl) (w_RBetween (s := lowd s) hb.low hg hv1 f l hfl)

def rfrP (g : Nat) (ls : List (List Nd)) (n : Int) : List Nd × Int × Int := if n < 1 then ([], 0, 2) else if n ≤ (g : Int) ∨ (ls.length : Int) < n then ([], 0, 9) else ((rbetP g ls n (ls.length : Int)).1, (ls.length : Int), (rbetP g ls n (ls.length : Int)).2)
noncomputable def R_RFrom : Con := runFn (tb [(11, R_RBetween)]) a13
theorem s_RFrom : SoundAt Try.prog 13 R_RFrom := run_sound (tb_sound (l := [(11, R_RBetween)]) (by simpa using s_RBetween)) mixed Try.func13 k13 c13
theorem n_RFrom : noNxtC a13.body = true := by kernel_rfl
theorem w_RFrom {s : St} {id g : Nat} {dv : AV} {vs : List AV} {ls : List (List Nd)} (hb : RefR s id dv vs ls g) (hg : g ≤ vs.length) (hv1 : vs.length ≤ 1000000) (n : Int) (hfl : ls.flatten.length ≤ 10000) : ∀ env : Env, elen env = a13.ntmps → (∀ i x_, [.ptr id 0, .int .i64 n][i]? = some x_ → E env i = x_) → awp (tb [(11, R_RBetween)]) a13.body (fun x e t => (∀ i, x ≠ .exit i) ∧ Keep s t ∧ ∃ v, aresults e t a13.results = some (.tup [v, .int .i64 (rfrP g ls n).2.1, .int .i64 (rfrP g ls n).2.2]) ∧ Own ndC s t v (rfrP g ls n).1) env s := by
  intro env hlen ha
  have h0 : E env 0 = _ := ha 0 _ rfl
  have h1 : E env 1 = _ := ha 1 _ rfl
  have hlen : elen env = _ := hlen
  simp only [a13] at hlen
  unfold a13
  try dsimp only [oO, oG]
  obtain ⟨l0, l1, lt0⟩ := row2_lod hb.1
  have lL := hb.2.1.lenV
  have hn := hb.2.2.len
  by_cases c1 : n < 1
  · have hz : (n < 1) = True := eq_true c1
    have hP : rfrP g ls n = ([], 0, 2) := by unfold rfrP; rw [if_pos c1]
    rw [hP]
    simp (config := {contextual := true, maxDischargeDepth := 12}) only [tb_at, h0, h1, hlen, hz, ↓bD, bU, forall_const, List.all_cons, List.all_nil, Option.map_some, List.map_cons, List.map_nil, ne_eq, implies_true, isNx, cs_dec, cs_not, cs_and, cs_or, cs_valid, eq_self, ↓wp_cond, ↓wp_loop, ↓reduceIte, reduceCtorEq, Nat.reduceEqDiff, Nat.reduceLT, Nat.reduceAdd, Nat.reduceMul, Int.ofNat_lt, Int.ofNat_le, exists_const, ae_app, ap_slc, Option.map_none, mkR_none, mkR_some, ar_look, ae_mset, ae_rng, ae_mkmap0, ar_ent, lookV_push, lookV_lowed, msetV_push, msetV_lowed, lt_put, same_put, sto_over, sto_lowed, cs_dead, Option.map_some, beq_self_eq_true, decide_true, cs_true, cs_false, aa_bsl, ↓sg_bsl, ap_nchk, nchkV_ptr, bin_np, bin_npn, bin_npx, bin_npnx, ap_mm, mmV_max, mmV_min, res3, ↓st_callf, aa_mksl, ae_copy, ap_slc3, slc3V_all, bin_nss, bin_nsn, aa_bsl]
    exact ⟨_, rfl, .nil _ _ _⟩
  have hz : (n < 1) = False := eq_false c1
  by_cases c2 : n ≤ (g : Int) ∨ (vs.length : Int) < n
  · have hz2 : (decide (n ≤ (g : Int)) || decide ((vs.length : Int) < n)) = true := by simpa using c2
    have hP : rfrP g ls n = ([], 0, 9) := by unfold rfrP; rw [if_neg c1, if_pos (by rw [← hn]; exact c2)]
    rw [hP]
    simp (config := {contextual := true, maxDischargeDepth := 12}) only [tb_at, h0, h1, hlen, hz, l0, l1, lL, hz2, ↓bD, bU, forall_const, List.all_cons, List.all_nil, Option.map_some, List.map_cons, List.map_nil, ne_eq, implies_true, isNx, cs_dec, cs_not, cs_and, cs_or, cs_valid, eq_self, ↓wp_cond, ↓wp_loop, ↓reduceIte, reduceCtorEq, Nat.reduceEqDiff, Nat.reduceLT, Nat.reduceAdd, Nat.reduceMul, Int.ofNat_lt, Int.ofNat_le, exists_const, ae_app, ap_slc, Option.map_none, mkR_none, mkR_some, ar_look, ae_mset, ae_rng, ae_mkmap0, ar_ent, lookV_push, lookV_lowed, msetV_push, msetV_lowed, lt_put, same_put, sto_over, sto_lowed, cs_dead, Option.map_some, beq_self_eq_true, decide_true, cs_true, cs_false, aa_bsl, ↓sg_bsl, ap_nchk, nchkV_ptr, bin_np, bin_npn, bin_npx, bin_npnx, ap_mm, mmV_max, mmV_min, res3, ↓st_callf, aa_mksl, ae_copy, ap_slc3, slc3V_all, bin_nss, bin_nsn, aa_bsl]
    exact ⟨_, rfl, .nil _ _ _⟩
  have hz2 : (decide (n ≤ (g : Int)) || decide ((vs.length : Int) < n)) = false := by simpa using c2
  have hP : rfrP g ls n = ((rbetP g ls n (vs.length : Int)).1, (vs.length : Int), (rbetP g ls n (vs.length : Int)).2) := by unfold rfrP; rw [if_neg c1, ← hn, if_neg c2]
  rw [hP]
  obtain ⟨v, t, hc, hO, hK⟩ := q_RBetween hb hg hv1 n (vs.length : Int) hfl
  obtain ⟨m0, m1, mlt⟩ := row2_lod (hK.blk hb.1)
  simp (config := {contextual := true, maxDischargeDepth := 12}) only [tb_at, h0, h1, hlen, hz, l0, l1, lL, hz2, hc, m0, m1, ↓bD, bU, forall_const, List.all_cons, List.all_nil, Option.map_some, List.map_cons, List.map_nil, ne_eq, implies_true, isNx, cs_dec, cs_not, cs_and, cs_or, cs_valid, eq_self, ↓wp_cond, ↓wp_loop, ↓reduceIte, reduceCtorEq, Nat.reduceEqDiff, Nat.reduceLT, Nat.reduceAdd, Nat.reduceMul, Int.ofNat_lt, Int.ofNat_le, exists_const, ae_app, ap_slc, Option.map_none, mkR_none, mkR_some, ar_look, ae_mset, ae_rng, ae_mkmap0, ar_ent, lookV_push, lookV_lowed, msetV_push, msetV_lowed, lt_put, same_put, sto_over, sto_lowed, cs_dead, Option.map_some, beq_self_eq_true, decide_true, cs_true, cs_false, aa_bsl, ↓sg_bsl, ap_nchk, nchkV_ptr, bin_np, bin_npn, bin_npx, bin_npnx, ap_mm, mmV_max, mmV_min, res3, ↓st_callf, aa_mksl, ae_copy, ap_slc3, slc3V_all, bin_nss, bin_nsn, aa_bsl]
  exact ⟨hK, _, rfl, hO⟩
theorem q_RFrom {s : St} {id g : Nat} {dv : AV} {vs : List AV} {ls : List (List Nd)} (hb : RefR s id dv vs ls g) (hg : g ≤ vs.length) (hv1 : vs.length ≤ 1000000) (n : Int) (hfl : ls.flatten.length ≤ 10000) : ∃ v t, acall R_RFrom false [.ptr id 0, .int .i64 n] s = some (.tup [v, .int .i64 (rfrP g ls n).2.1, .int .i64 (rfrP g ls n).2.2], t) ∧ Own ndC s t v ((rfrP g ls n).1) ∧ Keep s t := run_fresh n_RFrom (by simp [a13]) (fun v => .tup [v, .int .i64 (rfrP g ls n).2.1, .int .i64 (rfrP g ls n).2.2]) (fun _ _ _ _ _ => rfl) (w_RFrom (s := lowd s) hb.low hg hv1 n hfl)

def rfgP (n : Nat) (u : Int) : Option Int := if u < 0 then some 2 else if (n : Int) < u then some 3 else none
noncomputable def R_RForget : Con := runFn (tb []) a15
theorem s_RForget : SoundAt Try.prog 15 R_RForget := run_sound (tb_sound (l := []) (by simp)) mixed Try.func15 k15 c15
theorem n_RForget : noNxtC a15.body = true := by kernel_rfl
theorem w_RForget_err {s : St} {id g : Nat} {dv : AV} {vs : List AV} {ls : List (List Nd)} (hb : RefR s id dv vs ls g) (hg : g ≤ vs.length) (hv1 : vs.length ≤ 1000000) {u : Int} {er : Int} (he : rfgP vs.length u = some er) : ∀ env : Env, elen env = a15.ntmps → (∀ i x_, [.ptr id 0, .int .i64 u][i]? = some x_ → E env i = x_) → awp (tb []) a15.body (fun x e t => (∀ i, x ≠ .exit i) ∧ aresults e t a15.results = some (.tup [.int .i64 0, .int .i64 er]) ∧ Keep s t) env s := by
  intro env hlen ha
  have h0 : E env 0 = _ := ha 0 _ rfl
  have h1 : E env 1 = _ := ha 1 _ rfl
  have hlen : elen env = _ := hlen
  simp only [a15] at hlen
  unfold a15
  try dsimp only [oO, oG]
  obtain ⟨l0, l1, lt0⟩ := row2_lod hb.1
  have lL := hb.2.1.lenV
  by_cases c1 : u < 0
  · have hz := eq_true c1
    unfold rfgP at he
    rw [if_pos c1] at he
    injection he with he
    subst he
    simp (config := {contextual := true, maxDischargeDepth := 12}) only [tb_at, h0, h1, hlen, hz, ↓bD, bU, forall_const, List.all_cons, List.all_nil, Option.map_some, List.map_cons, List.map_nil, ne_eq, implies_true, isNx, cs_dec, cs_not, cs_and, cs_or, cs_valid, eq_self, ↓wp_cond, ↓wp_loop, ↓reduceIte, reduceCtorEq, Nat.reduceEqDiff, Nat.reduceLT, Nat.reduceAdd, Nat.reduceMul, Int.ofNat_lt, Int.ofNat_le, exists_const, ae_app, ap_slc, Option.map_none, mkR_none, mkR_some, ar_look, ae_mset, ae_rng, ae_mkmap0, ar_ent, lookV_push, lookV_lowed, msetV_push, msetV_lowed, lt_put, same_put, sto_over, sto_lowed, cs_dead, Option.map_some, beq_self_eq_true, decide_true, cs_true, cs_false, aa_bsl, ↓sg_bsl, ap_nchk, nchkV_ptr, bin_np, bin_npn, bin_npx, bin_npnx, ap_mm, mmV_max, mmV_min, res3, ↓st_callf, aa_mksl, ae_copy, ap_slc3, slc3V_all, bin_nss, bin_nsn, aa_bsl]
  · have hz := eq_false c1
    unfold rfgP at he
    rw [if_neg c1] at he
    by_cases c2 : (vs.length : Int) < u
    · have hz2 := eq_true c2
      rw [if_pos c2] at he
      injection he with he
      subst he
      simp (config := {contextual := true, maxDischargeDepth := 12}) only [tb_at, h0, h1, hlen, l0, l1, lL, hz, hz2, ↓bD, bU, forall_const, List.all_cons, List.all_nil, Option.map_some, List.map_cons, List.map_nil, ne_eq, implies_true, isNx, cs_dec, cs_not, cs_and, cs_or, cs_valid, eq_self, ↓wp_cond, ↓wp_loop, ↓reduceIte, reduceCtorEq, Nat.reduceEqDiff, Nat.reduceLT, Nat.reduceAdd, Nat.reduceMul, Int.ofNat_lt, Int.ofNat_le, exists_const, ae_app, ap_slc, Option.map_none, mkR_none, mkR_some, ar_look, ae_mset, ae_rng, ae_mkmap0, ar_ent, lookV_push, lookV_lowed, msetV_push, msetV_lowed, lt_put, same_put, sto_over, sto_lowed, cs_dead, Option.map_some, beq_self_eq_true, decide_true, cs_true, cs_false, aa_bsl, ↓sg_bsl, ap_nchk, nchkV_ptr, bin_np, bin_npn, bin_npx, bin_npnx, ap_mm, mmV_max, mmV_min, res3, ↓st_callf, aa_mksl, ae_copy, ap_slc3, slc3V_all, bin_nss, bin_nsn, aa_bsl]
    · rw [if_neg c2] at he
      cases he
theorem q_RForget_err (cl : Bool) {s : St} {id g : Nat} {dv : AV} {vs : List AV} {ls : List (List Nd)} (hb : RefR s id dv vs ls g) (hg : g ≤ vs.length) (hv1 : vs.length ≤ 1000000) {u : Int} {er : Int} (he : rfgP vs.length u = some er) : acall R_RForget cl [.ptr id 0, .int .i64 u] s = some (.tup [.int .i64 0, .int .i64 er], s) := run_same n_RForget (by simp [a15]) rfl (w_RForget_err (s := lowd s) hb.low hg hv1 he)
theorem w_RForget_ok {s : St} {id g : Nat} {dv : AV} {vs : List AV} {ls : List (List Nd)} (hb : RefR s id dv vs ls g) (hg : g ≤ vs.length) (hv1 : vs.length ≤ 1000000) {u : Int} (h0u : 0 ≤ u) (hu : u ≤ (vs.length : Int)) : ∀ env : Env, elen env = a15.ntmps → (∀ i x_, [.ptr id 0, .int .i64 u][i]? = some x_ → E env i = x_) → awp (tb []) a15.body (fun x e t => (∀ i, x ≠ .exit i) ∧ ∃ r, aresults e t a15.results = some r ∧ (r = .tup [.int .i64 (((u - (g : Int)).toNat : Nat) : Int), .int .i64 0] ∧ RefR t id dv vs ls (g + (u - (g : Int)).toNat)) ∧ Chg [id] s t ∧ (r.ground = false ∨ t.low < s.next)) env s := by
  intro env hlen ha
  have h0 : E env 0 = _ := ha 0 _ rfl
  have h1 : E env 1 = _ := ha 1 _ rfl
  have hlen : elen env = _ := hlen
  simp only [a15] at hlen
  unfold a15
  try dsimp only [oO, oG]
  obtain ⟨l0, l1, lt0⟩ := row2_lod hb.1
  have lL := hb.2.1.lenV
  have hz : (u < 0) = False := eq_false (by omega)
  have hz2 : ((vs.length : Int) < u) = False := eq_false (by omega)
  obtain ⟨a, ha'⟩ : ∃ a : Nat, a = (u - (g : Int)).toNat := ⟨_, rfl⟩
  rw [← ha']
  have w1 : IntKind.i64.wrap (u - (g : Int)) = u - (g : Int) := wrap_in (by omega) (by omega)
  have hmax : max 0 (u - (g : Int)) = (a : Int) := by omega
  have w3 : IntKind.i64.wrap ((g : Int) + (a : Int)) = ((g + a : Nat) : Int) := by
    rw [← Int.natCast_add]
    exact wrap_nat (by omega)
  have hs1 := (row2_sto hb.1 (x := .int .i64 ((g + a : Nat) : Int)) rfl rfl).2
  have hlid : id < s.next := lt0
  simp (config := {contextual := true, maxDischargeDepth := 12}) only [tb_at, h0, h1, hlen, hz, hz2, l0, l1, lL, lt0, w1, hmax, w3, hs1, ↓bD, bU, forall_const, List.all_cons, List.all_nil, Option.map_some, List.map_cons, List.map_nil, ne_eq, implies_true, isNx, cs_dec, cs_not, cs_and, cs_or, cs_valid, eq_self, ↓wp_cond, ↓wp_loop, ↓reduceIte, reduceCtorEq, Nat.reduceEqDiff, Nat.reduceLT, Nat.reduceAdd, Nat.reduceMul, Int.ofNat_lt, Int.ofNat_le, exists_const, ae_app, ap_slc, Option.map_none, mkR_none, mkR_some, ar_look, ae_mset, ae_rng, ae_mkmap0, ar_ent, lookV_push, lookV_lowed, msetV_push, msetV_lowed, lt_put, same_put, sto_over, sto_lowed, cs_dead, Option.map_some, beq_self_eq_true, decide_true, cs_true, cs_false, aa_bsl, ↓sg_bsl, ap_nchk, nchkV_ptr, bin_np, bin_npn, bin_npx, bin_npnx, ap_mm, mmV_max, mmV_min, res3, ↓st_callf, aa_mksl, ae_copy, ap_slc3, slc3V_all, bin_nss, bin_nsn, aa_bsl]
  have hC : Chg [id] s (s.put id (.row [dv, .int .i64 ((g + a : Nat) : Int)] true)) := (Chg.refl [id] s).put _ (.inl (by simp)) hlid
  refine ⟨_, rfl, ⟨rfl, St.get_put_same hb.1, hb.2.1.keep hC (fun j off n cap z e => ?_), hb.2.2.keep hC (apart_two hb.1)⟩, hC, .inr ?_⟩
  · have := out_two hb.1 hb.2.1 hb.2.2 (.inr ⟨_, _, rfl⟩) j off n cap z e
    simpa using this
  · show min s.low id < s.next
    omega
theorem q_RForget_ok {s : St} {id g : Nat} {dv : AV} {vs : List AV} {ls : List (List Nd)} (hb : RefR s id dv vs ls g) (hg : g ≤ vs.length) (hv1 : vs.length ≤ 1000000) {u : Int} (h0u : 0 ≤ u) (hu : u ≤ (vs.length : Int)) : ∃ t, acall R_RForget false [.ptr id 0, .int .i64 u] s = some (.tup [.int .i64 (((u - (g : Int)).toNat : Nat) : Int), .int .i64 0], t) ∧ (RefR t id dv vs ls (g + (u - (g : Int)).toNat)) ∧ Chg ([id]) s t ∧ t.low < s.next := by
  obtain ⟨r, t, h1, ⟨rfl, h2⟩, h3, h4⟩ := run_newl n_RForget (by simp [a15]) (Q := fun r t => r = .tup [.int .i64 (((u - (g : Int)).toNat : Nat) : Int), .int .i64 0] ∧ RefR t id dv vs ls (g + (u - (g : Int)).toNat)) (fun r t t' hg hn hq => by
    have hmono : ∀ id b, t.get id = some b → t'.get id = some b := fun id b hb => by rw [hg]; exact hb
    exact ⟨hq.1, hq.2.mono hmono⟩) (w_RForget_ok (s := lowd s) hb.low hg hv1 h0u hu)
  exact ⟨t, h1, h2, h3, h4.resolve_left (by intro h; cases h)⟩

def rputP (ls : List (List Nd)) (d : List Nd) : Option Int := if storeL d = false then some 2 else if ∃ x ∈ ls, agreeL x d = false then some 15 else if 1000 ≤ ls.length then some 7 else none
theorem rputP_clash {ls : List (List Nd)} {d x : List Nd} {i : Nat} (hs : storeL d = true) (hx : ls[i]? = some x) (h : agreeL x d = false) : rputP ls d = some 15 := by
  unfold rputP
  rw [if_neg (by simp [hs]), if_pos ⟨x, List.mem_of_getElem? hx, h⟩]
theorem rputP_rest {ls : List (List Nd)} {d : List Nd} (hs : storeL d = true) (h : ∀ (k : Nat) y, ls[k]? = some y → agreeL y d = true) : rputP ls d = if 1000 ≤ ls.length then some 7 else none := by
  unfold rputP
  rw [if_neg (by simp [hs]), if_neg]
  rintro ⟨x, hx, hh⟩
  obtain ⟨k, hk⟩ := List.getElem?_of_mem hx
  rw [h k x hk] at hh
  cases hh
theorem own_off {v : AV} {l : List Nd} (h : Own ndC s t v l) {n : Nat} (hn : n ≤ s.next) : Off n v := by
  rcases h with ⟨rfl, _⟩ | ⟨j, rfl, _, hj, _⟩
  · exact .nil _
  · exact .sl (by omega)
theorem own_NdR {v : AV} {l : List Nd} (h : Own ndC s t v l) : NdR t v l := by
  rcases h with ⟨rfl, rfl⟩ | ⟨j, rfl, hne, hj, hg⟩
  · exact .inl ⟨rfl, rfl⟩
  · exact .inr ⟨j, 0, l.length, none, l, true, rfl, hg, read_of rfl hg (by rw [cells_len]; omega) (by rw [List.drop_zero, ← cells_len, List.take_length])⟩
/-- append(nil, dv...) -/
theorem app_nil {dv : AV} {vs : List AV} (h : OutR t dv vs) (hl : vs.length ≤ 1000000) : ∃ v' t', appV t 1 24 .nils dv = some (v', t') ∧ OutR t' v' vs ∧ (∀ j off n cap z, v' = .sl j off n cap z → t.next ≤ j) ∧ Keep t t' := by
  rcases h with ⟨rfl, rfl⟩ | ⟨j, cap, rfl, hg, hcap⟩
  · exact ⟨.nils, t, by simp [appV, shown, lenOf, aappend], .inl ⟨rfl, rfl⟩, fun _ _ _ _ _ e => by (cases e), .refl t⟩
  · have hs : shown t 1 (.sl j 0 vs.length cap 1) = some vs := by
      simp only [shown, if_true, hg, Nat.zero_add, Nat.mul_one, Nat.le_refl, List.drop_zero, List.take_length]
    by_cases h0 : vs.length = 0
    · have hv : vs = [] := List.length_eq_zero_iff.1 h0
      subst hv
      have hs : shown t 1 (.sl j 0 0 cap 1) = some [] := hs
      exact ⟨.nils, t, by simp only [appV, hs, lenOf, aappend, List.length_nil, if_true], .inl ⟨rfl, rfl⟩, fun _ _ _ _ _ e => by (cases e), .refl t⟩
    · refine ⟨.sl t.next 0 vs.length none 1, t.push (.row vs true), ?_, .inr ⟨t.next, none, rfl, St.get_push_new _ _, .inl ⟨rfl, fun e => h0 (by rw [e]; rfl)⟩⟩, fun j off n cap z e => by (injection e with e1; omega), (Keep.refl t).push _⟩
      simp only [appV, hs, lenOf, aappend, if_neg h0]
      rw [if_pos (by unfold roomBytes; omega)]
noncomputable def R_RPut : Con := runFn (tb [(31, conL ndC fStore), (32, conLL ndC ndC fAgree), (27, conF ndC (pL ndC gCopy))]) a9
theorem s_RPut : SoundAt Try.prog 9 R_RPut := run_sound (tb_sound (l := [(31, conL ndC fStore), (32, conLL ndC ndC fAgree), (27, conF ndC (pL ndC gCopy))]) (by simpa using ⟨s_Store, s_RAgree, s_RCopy⟩)) mixed Try.func9 k9 c9
theorem n_RPut : noNxtC a9.body = true := by kernel_rfl
theorem w_RPut_err {s : St} {id g : Nat} {dv : AV} {vs : List AV} {ls : List (List Nd)} (hb : RefR s id dv vs ls g) (hg : g ≤ vs.length) (hv1 : vs.length ≤ 1000000) {v : AV} {d : List Nd} (hr : read ndC s v = some d) (hd : d.length ≤ 100000) (hin : InnerOk ls) {er : Int} (he' : rputP (ls.drop g) d = some er) : ∀ env : Env, elen env = a9.ntmps → (∀ i x_, [.ptr id 0, v][i]? = some x_ → E env i = x_) → awp (tb [(31, conL ndC fStore), (32, conLL ndC ndC fAgree), (27, conF ndC (pL ndC gCopy))]) a9.body (fun x e t => (∀ i, x ≠ .exit i) ∧ aresults e t a9.results = some (.tup [.int .i64 0, .int .i64 er]) ∧ Keep s t) env s := by
  intro env hlen ha
  have h0 : E env 0 = _ := ha 0 _ rfl
  have h1 : E env 1 = _ := ha 1 _ rfl
  have hlen : elen env = _ := hlen
  simp only [a9] at hlen
  unfold a9
  try dsimp only [oO, oG]
  obtain ⟨l0, l1, lt0⟩ := row2_lod hb.1
  have lL := hb.2.1.lenV
  have hn := hb.2.2.len
  have hrd := out_rdLL hb.2.1 hb.2.2
  have qv := q_Store false hr (by unfold lim; omega)
  cases hs : storeL d
  · rw [hs] at qv
    have hP : rputP (ls.drop g) d = some 2 := by unfold rputP; rw [if_pos hs]
    rw [hP] at he'
    injection he' with he'
    subst he'
    simp (config := {contextual := true, maxDischargeDepth := 12}) only [tb_at, h0, h1, hlen, qv, ↓bD, bU, forall_const, List.all_cons, List.all_nil, Option.map_some, List.map_cons, List.map_nil, ne_eq, implies_true, isNx, cs_dec, cs_not, cs_and, cs_or, cs_valid, eq_self, ↓wp_cond, ↓wp_loop, ↓reduceIte, reduceCtorEq, Nat.reduceEqDiff, Nat.reduceLT, Nat.reduceAdd, Nat.reduceMul, Int.ofNat_lt, Int.ofNat_le, exists_const, ae_app, ap_slc, Option.map_none, mkR_none, mkR_some, ar_look, ae_mset, ae_rng, ae_mkmap0, ar_ent, lookV_push, lookV_lowed, msetV_push, msetV_lowed, lt_put, same_put, sto_over, sto_lowed, cs_dead, Option.map_some, beq_self_eq_true, decide_true, cs_true, cs_false, aa_bsl, ↓sg_bsl, ap_nchk, nchkV_ptr, bin_np, bin_npn, bin_npx, bin_npnx, ap_mm, mmV_max, mmV_min, res3, ↓st_callf, aa_mksl, ae_copy, ap_slc3, slc3V_all, bin_nss, bin_nsn, aa_bsl]
  rw [hs] at qv
  simp (config := {contextual := true, maxDischargeDepth := 12}) only [tb_at, h0, h1, hlen, qv, l1, lL, ↓bD, bU, forall_const, List.all_cons, List.all_nil, Option.map_some, List.map_cons, List.map_nil, ne_eq, implies_true, isNx, cs_dec, cs_not, cs_and, cs_or, cs_valid, eq_self, ↓wp_cond, ↓wp_loop, ↓reduceIte, reduceCtorEq, Nat.reduceEqDiff, Nat.reduceLT, Nat.reduceAdd, Nat.reduceMul, Int.ofNat_lt, Int.ofNat_le, exists_const, ae_app, ap_slc, Option.map_none, mkR_none, mkR_some, ar_look, ae_mset, ae_rng, ae_mkmap0, ar_ent, lookV_push, lookV_lowed, msetV_push, msetV_lowed, lt_put, same_put, sto_over, sto_lowed, cs_dead, Option.map_some, beq_self_eq_true, decide_true, cs_true, cs_false, aa_bsl, ↓sg_bsl, ap_nchk, nchkV_ptr, bin_np, bin_npn, bin_npx, bin_npnx, ap_mm, mmV_max, mmV_min, res3, ↓st_callf, aa_mksl, ae_copy, ap_slc3, slc3V_all, bin_nss, bin_nsn, aa_bsl]
  obtain ⟨I, hI⟩ : ∃ I : Nat → Env → St → Prop, ∀ n e t, I n e t = (t = s ∧ ∃ i : Nat, g + i + n = ls.length ∧ elen e = 61 ∧ E e 0 = .ptr id 0 ∧ E e 1 = v ∧ E e 6 = .int .i64 ((g + i : Nat) : Int) ∧ ∀ k y, k < i → (ls.drop g)[k]? = some y → agreeL y d = true) := ⟨fun n e t => (t = s ∧ ∃ i : Nat, g + i + n = ls.length ∧ elen e = 61 ∧ E e 0 = .ptr id 0 ∧ E e 1 = v ∧ E e 6 = .int .i64 ((g + i : Nat) : Int) ∧ ∀ k y, k < i → (ls.drop g)[k]? = some y → agreeL y d = true), fun _ _ _ => rfl⟩
  refine lwp_inv I (n := ls.length - g) ?_ ?_
  · rw [hI]
    exact ⟨rfl, 0, by omega, by simp only [E_pne, E_psame, elen_put, Nat.reduceEqDiff, ne_eq, not_false_eq_true, Nat.reduceLT, hlen], by simp only [E_pne, E_psame, elen_put, Nat.reduceEqDiff, ne_eq, not_false_eq_true, Nat.reduceLT, h0], by simp only [E_pne, E_psame, elen_put, Nat.reduceEqDiff, ne_eq, not_false_eq_true, Nat.reduceLT, h1], by simp only [E_pne, E_psame, elen_put, Nat.reduceEqDiff, ne_eq, not_false_eq_true, Nat.reduceLT, hlen]; rfl, fun k y hk => by omega⟩
  intro n e t hi
  rw [hI] at hi
  obtain ⟨rfl, i, hni, he, e0, e1, e6, hpre⟩ := hi
  by_cases hlt : g + i < ls.length
  · have hw2 := wrap_add1 (n := g + i) (by omega)
    obtain ⟨x, hx⟩ := getsome hlt
    have hx2 : (ls.drop g)[i]? = some x := by rw [List.getElem?_drop]; exact hx
    obtain ⟨w, i1, hxx, hrw⟩ := rdLL_at hrd hx
    obtain ⟨a1, al⟩ := hxx t (.refl t)
    have hlt2 : (((g + i : Nat) : Int) < (vs.length : Int)) = True := eq_true (by omega)
    have hxm := hin x (List.mem_of_getElem? hx)
    have qa := q_RAgree false hrw hr (by unfold lim; omega) (by unfold lim; omega)
    cases hag : agreeL x d
    · rw [hag] at qa
      rw [rputP_clash hs hx2 hag] at he'
      injection he' with he'
      subst he'
      simp (config := {contextual := true, maxDischargeDepth := 12}) only [tb_at, he, e0, e1, e6, hlt2, l0, l1, lL, i1, a1, al, qa, hw2, ↓bD, bU, forall_const, List.all_cons, List.all_nil, Option.map_some, List.map_cons, List.map_nil, ne_eq, implies_true, isNx, cs_dec, cs_not, cs_and, cs_or, cs_valid, eq_self, ↓wp_cond, ↓wp_loop, ↓reduceIte, reduceCtorEq, Nat.reduceEqDiff, Nat.reduceLT, Nat.reduceAdd, Nat.reduceMul, Int.ofNat_lt, Int.ofNat_le, exists_const, ae_app, ap_slc, Option.map_none, mkR_none, mkR_some, ar_look, ae_mset, ae_rng, ae_mkmap0, ar_ent, lookV_push, lookV_lowed, msetV_push, msetV_lowed, lt_put, same_put, sto_over, sto_lowed, cs_dead, Option.map_some, beq_self_eq_true, decide_true, cs_true, cs_false, aa_bsl, ↓sg_bsl, ap_nchk, nchkV_ptr, bin_np, bin_npn, bin_npx, bin_npnx, ap_mm, mmV_max, mmV_min, res3, ↓st_callf, aa_mksl, ae_copy, ap_slc3, slc3V_all, bin_nss, bin_nsn, aa_bsl]
    · rw [hag] at qa
      simp (config := {contextual := true, maxDischargeDepth := 12}) only [tb_at, he, e0, e1, e6, hlt2, l0, l1, lL, i1, a1, al, qa, hw2, ↓bD, bU, forall_const, List.all_cons, List.all_nil, Option.map_some, List.map_cons, List.map_nil, ne_eq, implies_true, isNx, cs_dec, cs_not, cs_and, cs_or, cs_valid, eq_self, ↓wp_cond, ↓wp_loop, ↓reduceIte, reduceCtorEq, Nat.reduceEqDiff, Nat.reduceLT, Nat.reduceAdd, Nat.reduceMul, Int.ofNat_lt, Int.ofNat_le, exists_const, ae_app, ap_slc, Option.map_none, mkR_none, mkR_some, ar_look, ae_mset, ae_rng, ae_mkmap0, ar_ent, lookV_push, lookV_lowed, msetV_push, msetV_lowed, lt_put, same_put, sto_over, sto_lowed, cs_dead, Option.map_some, beq_self_eq_true, decide_true, cs_true, cs_false, aa_bsl, ↓sg_bsl, ap_nchk, nchkV_ptr, bin_np, bin_npn, bin_npx, bin_npnx, ap_mm, mmV_max, mmV_min, res3, ↓st_callf, aa_mksl, ae_copy, ap_slc3, slc3V_all, bin_nss, bin_nsn, aa_bsl]
      refine ⟨n - 1, by omega, ?_⟩
      rw [hI]
      refine ⟨rfl, i + 1, by omega, by simp only [E_pne, E_psame, elen_put, Nat.reduceEqDiff, ne_eq, not_false_eq_true, Nat.reduceLT, he], by simp only [E_pne, E_psame, elen_put, Nat.reduceEqDiff, ne_eq, not_false_eq_true, Nat.reduceLT, e0], by simp only [E_pne, E_psame, elen_put, Nat.reduceEqDiff, ne_eq, not_false_eq_true, Nat.reduceLT, e1], by simp only [E_pne, E_psame, elen_put, Nat.reduceEqDiff, ne_eq, not_false_eq_true, Nat.reduceLT, he]; rfl, ?_⟩
      intro k y hk hy
      by_cases e' : k = i
      · subst e'
        rw [hx2] at hy
        cases hy
        exact hag
      · exact hpre k y (by omega) hy
  · have hlt2 : (((g + i : Nat) : Int) < (vs.length : Int)) = False := eq_false (by omega)
    have hall : ∀ (k : Nat) y, (ls.drop g)[k]? = some y → agreeL y d = true := fun k y hy => hpre k y (by have := getlt hy; rw [List.length_drop] at this; omega) hy
    have hP := rputP_rest hs hall
    rw [List.length_drop] at hP
    have w1 : IntKind.i64.wrap ((vs.length : Int) - (g : Int)) = ((ls.length - g : Nat) : Int) := by
      have e : (vs.length : Int) - (g : Int) = ((ls.length - g : Nat) : Int) := by omega
      rw [e]
      exact wrap_nat (by omega)
    by_cases h1000 : 1000 ≤ ls.length - g
    · have hz : ((1000 : Int) ≤ ((ls.length - g : Nat) : Int)) = True := eq_true (by omega)
      rw [hP, if_pos h1000] at he'
      injection he' with he'
      subst he'
      simp (config := {contextual := true, maxDischargeDepth := 12}) only [tb_at, he, e0, e1, e6, hlt2, l0, l1, lL, w1, hz, lt0, ↓bD, bU, forall_const, List.all_cons, List.all_nil, Option.map_some, List.map_cons, List.map_nil, ne_eq, implies_true, isNx, cs_dec, cs_not, cs_and, cs_or, cs_valid, eq_self, ↓wp_cond, ↓wp_loop, ↓reduceIte, reduceCtorEq, Nat.reduceEqDiff, Nat.reduceLT, Nat.reduceAdd, Nat.reduceMul, Int.ofNat_lt, Int.ofNat_le, exists_const, ae_app, ap_slc, Option.map_none, mkR_none, mkR_some, ar_look, ae_mset, ae_rng, ae_mkmap0, ar_ent, lookV_push, lookV_lowed, msetV_push, msetV_lowed, lt_put, same_put, sto_over, sto_lowed, cs_dead, Option.map_some, beq_self_eq_true, decide_true, cs_true, cs_false, aa_bsl, ↓sg_bsl, ap_nchk, nchkV_ptr, bin_np, bin_npn, bin_npx, bin_npnx, ap_mm, mmV_max, mmV_min, res3, ↓st_callf, aa_mksl, ae_copy, ap_slc3, slc3V_all, bin_nss, bin_nsn, aa_bsl]
    · rw [hP, if_neg h1000] at he'
      cases he'
theorem q_RPut_err (cl : Bool) {s : St} {id g : Nat} {dv : AV} {vs : List AV} {ls : List (List Nd)} (hb : RefR s id dv vs ls g) (hg : g ≤ vs.length) (hv1 : vs.length ≤ 1000000) {v : AV} {d : List Nd} (hr : read ndC s v = some d) (hd : d.length ≤ 100000) (hin : InnerOk ls) {er : Int} (he' : rputP (ls.drop g) d = some er) : acall R_RPut cl [.ptr id 0, v] s = some (.tup [.int .i64 0, .int .i64 er], s) := run_same n_RPut (by simp [a9]) rfl (w_RPut_err (s := lowd s) hb.low hg hv1 (read_low' hr) hd hin he')
theorem w_RPut_ok {s : St} {id g : Nat} {dv : AV} {vs : List AV} {ls : List (List Nd)} (hb : RefR s id dv vs ls g) (hg : g ≤ vs.length) (hv1 : vs.length ≤ 1000000) {v : AV} {d : List Nd} (hr : read ndC s v = some d) (hd : d.length ≤ 100000) (hin : InnerOk ls) (he' : rputP (ls.drop g) d = none) (hv2 : vs.length < 1000000) : ∀ env : Env, elen env = a9.ntmps → (∀ i x_, [.ptr id 0, v][i]? = some x_ → E env i = x_) → awp (tb [(31, conL ndC fStore), (32, conLL ndC ndC fAgree), (27, conF ndC (pL ndC gCopy))]) a9.body (fun x e t => (∀ i, x ≠ .exit i) ∧ ∃ r, aresults e t a9.results = some r ∧ (r = .tup [.int .i64 ((vs.length + 1 : Nat) : Int), .int .i64 0] ∧ ∃ dv' vs', RefR t id dv' vs' (ls ++ [d]) g ∧ (∀ j off n cap z, dv' = .sl j off n cap z → s.next ≤ j) ∧ NewV s.next vs vs') ∧ Chg [id] s t ∧ (r.ground = false ∨ t.low < s.next)) env s := by
  intro env hlen ha
  have h0 : E env 0 = _ := ha 0 _ rfl
  have h1 : E env 1 = _ := ha 1 _ rfl
  have hlen : elen env = _ := hlen
  simp only [a9] at hlen
  unfold a9
  try dsimp only [oO, oG]
  obtain ⟨l0, l1, lt0⟩ := row2_lod hb.1
  have lL := hb.2.1.lenV
  have hn := hb.2.2.len
  have hrd := out_rdLL hb.2.1 hb.2.2
  have qv := q_Store false hr (by unfold lim; omega)
  cases hs : storeL d
  · rw [hs] at qv
    have hP : rputP (ls.drop g) d = some 2 := by unfold rputP; rw [if_pos hs]
    rw [hP] at he'
    cases he'
  rw [hs] at qv
  simp (config := {contextual := true, maxDischargeDepth := 12}) only [tb_at, h0, h1, hlen, qv, l1, lL, ↓bD, bU, forall_const, List.all_cons, List.all_nil, Option.map_some, List.map_cons, List.map_nil, ne_eq, implies_true, isNx, cs_dec, cs_not, cs_and, cs_or, cs_valid, eq_self, ↓wp_cond, ↓wp_loop, ↓reduceIte, reduceCtorEq, Nat.reduceEqDiff, Nat.reduceLT, Nat.reduceAdd, Nat.reduceMul, Int.ofNat_lt, Int.ofNat_le, exists_const, ae_app, ap_slc, Option.map_none, mkR_none, mkR_some, ar_look, ae_mset, ae_rng, ae_mkmap0, ar_ent, lookV_push, lookV_lowed, msetV_push, msetV_lowed, lt_put, same_put, sto_over, sto_lowed, cs_dead, Option.map_some, beq_self_eq_true, decide_true, cs_true, cs_false, aa_bsl, ↓sg_bsl, ap_nchk, nchkV_ptr, bin_np, bin_npn, bin_npx, bin_npnx, ap_mm, mmV_max, mmV_min, res3, ↓st_callf, aa_mksl, ae_copy, ap_slc3, slc3V_all, bin_nss, bin_nsn, aa_bsl]
  obtain ⟨I, hI⟩ : ∃ I : Nat → Env → St → Prop, ∀ n e t, I n e t = (t = s ∧ ∃ i : Nat, g + i + n = ls.length ∧ elen e = 61 ∧ E e 0 = .ptr id 0 ∧ E e 1 = v ∧ E e 6 = .int .i64 ((g + i : Nat) : Int) ∧ ∀ k y, k < i → (ls.drop g)[k]? = some y → agreeL y d = true) := ⟨fun n e t => (t = s ∧ ∃ i : Nat, g + i + n = ls.length ∧ elen e = 61 ∧ E e 0 = .ptr id 0 ∧ E e 1 = v ∧ E e 6 = .int .i64 ((g + i : Nat) : Int) ∧ ∀ k y, k < i → (ls.drop g)[k]? = some y → agreeL y d = true), fun _ _ _ => rfl⟩
  refine lwp_inv I (n := ls.length - g) ?_ ?_
  · rw [hI]
    exact ⟨rfl, 0, by omega, by simp only [E_pne, E_psame, elen_put, Nat.reduceEqDiff, ne_eq, not_false_eq_true, Nat.reduceLT, hlen], by simp only [E_pne, E_psame, elen_put, Nat.reduceEqDiff, ne_eq, not_false_eq_true, Nat.reduceLT, h0], by simp only [E_pne, E_psame, elen_put, Nat.reduceEqDiff, ne_eq, not_false_eq_true, Nat.reduceLT, h1], by simp only [E_pne, E_psame, elen_put, Nat.reduceEqDiff, ne_eq, not_false_eq_true, Nat.reduceLT, hlen]; rfl, fun k y hk => by omega⟩
  intro n e t hi
  rw [hI] at hi
  obtain ⟨rfl, i, hni, he, e0, e1, e6, hpre⟩ := hi
  by_cases hlt : g + i < ls.length
  · have hw2 := wrap_add1 (n := g + i) (by omega)
    obtain ⟨x, hx⟩ := getsome hlt
    have hx2 : (ls.drop g)[i]? = some x := by rw [List.getElem?_drop]; exact hx
    obtain ⟨w, i1, hxx, hrw⟩ := rdLL_at hrd hx
    obtain ⟨a1, al⟩ := hxx t (.refl t)
    have hlt2 : (((g + i : Nat) : Int) < (vs.length : Int)) = True := eq_true (by omega)
    have hxm := hin x (List.mem_of_getElem? hx)
    have qa := q_RAgree false hrw hr (by unfold lim; omega) (by unfold lim; omega)
    cases hag : agreeL x d
    · rw [hag] at qa
      rw [rputP_clash hs hx2 hag] at he'
      cases he'
    · rw [hag] at qa
      simp (config := {contextual := true, maxDischargeDepth := 12}) only [tb_at, he, e0, e1, e6, hlt2, l0, l1, lL, i1, a1, al, qa, hw2, ↓bD, bU, forall_const, List.all_cons, List.all_nil, Option.map_some, List.map_cons, List.map_nil, ne_eq, implies_true, isNx, cs_dec, cs_not, cs_and, cs_or, cs_valid, eq_self, ↓wp_cond, ↓wp_loop, ↓reduceIte, reduceCtorEq, Nat.reduceEqDiff, Nat.reduceLT, Nat.reduceAdd, Nat.reduceMul, Int.ofNat_lt, Int.ofNat_le, exists_const, ae_app, ap_slc, Option.map_none, mkR_none, mkR_some, ar_look, ae_mset, ae_rng, ae_mkmap0, ar_ent, lookV_push, lookV_lowed, msetV_push, msetV_lowed, lt_put, same_put, sto_over, sto_lowed, cs_dead, Option.map_some, beq_self_eq_true, decide_true, cs_true, cs_false, aa_bsl, ↓sg_bsl, ap_nchk, nchkV_ptr, bin_np, bin_npn, bin_npx, bin_npnx, ap_mm, mmV_max, mmV_min, res3, ↓st_callf, aa_mksl, ae_copy, ap_slc3, slc3V_all, bin_nss, bin_nsn, aa_bsl]
      refine ⟨n - 1, by omega, ?_⟩
      rw [hI]
      refine ⟨rfl, i + 1, by omega, by simp only [E_pne, E_psame, elen_put, Nat.reduceEqDiff, ne_eq, not_false_eq_true, Nat.reduceLT, he], by simp only [E_pne, E_psame, elen_put, Nat.reduceEqDiff, ne_eq, not_false_eq_true, Nat.reduceLT, e0], by simp only [E_pne, E_psame, elen_put, Nat.reduceEqDiff, ne_eq, not_false_eq_true, Nat.reduceLT, e1], by simp only [E_pne, E_psame, elen_put, Nat.reduceEqDiff, ne_eq, not_false_eq_true, Nat.reduceLT, he]; rfl, ?_⟩
      intro k y hk hy
      by_cases e' : k = i
      · subst e'
        rw [hx2] at hy
        cases hy
        exact hag
      · exact hpre k y (by omega) hy
  · have hlt2 : (((g + i : Nat) : Int) < (vs.length : Int)) = False := eq_false (by omega)
    have hall : ∀ (k : Nat) y, (ls.drop g)[k]? = some y → agreeL y d = true := fun k y hy => hpre k y (by have := getlt hy; rw [List.length_drop] at this; omega) hy
    have hP := rputP_rest hs hall
    rw [List.length_drop] at hP
    have w1 : IntKind.i64.wrap ((vs.length : Int) - (g : Int)) = ((ls.length - g : Nat) : Int) := by
      have e : (vs.length : Int) - (g : Int) = ((ls.length - g : Nat) : Int) := by omega
      rw [e]
      exact wrap_nat (by omega)
    by_cases h1000 : 1000 ≤ ls.length - g
    · rw [hP, if_pos h1000] at he'
      cases he'
    · have hz : ((1000 : Int) ≤ ((ls.length - g : Nat) : Int)) = False := eq_false (by omega)
      obtain ⟨dv1, t1, happ1, ho1, hf1, hK1⟩ := app_nil hb.2.1 hv1
      obtain ⟨v', t2, hc, hK2, hO2⟩ := fresh_L (D := ndC) (f := gCopy) (hK1.read hr) (by unfold lim; omega) rfl (fun x hx => by cases hx)
      rw [mkR_none] at hc
      have hnd := own_NdR hO2
      have hbsl := bsl1 hnd.read
      have hK3 : Keep t (t2.push (.row [v'] true)) := (hK1.trans hK2).push _
      have ho3 : OutR (t2.push (.row [v'] true)) dv1 vs := ho1.keep ((hK2.push _).chg []) (fun _ _ _ _ _ _ => by simp)
      have hi3 : InR (t2.push (.row [v'] true)) vs ls := hb.2.2.keep (hK3.chg []) (.nil _)
      have hnd3 : NdR (t2.push (.row [v'] true)) v' d := hnd.mono fun id b h => get_push_some _ h
      obtain ⟨t3, happ, hg3, hn3, hC3⟩ := out_appV (x := .sl t2.next 0 1 (some 1) 1) ho3 (by unfold roomBytes; omega) rfl (St.get_push_new _ _)
      have hK4 : Keep t t3 := hK3.chgn hC3 fun k hk => by
        obtain ⟨off, n', cap, z, e⟩ := outM_in hk
        exact hf1 _ _ _ _ _ e
      have hb3 := hK4.blk hb.1
      have hsto := (row2_sto hb3 (x := .sl (t2.push (.row [v'] true)).next 0 (vs.length + 1) none 1) rfl rfl).1
      have hIJ : InR t3 (vs ++ [v']) (ls ++ [d]) := InR.app (hi3.keep hC3 (apart_out ho3 hi3)) ⟨hnd3.keep hC3 (apart_out ho3 hi3), trivial⟩
      have hlt3 := St.get_lt hb3
      have hlid : id < t.next := lt0
      have hnx := hK3.next
      have hne : (t2.push (.row [v'] true)).next ≠ id := by omega
      have hb4 := St.get_put_same (b := .row [.sl (t2.push (.row [v'] true)).next 0 (vs.length + 1) none 1, .int .i64 (g : Int)] true) hb3
      obtain ⟨m0, _, mlt⟩ := row2_lod hb4
      have hC4 : Chg [id] t3 (t3.put id (.row [.sl (t2.push (.row [v'] true)).next 0 (vs.length + 1) none 1, .int .i64 (g : Int)] true)) := (Chg.refl _ _).put _ (.inl (by simp)) hlt3
      have hB4 : RefR (t3.put id (.row [.sl (t2.push (.row [v'] true)).next 0 (vs.length + 1) none 1, .int .i64 (g : Int)] true)) id (.sl (t2.push (.row [v'] true)).next 0 (vs.length + 1) none 1) (vs ++ [v']) (ls ++ [d]) g := by
        refine ⟨hb4, .inr ⟨(t2.push (.row [v'] true)).next, none, by simp, ?_, .inl ⟨rfl, by simp⟩⟩, hIJ.keep hC4 (apart_two hb3)⟩
        rw [St.get_put_ne _ _ hlt3 hne]
        exact hg3
      simp (config := {contextual := true, maxDischargeDepth := 12}) only [tb_at, he, e0, e1, e6, hlt2, l0, l1, lL, w1, hz, lt0, happ1, hc, hbsl, happ, hsto, m0, ↓bD, bU, forall_const, List.all_cons, List.all_nil, Option.map_some, List.map_cons, List.map_nil, ne_eq, implies_true, isNx, cs_dec, cs_not, cs_and, cs_or, cs_valid, eq_self, ↓wp_cond, ↓wp_loop, ↓reduceIte, reduceCtorEq, Nat.reduceEqDiff, Nat.reduceLT, Nat.reduceAdd, Nat.reduceMul, Int.ofNat_lt, Int.ofNat_le, exists_const, ae_app, ap_slc, Option.map_none, mkR_none, mkR_some, ar_look, ae_mset, ae_rng, ae_mkmap0, ar_ent, lookV_push, lookV_lowed, msetV_push, msetV_lowed, lt_put, same_put, sto_over, sto_lowed, cs_dead, Option.map_some, beq_self_eq_true, decide_true, cs_true, cs_false, aa_bsl, ↓sg_bsl, ap_nchk, nchkV_ptr, bin_np, bin_npn, bin_npx, bin_npnx, ap_mm, mmV_max, mmV_min, res3, ↓st_callf, aa_mksl, ae_copy, ap_slc3, slc3V_all, bin_nss, bin_nsn, aa_bsl]
      refine ⟨_, rfl, ⟨rfl, _, _, hB4, fun j off n' cap z e => ?_, .app (own_off hO2 hK1.next)⟩, (hK4.chg _).trans hC4 (fun k hk => .inl hk), .inr ?_⟩
      · injection e with e1
        omega
      · show min t3.low id < t.next
        omega
theorem q_RPut_ok {s : St} {id g : Nat} {dv : AV} {vs : List AV} {ls : List (List Nd)} (hb : RefR s id dv vs ls g) (hg : g ≤ vs.length) (hv1 : vs.length ≤ 1000000) {v : AV} {d : List Nd} (hr : read ndC s v = some d) (hd : d.length ≤ 100000) (hin : InnerOk ls) (he' : rputP (ls.drop g) d = none) (hv2 : vs.length < 1000000) : ∃ t, acall R_RPut false [.ptr id 0, v] s = some (.tup [.int .i64 ((vs.length + 1 : Nat) : Int), .int .i64 0], t) ∧ (∃ dv' vs', RefR t id dv' vs' (ls ++ [d]) g ∧ (∀ j off n cap z, dv' = .sl j off n cap z → s.next ≤ j) ∧ NewV s.next vs vs') ∧ Chg ([id]) s t ∧ t.low < s.next := by
  obtain ⟨r, t, h1, ⟨rfl, h2⟩, h3, h4⟩ := run_newl n_RPut (by simp [a9]) (Q := fun r t => r = .tup [.int .i64 ((vs.length + 1 : Nat) : Int), .int .i64 0] ∧ ∃ dv' vs', RefR t id dv' vs' (ls ++ [d]) g ∧ (∀ j off n cap z, dv' = .sl j off n cap z → s.next ≤ j) ∧ NewV s.next vs vs') (fun r t t' hg hn hq => by
    have hmono : ∀ id b, t.get id = some b → t'.get id = some b := fun id b hb => by rw [hg]; exact hb
    obtain ⟨q1, dv', vs', q2, q3⟩ := hq
    exact ⟨q1, dv', vs', q2.mono hmono, q3⟩) (w_RPut_ok (s := lowd s) hb.low hg hv1 (read_low' hr) hd hin he' hv2)
  exact ⟨t, h1, h2, h3, h4.resolve_left (by intro h; cases h)⟩

end Go.AM
end
/-
  join.Join in a form that the kernel runs. Own work of this project.
-/
section
set_option linter.unusedVariables false
set_option linter.unusedSimpArgs false
set_option maxRecDepth 100000
set_option maxHeartbeats 4000000
namespace Go.AM
open Go Go.Proofs

def joinF : Nat → List Nd → List Nd → Option (List Nd)
  | 0, a, b => some (a ++ b)
  | n + 1, [], b => some b
  | n + 1, x :: a, [] => some (x :: a)
  | n + 1, x :: a, y :: b =>
    if x.d.before y.d = true then (joinF n a (y :: b)).map (x :: ·)
    else if y.d.before x.d = true then (joinF n (x :: a) b).map (y :: ·)
    else if x.clash y = true then none
    else (joinF n a b).map (x.merge y :: ·)
theorem joinF_eq : ∀ (n : Nat) (a b : List Nd), a.length + b.length ≤ n → joinF n a b = joinL a b
  | 0, a, b, h => by
    have h1 : a = [] := List.length_eq_zero_iff.1 (by omega)
    have h2 : b = [] := List.length_eq_zero_iff.1 (by omega)
    subst h1; subst h2
    simp [joinF, joinL]
  | n + 1, [], b, _ => by simp [joinF, joinL]
  | n + 1, x :: a, [], _ => by simp [joinF, joinL]
  | n + 1, x :: a, y :: b, h => by
    simp only [List.length_cons] at h
    rw [joinF, joinL, joinF_eq n a (y :: b) (by simp; omega), joinF_eq n (x :: a) b (by simp; omega), joinF_eq n a b (by omega)]
def gJoinK (a b : List Nd) : Option (List Nd × Option AV) :=
  if storeL a = true ∧ storeL b = true then match joinF (a.length + b.length) a b with
    | some l => some (l, some (.int .i64 0))
    | none => some ([], some (.int .i64 15))
  else some ([], some (.int .i64 2))
theorem gJoinK_eq : gJoinK = gJoin := by
  funext a b
  rw [gJoinK, gJoin, joinF_eq _ a b (Nat.le_refl _)]
  rfl
theorem s_JoinK : SoundAt Try.prog 23 (conF ndC (pLL ndC ndC gJoinK)) := by
  rw [gJoinK_eq]
  exact s_Join

def isTrue : Option (AV × St) → Bool
  | some (.bool true, _) => true
  | _ => false
theorem isTrue_ex {o : Option (AV × St)} (h : isTrue o = true) : ∃ s, o = some (.bool true, s) := by
  unfold isTrue at h
  split at h
  · exact ⟨_, rfl⟩
  · cases h
end Go.AM
end
/-
  The chapter's examples: 'known' answers true. Own work of this project; in part printed by a program of it.
-/
section
set_option linter.unusedVariables false
set_option linter.unusedSimpArgs false
set_option maxRecDepth 100000
set_option maxHeartbeats 4000000
namespace Go.AM
open Go Go.Proofs

def tabK : Nat → AFun
  | 8 => .code a8
  | 10 => .code a10
  | 14 => .code a14
  | 12 => .code a12
  | 16 => .code a16
  | 17 => .code a17
  | 18 => .code a18
  | 19 => .code a19
  | 20 => .code a20
  | 21 => .code a21
  | 22 => .code a22
  | 26 => .code a26
  | 34 => .code a34
  | 36 => .code a36
  | 25 => .code a25
  | 23 => .con (conF ndC (pLL ndC ndC gJoinK))
  | 24 => .con (conLL ndC ndC fSame)
  | 40 => .con (conF ndC (pL ndC gOf))
  | 35 => .con (conL ndC fValid)
  | 37 => .con (cloneC)
  | _ => .no
theorem tabK_ok : ∀ f, FunOk Try.prog f (tabK f) := by
  intro f
  unfold tabK
  split
  · exact ⟨k8, _, Try.func8, c8⟩
  · exact ⟨k10, _, Try.func10, c10⟩
  · exact ⟨k14, _, Try.func14, c14⟩
  · exact ⟨k12, _, Try.func12, c12⟩
  · exact ⟨k16, _, Try.func16, c16⟩
  · exact ⟨k17, _, Try.func17, c17⟩
  · exact ⟨k18, _, Try.func18, c18⟩
  · exact ⟨k19, _, Try.func19, c19⟩
  · exact ⟨k20, _, Try.func20, c20⟩
  · exact ⟨k21, _, Try.func21, c21⟩
  · exact ⟨k22, _, Try.func22, c22⟩
  · exact ⟨k26, _, Try.func26, c26⟩
  · exact ⟨k34, _, Try.func34, c34⟩
  · exact ⟨k36, _, Try.func36, c36⟩
  · exact ⟨k25, _, Try.func25, c25⟩
  · exact s_JoinK
  · exact s_Same
  · exact s_Of
  · exact s_JValid
  · exact s_jcopy
  · trivial
theorem known_run : isTrue (acalls tabK 100 9 8 [] St.empty) = true := by kernel_rfl
theorem s_known : SoundAt Try.prog 8 (closed [] (.bool true)) := by
  obtain ⟨s, hs⟩ := isTrue_ex known_run
  exact closed_sound (acalls_sound mixed tabK_ok 9 _) hs rfl
end Go.AM
end
/-
  The helpers of the statements of layer 24; BufferNil. Own work of this project; in part printed by a program of it.
-/
section
set_option linter.unusedVariables false
set_option linter.unusedSimpArgs false
set_option maxRecDepth 100000
set_option maxHeartbeats 8000000
namespace Go.AM
open Go Go.Proofs

variable {s t u : St}
theorem extV_2 (a b c : AV) (r : List AV) : extV 2 (.tup (a :: b :: c :: r)) = some c := nrfl rfl
noncomputable def R_puts : Con := runFn (tb [(18, R_BPut)]) a10
theorem s_puts : SoundAt Try.prog 10 R_puts := run_sound (tb_sound (l := [(18, R_BPut)]) (by simpa using s_BPut)) mixed Try.func10 k10 c10
theorem n_puts : noNxtC a10.body = true := by kernel_rfl
theorem w_puts_nil {s : St} {v : AV} (w c : Int) : ∀ env : Env, elen env = a10.ntmps → (∀ i x_, [.nilp, v, .int .i64 w, .int .i64 c][i]? = some x_ → E env i = x_) → awp (tb [(18, R_BPut)]) a10.body (fun x e t => (∀ i, x ≠ .exit i) ∧ aresults e t a10.results = some (.bool (decide (0 = w) && decide (1 = c))) ∧ Keep s t) env s := by
  intro env hlen ha
  have h0 : E env 0 = _ := ha 0 _ rfl
  have h1 : E env 1 = _ := ha 1 _ rfl
  have h2 : E env 2 = _ := ha 2 _ rfl
  have h3 : E env 3 = _ := ha 3 _ rfl
  have hlen : elen env = _ := hlen
  simp only [a10] at hlen
  unfold a10
  try dsimp only [oO, oG]
  have q := q_BPut_nil false (s := s) (v := v)
  simp (config := {contextual := true, maxDischargeDepth := 12}) only [tb_at, h0, h1, h2, h3, hlen, q, ↓bD, bU, forall_const, List.all_cons, List.all_nil, Option.map_some, List.map_cons, List.map_nil, ne_eq, implies_true, isNx, cs_dec, cs_not, cs_and, cs_or, cs_valid, eq_self, ↓wp_cond, ↓wp_loop, ↓reduceIte, reduceCtorEq, Nat.reduceEqDiff, Nat.reduceLT, Nat.reduceAdd, Nat.reduceMul, Int.ofNat_lt, Int.ofNat_le, exists_const, ae_app, ap_slc, Option.map_none, mkR_none, mkR_some, ar_look, ae_mset, ae_rng, ae_mkmap0, ar_ent, lookV_push, lookV_lowed, msetV_push, msetV_lowed, lt_put, same_put, sto_over, sto_lowed, cs_dead, Option.map_some, beq_self_eq_true, decide_true, cs_true, cs_false, aa_bsl, ↓sg_bsl, ap_nchk, nchkV_ptr, bin_np, bin_npn, bin_npx, bin_npnx, ap_mm, mmV_max, mmV_min, res3, ↓st_callf, aa_mksl, ae_copy, ap_slc3, slc3V_all, bin_nss, bin_nsn, aa_bsl, extV_2, q_known]
theorem q_puts_nil (cl : Bool) {s : St} {v : AV} (w c : Int) : acall R_puts cl [.nilp, v, .int .i64 w, .int .i64 c] s = some (.bool (decide (0 = w) && decide (1 = c)), s) := run_same n_puts (by simp [a10]) rfl (w_puts_nil (s := lowd s) w c)
theorem w_puts_err {s : St} {id g : Nat} {dv : AV} {vs : List AV} {ls : List (List Nd)} (hb : BufR s id g dv vs ls) (hg : g + vs.length ≤ 1000000) {v : AV} {d : List Nd} (hr : read ndC s v = some d) (hd : d.length ≤ 100000) (hin : InnerOk ls) (w c : Int) {er : Int} (he' : putP ls d = some er) : ∀ env : Env, elen env = a10.ntmps → (∀ i x_, [.ptr id 0, v, .int .i64 w, .int .i64 c][i]? = some x_ → E env i = x_) → awp (tb [(18, R_BPut)]) a10.body (fun x e t => (∀ i, x ≠ .exit i) ∧ aresults e t a10.results = some (.bool (decide (0 = w) && decide (er = c))) ∧ Keep s t) env s := by
  intro env hlen ha
  have h0 : E env 0 = _ := ha 0 _ rfl
  have h1 : E env 1 = _ := ha 1 _ rfl
  have h2 : E env 2 = _ := ha 2 _ rfl
  have h3 : E env 3 = _ := ha 3 _ rfl
  have hlen : elen env = _ := hlen
  simp only [a10] at hlen
  unfold a10
  try dsimp only [oO, oG]
  have q := q_BPut_err false hb hg hr hd hin he'
  simp (config := {contextual := true, maxDischargeDepth := 12}) only [tb_at, h0, h1, h2, h3, hlen, q, ↓bD, bU, forall_const, List.all_cons, List.all_nil, Option.map_some, List.map_cons, List.map_nil, ne_eq, implies_true, isNx, cs_dec, cs_not, cs_and, cs_or, cs_valid, eq_self, ↓wp_cond, ↓wp_loop, ↓reduceIte, reduceCtorEq, Nat.reduceEqDiff, Nat.reduceLT, Nat.reduceAdd, Nat.reduceMul, Int.ofNat_lt, Int.ofNat_le, exists_const, ae_app, ap_slc, Option.map_none, mkR_none, mkR_some, ar_look, ae_mset, ae_rng, ae_mkmap0, ar_ent, lookV_push, lookV_lowed, msetV_push, msetV_lowed, lt_put, same_put, sto_over, sto_lowed, cs_dead, Option.map_some, beq_self_eq_true, decide_true, cs_true, cs_false, aa_bsl, ↓sg_bsl, ap_nchk, nchkV_ptr, bin_np, bin_npn, bin_npx, bin_npnx, ap_mm, mmV_max, mmV_min, res3, ↓st_callf, aa_mksl, ae_copy, ap_slc3, slc3V_all, bin_nss, bin_nsn, aa_bsl, extV_2, q_known]
theorem q_puts_err (cl : Bool) {s : St} {id g : Nat} {dv : AV} {vs : List AV} {ls : List (List Nd)} (hb : BufR s id g dv vs ls) (hg : g + vs.length ≤ 1000000) {v : AV} {d : List Nd} (hr : read ndC s v = some d) (hd : d.length ≤ 100000) (hin : InnerOk ls) (w c : Int) {er : Int} (he' : putP ls d = some er) : acall R_puts cl [.ptr id 0, v, .int .i64 w, .int .i64 c] s = some (.bool (decide (0 = w) && decide (er = c)), s) := run_same n_puts (by simp [a10]) rfl (w_puts_err (s := lowd s) hb.low hg (read_low' hr) hd hin w c he')
theorem w_puts_ok {s : St} {id g : Nat} {dv : AV} {vs : List AV} {ls : List (List Nd)} (hb : BufR s id g dv vs ls) (hg : g + vs.length < 1000000) {v : AV} {d : List Nd} (hr : read ndC s v = some d) (hd : d.length ≤ 100000) (hin : InnerOk ls) (w c : Int) (he' : putP ls d = none) : ∀ env : Env, elen env = a10.ntmps → (∀ i x_, [.ptr id 0, v, .int .i64 w, .int .i64 c][i]? = some x_ → E env i = x_) → awp (tb [(18, R_BPut)]) a10.body (fun x e t => (∀ i, x ≠ .exit i) ∧ ∃ r, aresults e t a10.results = some r ∧ (r = .bool (decide (((g + vs.length + 1 : Nat) : Int) = w) && decide (0 = c)) ∧ ∃ dv' vs', BufR t id g dv' vs' (ls ++ [d]) ∧ (∀ j off n cap z, dv' = .sl j off n cap z → s.next ≤ j) ∧ NewV s.next vs vs') ∧ Chg (id :: outM dv vs) s t ∧ (r.ground = false ∨ t.low < s.next)) env s := by
  intro env hlen ha
  have h0 : E env 0 = _ := ha 0 _ rfl
  have h1 : E env 1 = _ := ha 1 _ rfl
  have h2 : E env 2 = _ := ha 2 _ rfl
  have h3 : E env 3 = _ := ha 3 _ rfl
  have hlen : elen env = _ := hlen
  simp only [a10] at hlen
  unfold a10
  try dsimp only [oO, oG]
  obtain ⟨t, hq, ⟨dv', vs', x2, x3⟩, hC, hlow⟩ := q_BPut_ok hb hg hr hd hin he'
  simp (config := {contextual := true, maxDischargeDepth := 12}) only [tb_at, h0, h1, h2, h3, hlen, hq, ↓bD, bU, forall_const, List.all_cons, List.all_nil, Option.map_some, List.map_cons, List.map_nil, ne_eq, implies_true, isNx, cs_dec, cs_not, cs_and, cs_or, cs_valid, eq_self, ↓wp_cond, ↓wp_loop, ↓reduceIte, reduceCtorEq, Nat.reduceEqDiff, Nat.reduceLT, Nat.reduceAdd, Nat.reduceMul, Int.ofNat_lt, Int.ofNat_le, exists_const, ae_app, ap_slc, Option.map_none, mkR_none, mkR_some, ar_look, ae_mset, ae_rng, ae_mkmap0, ar_ent, lookV_push, lookV_lowed, msetV_push, msetV_lowed, lt_put, same_put, sto_over, sto_lowed, cs_dead, Option.map_some, beq_self_eq_true, decide_true, cs_true, cs_false, aa_bsl, ↓sg_bsl, ap_nchk, nchkV_ptr, bin_np, bin_npn, bin_npx, bin_npnx, ap_mm, mmV_max, mmV_min, res3, ↓st_callf, aa_mksl, ae_copy, ap_slc3, slc3V_all, bin_nss, bin_nsn, aa_bsl, extV_2, q_known]
  exact ⟨_, rfl, ⟨rfl, dv', vs', x2, x3⟩, hC, .inr hlow⟩
theorem q_puts_ok {s : St} {id g : Nat} {dv : AV} {vs : List AV} {ls : List (List Nd)} (hb : BufR s id g dv vs ls) (hg : g + vs.length < 1000000) {v : AV} {d : List Nd} (hr : read ndC s v = some d) (hd : d.length ≤ 100000) (hin : InnerOk ls) (w c : Int) (he' : putP ls d = none) : ∃ t, acall R_puts false [.ptr id 0, v, .int .i64 w, .int .i64 c] s = some (.bool (decide (((g + vs.length + 1 : Nat) : Int) = w) && decide (0 = c)), t) ∧ (∃ dv' vs', BufR t id g dv' vs' (ls ++ [d]) ∧ (∀ j off n cap z, dv' = .sl j off n cap z → s.next ≤ j) ∧ NewV s.next vs vs') ∧ Chg (id :: outM dv vs) s t ∧ t.low < s.next := by
  obtain ⟨r, t, h1, ⟨rfl, h2⟩, h3, h4⟩ := run_newl n_puts (by simp [a10]) (Q := fun r t => r = .bool (decide (((g + vs.length + 1 : Nat) : Int) = w) && decide (0 = c)) ∧ ∃ dv' vs', BufR t id g dv' vs' (ls ++ [d]) ∧ (∀ j off n cap z, dv' = .sl j off n cap z → s.next ≤ j) ∧ NewV s.next vs vs') (fun r t t' hg hn hq => by
    have hmono : ∀ id b, t.get id = some b → t'.get id = some b := fun id b hb => by rw [hg]; exact hb
    obtain ⟨q1, dv', vs', q2, q3⟩ := hq
    exact ⟨q1, dv', vs', q2.mono hmono, q3⟩) (w_puts_ok (s := lowd s) hb.low hg (read_low' hr) hd hin w c he')
  exact ⟨t, h1, h2, h3, h4.resolve_left (by intro h; cases h)⟩
noncomputable def R_froms : Con := runFn (tb [(34, R_From), (24, conLL ndC ndC fSame)]) a14
theorem s_froms : SoundAt Try.prog 14 R_froms := run_sound (tb_sound (l := [(34, R_From), (24, conLL ndC ndC fSame)]) (by simpa using ⟨s_From, s_Same⟩)) mixed Try.func14 k14 c14
theorem n_froms : noNxtC a14.body = true := by kernel_rfl
theorem w_froms_nil {s : St} {v u : AV} {m : List Nd} (hu : read ndC s u = some m) (hm : m.length ≤ lim) (k c : Int) : ∀ env : Env, elen env = a14.ntmps → (∀ i x_, [.nilp, v, u, .int .i64 k, .int .i64 c][i]? = some x_ → E env i = x_) → awp (tb [(34, R_From), (24, conLL ndC ndC fSame)]) a14.body (fun x e t => (∀ i, x ≠ .exit i) ∧ aresults e t a14.results = some (.bool ((decide (([] : List Nd) = m) && decide (0 = k)) && decide (1 = c))) ∧ Keep s t) env s := by
  intro env hlen ha
  have h0 : E env 0 = _ := ha 0 _ rfl
  have h1 : E env 1 = _ := ha 1 _ rfl
  have h2 : E env 2 = _ := ha 2 _ rfl
  have h3 : E env 3 = _ := ha 3 _ rfl
  have h4 : E env 4 = _ := ha 4 _ rfl
  have hlen : elen env = _ := hlen
  simp only [a14] at hlen
  unfold a14
  try dsimp only [oO, oG]
  have q := q_From_nil false (s := s) (v := v)
  have qs := q_Same false (read_nils ndC s) hu (by simp) hm
  simp (config := {contextual := true, maxDischargeDepth := 12}) only [tb_at, h0, h1, h2, h3, h4, hlen, q, qs, ↓bD, bU, forall_const, List.all_cons, List.all_nil, Option.map_some, List.map_cons, List.map_nil, ne_eq, implies_true, isNx, cs_dec, cs_not, cs_and, cs_or, cs_valid, eq_self, ↓wp_cond, ↓wp_loop, ↓reduceIte, reduceCtorEq, Nat.reduceEqDiff, Nat.reduceLT, Nat.reduceAdd, Nat.reduceMul, Int.ofNat_lt, Int.ofNat_le, exists_const, ae_app, ap_slc, Option.map_none, mkR_none, mkR_some, ar_look, ae_mset, ae_rng, ae_mkmap0, ar_ent, lookV_push, lookV_lowed, msetV_push, msetV_lowed, lt_put, same_put, sto_over, sto_lowed, cs_dead, Option.map_some, beq_self_eq_true, decide_true, cs_true, cs_false, aa_bsl, ↓sg_bsl, ap_nchk, nchkV_ptr, bin_np, bin_npn, bin_npx, bin_npnx, ap_mm, mmV_max, mmV_min, res3, ↓st_callf, aa_mksl, ae_copy, ap_slc3, slc3V_all, bin_nss, bin_nsn, aa_bsl, extV_2, q_known]
theorem q_froms_nil (cl : Bool) {s : St} {v u : AV} {m : List Nd} (hu : read ndC s u = some m) (hm : m.length ≤ lim) (k c : Int) : acall R_froms cl [.nilp, v, u, .int .i64 k, .int .i64 c] s = some (.bool ((decide (([] : List Nd) = m) && decide (0 = k)) && decide (1 = c)), s) := run_same n_froms (by simp [a14]) rfl (w_froms_nil (s := lowd s) (read_low' hu) hm k c)

theorem betP_len (g : Nat) (ls : List (List Nd)) (f l : Int) : (betP g ls f l).1.length ≤ ls.flatten.length := by
  unfold betP
  repeat' split
  · simp
  · simp
  · refine Nat.le_trans (allP_len _) ?_
    refine Nat.le_trans (flat_take _ _) ?_
    conv => rhs; rw [← List.take_append_drop (f - (g + 1 : Nat)).toNat ls, List.flatten_append, List.length_append]
    omega
theorem frP_len (g : Nat) (ls : List (List Nd)) (n : Int) : (frP g ls n).1.length ≤ ls.flatten.length := by
  unfold frP
  repeat' split
  · simp
  · simp
  · exact betP_len _ _ _ _
  · simp
theorem w_froms {s : St} {id g : Nat} {dv : AV} {vs : List AV} {ls : List (List Nd)} (hb : BufR s id g dv vs ls) (hg : g + vs.length ≤ 1000000) (n : Int) (hfl : ls.flatten.length ≤ 100000) (hll : ls.length ≤ 100000) {u : AV} {m : List Nd} (hu : read ndC s u = some m) (hm : m.length ≤ lim) (k c : Int) : ∀ env : Env, elen env = a14.ntmps → (∀ i x_, [.ptr id 0, .int .i64 n, u, .int .i64 k, .int .i64 c][i]? = some x_ → E env i = x_) → awp (tb [(34, R_From), (24, conLL ndC ndC fSame)]) a14.body (fun x e t => (∀ i, x ≠ .exit i) ∧ aresults e t a14.results = some (.bool ((decide ((frP g ls n).1 = m) && decide ((frP g ls n).2.1 = k)) && decide ((frP g ls n).2.2 = c))) ∧ Keep s t) env s := by
  intro env hlen ha
  have h0 : E env 0 = _ := ha 0 _ rfl
  have h1 : E env 1 = _ := ha 1 _ rfl
  have h2 : E env 2 = _ := ha 2 _ rfl
  have h3 : E env 3 = _ := ha 3 _ rfl
  have h4 : E env 4 = _ := ha 4 _ rfl
  have hlen : elen env = _ := hlen
  simp only [a14] at hlen
  unfold a14
  try dsimp only [oO, oG]
  obtain ⟨v, t, hc, hO, hK⟩ := q_From hb hg n hfl hll
  have qs := q_Same false hO.read (hK.read hu) (by have := frP_len g ls n; unfold lim; omega) hm
  simp (config := {contextual := true, maxDischargeDepth := 12}) only [tb_at, h0, h1, h2, h3, h4, hlen, hc, qs, ↓bD, bU, forall_const, List.all_cons, List.all_nil, Option.map_some, List.map_cons, List.map_nil, ne_eq, implies_true, isNx, cs_dec, cs_not, cs_and, cs_or, cs_valid, eq_self, ↓wp_cond, ↓wp_loop, ↓reduceIte, reduceCtorEq, Nat.reduceEqDiff, Nat.reduceLT, Nat.reduceAdd, Nat.reduceMul, Int.ofNat_lt, Int.ofNat_le, exists_const, ae_app, ap_slc, Option.map_none, mkR_none, mkR_some, ar_look, ae_mset, ae_rng, ae_mkmap0, ar_ent, lookV_push, lookV_lowed, msetV_push, msetV_lowed, lt_put, same_put, sto_over, sto_lowed, cs_dead, Option.map_some, beq_self_eq_true, decide_true, cs_true, cs_false, aa_bsl, ↓sg_bsl, ap_nchk, nchkV_ptr, bin_np, bin_npn, bin_npx, bin_npnx, ap_mm, mmV_max, mmV_min, res3, ↓st_callf, aa_mksl, ae_copy, ap_slc3, slc3V_all, bin_nss, bin_nsn, aa_bsl, extV_2, q_known]
  exact hK
theorem q_froms (cl : Bool) {s : St} {id g : Nat} {dv : AV} {vs : List AV} {ls : List (List Nd)} (hb : BufR s id g dv vs ls) (hg : g + vs.length ≤ 1000000) (n : Int) (hfl : ls.flatten.length ≤ 100000) (hll : ls.length ≤ 100000) {u : AV} {m : List Nd} (hu : read ndC s u = some m) (hm : m.length ≤ lim) (k c : Int) : acall R_froms cl [.ptr id 0, .int .i64 n, u, .int .i64 k, .int .i64 c] s = some (.bool ((decide ((frP g ls n).1 = m) && decide ((frP g ls n).2.1 = k)) && decide ((frP g ls n).2.2 = c)), s) := run_same n_froms (by simp [a14]) rfl (w_froms (s := lowd s) hb.low hg n hfl hll (read_low' hu) hm k c)
noncomputable def R_betweens : Con := runFn (tb [(22, R_Between), (24, conLL ndC ndC fSame)]) a12
theorem s_betweens : SoundAt Try.prog 12 R_betweens := run_sound (tb_sound (l := [(22, R_Between), (24, conLL ndC ndC fSame)]) (by simpa using ⟨s_Between, s_Same⟩)) mixed Try.func12 k12 c12
theorem n_betweens : noNxtC a12.body = true := by kernel_rfl
theorem w_betweens_nil {s : St} {v w u : AV} {m : List Nd} (hu : read ndC s u = some m) (hm : m.length ≤ lim) (c : Int) : ∀ env : Env, elen env = a12.ntmps → (∀ i x_, [.nilp, v, w, u, .int .i64 c][i]? = some x_ → E env i = x_) → awp (tb [(22, R_Between), (24, conLL ndC ndC fSame)]) a12.body (fun x e t => (∀ i, x ≠ .exit i) ∧ aresults e t a12.results = some (.bool (decide (([] : List Nd) = m) && decide (1 = c))) ∧ Keep s t) env s := by
  intro env hlen ha
  have h0 : E env 0 = _ := ha 0 _ rfl
  have h1 : E env 1 = _ := ha 1 _ rfl
  have h2 : E env 2 = _ := ha 2 _ rfl
  have h3 : E env 3 = _ := ha 3 _ rfl
  have h4 : E env 4 = _ := ha 4 _ rfl
  have hlen : elen env = _ := hlen
  simp only [a12] at hlen
  unfold a12
  try dsimp only [oO, oG]
  have q := q_Between_nil false (s := s) (v := v) (w := w)
  have qs := q_Same false (read_nils ndC s) hu (by simp) hm
  simp (config := {contextual := true, maxDischargeDepth := 12}) only [tb_at, h0, h1, h2, h3, h4, hlen, q, qs, ↓bD, bU, forall_const, List.all_cons, List.all_nil, Option.map_some, List.map_cons, List.map_nil, ne_eq, implies_true, isNx, cs_dec, cs_not, cs_and, cs_or, cs_valid, eq_self, ↓wp_cond, ↓wp_loop, ↓reduceIte, reduceCtorEq, Nat.reduceEqDiff, Nat.reduceLT, Nat.reduceAdd, Nat.reduceMul, Int.ofNat_lt, Int.ofNat_le, exists_const, ae_app, ap_slc, Option.map_none, mkR_none, mkR_some, ar_look, ae_mset, ae_rng, ae_mkmap0, ar_ent, lookV_push, lookV_lowed, msetV_push, msetV_lowed, lt_put, same_put, sto_over, sto_lowed, cs_dead, Option.map_some, beq_self_eq_true, decide_true, cs_true, cs_false, aa_bsl, ↓sg_bsl, ap_nchk, nchkV_ptr, bin_np, bin_npn, bin_npx, bin_npnx, ap_mm, mmV_max, mmV_min, res3, ↓st_callf, aa_mksl, ae_copy, ap_slc3, slc3V_all, bin_nss, bin_nsn, aa_bsl, extV_2, q_known]
theorem q_betweens_nil (cl : Bool) {s : St} {v w u : AV} {m : List Nd} (hu : read ndC s u = some m) (hm : m.length ≤ lim) (c : Int) : acall R_betweens cl [.nilp, v, w, u, .int .i64 c] s = some (.bool (decide (([] : List Nd) = m) && decide (1 = c)), s) := run_same n_betweens (by simp [a12]) rfl (w_betweens_nil (s := lowd s) (read_low' hu) hm c)
theorem w_betweens {s : St} {id g : Nat} {dv : AV} {vs : List AV} {ls : List (List Nd)} (hb : BufR s id g dv vs ls) (hg : g + vs.length ≤ 1000000) (f l : Int) (hfl : ls.flatten.length ≤ 100000) (hll : ls.length ≤ 100000) {u : AV} {m : List Nd} (hu : read ndC s u = some m) (hm : m.length ≤ lim) (c : Int) : ∀ env : Env, elen env = a12.ntmps → (∀ i x_, [.ptr id 0, .int .i64 f, .int .i64 l, u, .int .i64 c][i]? = some x_ → E env i = x_) → awp (tb [(22, R_Between), (24, conLL ndC ndC fSame)]) a12.body (fun x e t => (∀ i, x ≠ .exit i) ∧ aresults e t a12.results = some (.bool (decide ((betP g ls f l).1 = m) && decide ((betP g ls f l).2 = c))) ∧ Keep s t) env s := by
  intro env hlen ha
  have h0 : E env 0 = _ := ha 0 _ rfl
  have h1 : E env 1 = _ := ha 1 _ rfl
  have h2 : E env 2 = _ := ha 2 _ rfl
  have h3 : E env 3 = _ := ha 3 _ rfl
  have h4 : E env 4 = _ := ha 4 _ rfl
  have hlen : elen env = _ := hlen
  simp only [a12] at hlen
  unfold a12
  try dsimp only [oO, oG]
  obtain ⟨v, t, hc, hO, hK⟩ := q_Between hb hg f l hfl hll
  have qs := q_Same false hO.read (hK.read hu) (by have := betP_len g ls f l; unfold lim; omega) hm
  simp (config := {contextual := true, maxDischargeDepth := 12}) only [tb_at, h0, h1, h2, h3, h4, hlen, hc, qs, ↓bD, bU, forall_const, List.all_cons, List.all_nil, Option.map_some, List.map_cons, List.map_nil, ne_eq, implies_true, isNx, cs_dec, cs_not, cs_and, cs_or, cs_valid, eq_self, ↓wp_cond, ↓wp_loop, ↓reduceIte, reduceCtorEq, Nat.reduceEqDiff, Nat.reduceLT, Nat.reduceAdd, Nat.reduceMul, Int.ofNat_lt, Int.ofNat_le, exists_const, ae_app, ap_slc, Option.map_none, mkR_none, mkR_some, ar_look, ae_mset, ae_rng, ae_mkmap0, ar_ent, lookV_push, lookV_lowed, msetV_push, msetV_lowed, lt_put, same_put, sto_over, sto_lowed, cs_dead, Option.map_some, beq_self_eq_true, decide_true, cs_true, cs_false, aa_bsl, ↓sg_bsl, ap_nchk, nchkV_ptr, bin_np, bin_npn, bin_npx, bin_npnx, ap_mm, mmV_max, mmV_min, res3, ↓st_callf, aa_mksl, ae_copy, ap_slc3, slc3V_all, bin_nss, bin_nsn, aa_bsl, extV_2, q_known]
  exact hK
theorem q_betweens (cl : Bool) {s : St} {id g : Nat} {dv : AV} {vs : List AV} {ls : List (List Nd)} (hb : BufR s id g dv vs ls) (hg : g + vs.length ≤ 1000000) (f l : Int) (hfl : ls.flatten.length ≤ 100000) (hll : ls.length ≤ 100000) {u : AV} {m : List Nd} (hu : read ndC s u = some m) (hm : m.length ≤ lim) (c : Int) : acall R_betweens cl [.ptr id 0, .int .i64 f, .int .i64 l, u, .int .i64 c] s = some (.bool (decide ((betP g ls f l).1 = m) && decide ((betP g ls f l).2 = c)), s) := run_same n_betweens (by simp [a12]) rfl (w_betweens (s := lowd s) hb.low hg f l hfl hll (read_low' hu) hm c)
noncomputable def R_forgets : Con := runFn (tb [(26, R_Forget)]) a16
theorem s_forgets : SoundAt Try.prog 16 R_forgets := run_sound (tb_sound (l := [(26, R_Forget)]) (by simpa using s_Forget)) mixed Try.func16 k16 c16
theorem n_forgets : noNxtC a16.body = true := by kernel_rfl
theorem w_forgets_nil {s : St} {v : AV} (w c : Int) : ∀ env : Env, elen env = a16.ntmps → (∀ i x_, [.nilp, v, .int .i64 w, .int .i64 c][i]? = some x_ → E env i = x_) → awp (tb [(26, R_Forget)]) a16.body (fun x e t => (∀ i, x ≠ .exit i) ∧ aresults e t a16.results = some (.bool (decide (0 = w) && decide (1 = c))) ∧ Keep s t) env s := by
  intro env hlen ha
  have h0 : E env 0 = _ := ha 0 _ rfl
  have h1 : E env 1 = _ := ha 1 _ rfl
  have h2 : E env 2 = _ := ha 2 _ rfl
  have h3 : E env 3 = _ := ha 3 _ rfl
  have hlen : elen env = _ := hlen
  simp only [a16] at hlen
  unfold a16
  try dsimp only [oO, oG]
  have q := q_Forget_nil false (s := s) (v := v)
  simp (config := {contextual := true, maxDischargeDepth := 12}) only [tb_at, h0, h1, h2, h3, hlen, q, ↓bD, bU, forall_const, List.all_cons, List.all_nil, Option.map_some, List.map_cons, List.map_nil, ne_eq, implies_true, isNx, cs_dec, cs_not, cs_and, cs_or, cs_valid, eq_self, ↓wp_cond, ↓wp_loop, ↓reduceIte, reduceCtorEq, Nat.reduceEqDiff, Nat.reduceLT, Nat.reduceAdd, Nat.reduceMul, Int.ofNat_lt, Int.ofNat_le, exists_const, ae_app, ap_slc, Option.map_none, mkR_none, mkR_some, ar_look, ae_mset, ae_rng, ae_mkmap0, ar_ent, lookV_push, lookV_lowed, msetV_push, msetV_lowed, lt_put, same_put, sto_over, sto_lowed, cs_dead, Option.map_some, beq_self_eq_true, decide_true, cs_true, cs_false, aa_bsl, ↓sg_bsl, ap_nchk, nchkV_ptr, bin_np, bin_npn, bin_npx, bin_npnx, ap_mm, mmV_max, mmV_min, res3, ↓st_callf, aa_mksl, ae_copy, ap_slc3, slc3V_all, bin_nss, bin_nsn, aa_bsl, extV_2, q_known]
theorem q_forgets_nil (cl : Bool) {s : St} {v : AV} (w c : Int) : acall R_forgets cl [.nilp, v, .int .i64 w, .int .i64 c] s = some (.bool (decide (0 = w) && decide (1 = c)), s) := run_same n_forgets (by simp [a16]) rfl (w_forgets_nil (s := lowd s) w c)
theorem w_forgets_err {s : St} {id g : Nat} {dv : AV} {vs : List AV} {ls : List (List Nd)} (hb : BufR s id g dv vs ls) (hg : g + vs.length ≤ 1000000) {u : Int} (w c : Int) {er : Int} (he : fgP g vs.length u = some er) : ∀ env : Env, elen env = a16.ntmps → (∀ i x_, [.ptr id 0, .int .i64 u, .int .i64 w, .int .i64 c][i]? = some x_ → E env i = x_) → awp (tb [(26, R_Forget)]) a16.body (fun x e t => (∀ i, x ≠ .exit i) ∧ aresults e t a16.results = some (.bool (decide (0 = w) && decide (er = c))) ∧ Keep s t) env s := by
  intro env hlen ha
  have h0 : E env 0 = _ := ha 0 _ rfl
  have h1 : E env 1 = _ := ha 1 _ rfl
  have h2 : E env 2 = _ := ha 2 _ rfl
  have h3 : E env 3 = _ := ha 3 _ rfl
  have hlen : elen env = _ := hlen
  simp only [a16] at hlen
  unfold a16
  try dsimp only [oO, oG]
  have q := q_Forget_err false hb hg he
  simp (config := {contextual := true, maxDischargeDepth := 12}) only [tb_at, h0, h1, h2, h3, hlen, q, ↓bD, bU, forall_const, List.all_cons, List.all_nil, Option.map_some, List.map_cons, List.map_nil, ne_eq, implies_true, isNx, cs_dec, cs_not, cs_and, cs_or, cs_valid, eq_self, ↓wp_cond, ↓wp_loop, ↓reduceIte, reduceCtorEq, Nat.reduceEqDiff, Nat.reduceLT, Nat.reduceAdd, Nat.reduceMul, Int.ofNat_lt, Int.ofNat_le, exists_const, ae_app, ap_slc, Option.map_none, mkR_none, mkR_some, ar_look, ae_mset, ae_rng, ae_mkmap0, ar_ent, lookV_push, lookV_lowed, msetV_push, msetV_lowed, lt_put, same_put, sto_over, sto_lowed, cs_dead, Option.map_some, beq_self_eq_true, decide_true, cs_true, cs_false, aa_bsl, ↓sg_bsl, ap_nchk, nchkV_ptr, bin_np, bin_npn, bin_npx, bin_npnx, ap_mm, mmV_max, mmV_min, res3, ↓st_callf, aa_mksl, ae_copy, ap_slc3, slc3V_all, bin_nss, bin_nsn, aa_bsl, extV_2, q_known]
theorem q_forgets_err (cl : Bool) {s : St} {id g : Nat} {dv : AV} {vs : List AV} {ls : List (List Nd)} (hb : BufR s id g dv vs ls) (hg : g + vs.length ≤ 1000000) {u : Int} (w c : Int) {er : Int} (he : fgP g vs.length u = some er) : acall R_forgets cl [.ptr id 0, .int .i64 u, .int .i64 w, .int .i64 c] s = some (.bool (decide (0 = w) && decide (er = c)), s) := run_same n_forgets (by simp [a16]) rfl (w_forgets_err (s := lowd s) hb.low hg w c he)
theorem w_forgets_ok {s : St} {id g : Nat} {dv : AV} {vs : List AV} {ls : List (List Nd)} (hb : BufR s id g dv vs ls) (hg : g + vs.length ≤ 1000000) {u : Int} (w c : Int) (h0u : 0 ≤ u) (hu : u ≤ ((g + vs.length : Nat) : Int)) : ∀ env : Env, elen env = a16.ntmps → (∀ i x_, [.ptr id 0, .int .i64 u, .int .i64 w, .int .i64 c][i]? = some x_ → E env i = x_) → awp (tb [(26, R_Forget)]) a16.body (fun x e t => (∀ i, x ≠ .exit i) ∧ ∃ r, aresults e t a16.results = some r ∧ (r = .bool (decide ((((u - (g : Int)).toNat : Nat) : Int) = w) && decide (0 = c)) ∧ ∃ dv' vs', BufR t id (g + (u - (g : Int)).toNat) dv' vs' (ls.drop (u - (g : Int)).toNat) ∧ ∀ j off n cap z, dv' = .sl j off n cap z → s.next ≤ j) ∧ Chg [id] s t ∧ (r.ground = false ∨ t.low < s.next)) env s := by
  intro env hlen ha
  have h0 : E env 0 = _ := ha 0 _ rfl
  have h1 : E env 1 = _ := ha 1 _ rfl
  have h2 : E env 2 = _ := ha 2 _ rfl
  have h3 : E env 3 = _ := ha 3 _ rfl
  have hlen : elen env = _ := hlen
  simp only [a16] at hlen
  unfold a16
  try dsimp only [oO, oG]
  obtain ⟨t, hq, ⟨dv', vs', x2, x3⟩, hC, hlow⟩ := q_Forget_ok hb hg h0u hu
  simp (config := {contextual := true, maxDischargeDepth := 12}) only [tb_at, h0, h1, h2, h3, hlen, hq, ↓bD, bU, forall_const, List.all_cons, List.all_nil, Option.map_some, List.map_cons, List.map_nil, ne_eq, implies_true, isNx, cs_dec, cs_not, cs_and, cs_or, cs_valid, eq_self, ↓wp_cond, ↓wp_loop, ↓reduceIte, reduceCtorEq, Nat.reduceEqDiff, Nat.reduceLT, Nat.reduceAdd, Nat.reduceMul, Int.ofNat_lt, Int.ofNat_le, exists_const, ae_app, ap_slc, Option.map_none, mkR_none, mkR_some, ar_look, ae_mset, ae_rng, ae_mkmap0, ar_ent, lookV_push, lookV_lowed, msetV_push, msetV_lowed, lt_put, same_put, sto_over, sto_lowed, cs_dead, Option.map_some, beq_self_eq_true, decide_true, cs_true, cs_false, aa_bsl, ↓sg_bsl, ap_nchk, nchkV_ptr, bin_np, bin_npn, bin_npx, bin_npnx, ap_mm, mmV_max, mmV_min, res3, ↓st_callf, aa_mksl, ae_copy, ap_slc3, slc3V_all, bin_nss, bin_nsn, aa_bsl, extV_2, q_known]
  exact ⟨_, rfl, ⟨rfl, dv', vs', x2, x3⟩, hC, .inr hlow⟩
theorem q_forgets_ok {s : St} {id g : Nat} {dv : AV} {vs : List AV} {ls : List (List Nd)} (hb : BufR s id g dv vs ls) (hg : g + vs.length ≤ 1000000) {u : Int} (w c : Int) (h0u : 0 ≤ u) (hu : u ≤ ((g + vs.length : Nat) : Int)) : ∃ t, acall R_forgets false [.ptr id 0, .int .i64 u, .int .i64 w, .int .i64 c] s = some (.bool (decide ((((u - (g : Int)).toNat : Nat) : Int) = w) && decide (0 = c)), t) ∧ (∃ dv' vs', BufR t id (g + (u - (g : Int)).toNat) dv' vs' (ls.drop (u - (g : Int)).toNat) ∧ ∀ j off n cap z, dv' = .sl j off n cap z → s.next ≤ j) ∧ Chg ([id]) s t ∧ t.low < s.next := by
  obtain ⟨r, t, h1, ⟨rfl, h2⟩, h3, h4⟩ := run_newl n_forgets (by simp [a16]) (Q := fun r t => r = .bool (decide ((((u - (g : Int)).toNat : Nat) : Int) = w) && decide (0 = c)) ∧ ∃ dv' vs', BufR t id (g + (u - (g : Int)).toNat) dv' vs' (ls.drop (u - (g : Int)).toNat) ∧ ∀ j off n cap z, dv' = .sl j off n cap z → s.next ≤ j) (fun r t t' hg hn hq => by
    have hmono : ∀ id b, t.get id = some b → t'.get id = some b := fun id b hb => by rw [hg]; exact hb
    obtain ⟨q1, dv', vs', q2, q3⟩ := hq
    exact ⟨q1, dv', vs', q2.mono hmono, q3⟩) (w_forgets_ok (s := lowd s) hb.low hg w c h0u hu)
  exact ⟨t, h1, h2, h3, h4.resolve_left (by intro h; cases h)⟩

end Go.AM
end
/-
  The row's last part: a call that leaves what was there alone, and answers true. Own work of this project.
-/
section
set_option linter.unusedVariables false
set_option linter.unusedSimpArgs false
namespace Go.AM
open Go Go.ChangeShapes Go.WideShapes Go.ChangeAt Go.RowKit

variable {H : Type} {enc : TypeId × Value → H} {P : Program}

theorem Clean.below {W W' : World} (h : Clean W W') : Below W.heap.size W W' := ⟨h.os, h.tape, h.output, h.size, h.block⟩
theorem Clean.frozen {W W' : World} (h : Clean W W') {a : Addr} (ha : a.block < W.heap.size) : W'.frozen? a = W.frozen? a := h.below.frozen ha

theorem trodAll_clean (hl : laidOutB P = true) {W W' : World} (hc : Clean W W') (sp : Nat → Bool) : ∀ {ts : List TypeId} {vs : List Value} {ds : List (DataW H)} {ps : List MemPlace}, (∀ t ∈ ts, P.readableRec t = true ∧ t < P.types.size) →
    DataW.TrodAll enc P W 0 (fun _ => true) true ts vs ds ps → (∀ p ∈ ps, sp p.block = true) → DataW.TrodAll enc P W' 0 sp true ts vs ds ps
  | [], vs, ds, ps, _, h, _ => by
    obtain ⟨rfl, rfl, rfl⟩ := trodAll_nil h
    rfl
  | t :: ts, vs, ds, ps, hr, h, hs => by
    obtain ⟨v, vs1, d, ds1, a, b, rfl, rfl, rfl, h1, h2⟩ := trodAll_cons h
    have hlt := DataW.TrodAll.lt h
    refine ⟨a, b, ?_, trodAll_clean hl hc sp (fun t ht => hr t (by simp [ht])) h2 fun p hp => hs p (by simp [hp]), rfl⟩
    exact WideElems.Trod_stays hl (hr t (by simp)).1 (hr t (by simp)).2 h1 (fun x hx => hc.below.same (hlt x (by simp [hx]))) fun x hx => hs x (by simp [hx])

theorem post_of_clean {f : Func} {s : ChangeSpec} {apart fresh handsOn again : Bool} {W W' : World} {args : Array Value} {ds gs : List (DataW H)} {before : List MemPlace} {tb : TypeId} (hl : laidOutB P = true)
    (hread : ∀ t ∈ f.params.toList, P.readableRec t = true ∧ t < P.types.size) (hW : DataW.Whole enc P f.params.toList s.vars apart W args.toList ds gs before) (hv : s.vars = [])
    (hres : (s.fn H (ds ++ gs)).results = [.lit (.bool true)]) (hargs : (s.fn H (ds ++ gs)).args = ds) (hvars : (s.fn H (ds ++ gs)).vars = []) (hrt : f.resultTypes = #[tb]) (hb : P.underlying tb = some .bool) (hc : Clean W W') :
    s.post enc P f apart fresh handsOn again W args (.bool true) W' := by
  have hlt : ∀ p ∈ before, p.block < W.heap.size := hW.lt
  have hW0 := hW
  obtain ⟨pa, pv, hA, hV, rfl, hz, hn⟩ := hW
  have hpv : pv = [] := by
    rw [hv] at hV
    cases gs with
    | nil => exact hV
    | cons g gs => exact hV.elim
  subst hpv
  simp only [List.append_nil] at hW0 hlt hz hn
  have hR : ∀ (b : Nat) (sp : Nat → Bool) (hd : Bool), DataW.TrodAll enc P W' b sp hd [tb] [.bool true] [.lit (.bool true)] [] := fun b sp hd => trodAll_mk1 (shut_bool hb true)
  have hrl : (Value.bool true).resultList f.resultTypes.size = [.bool true] := by simp [hrt, Value.resultList]
  refine ⟨ds, gs, pa, [], pa, [], hW0, ?_, ?_, ?_, ?_, fun _ => ⟨fun j t r h1 h2 => ?_, ?_⟩⟩
  · rw [hrl, hres, hrt]
    exact hR _ _ _
  · rw [hargs]
    exact trodAll_clean hl hc _ hread hA fun p hp => by simpa using hlt p hp
  · rw [hvars, hv]
    rfl
  · exact hc.below.frame _
  · rw [hrl] at h2
    rw [hrt] at h1
    cases j with
    | zero =>
      simp at h1 h2
      subst h1; subst h2
      simp [Value.okWide, hb, Cell.okWide, Cell.ok]
    | succ j => simp at h1
  · refine ⟨[.lit (.bool true)] ++ ds, [], pa, ⟨[] ++ pa, [], ?_, ?_, by simp, ?_, ?_⟩, fun p hp _ => hp⟩
    · rw [hrl, hrt]
      exact trodAll_append (trodAll_clean hl hc _ hread hA fun _ _ => rfl) (hR _ _ _)
    · rw [hv]
      rfl
    · intro b off hp
      rw [hc.frozen (hlt _ hp)]
      exact hz b off hp
    · intro ha
      simpa using hn ha

end Go.AM
end
/-
  From a row's reading of an argument to the abstract machine's memory. Own work of this project.
-/
section
set_option linter.unusedVariables false
set_option linter.unusedSimpArgs false
namespace Go.AM
open Go Go.ChangeShapes Go.WideShapes Go.ChangeAt Go.RowKit Go.Deep

/-- The kinds of plain cells. -/
inductive CK where
  | b | i (k : IntKind) | s
def CK.ok : CK → AV → Prop
  | .b, v => ∃ x, v = .bool x
  | .i k, v => ∃ n, v = .int k n ∧ (Lit.int k n).wf = true
  | .s, v => ∃ x, v = .str x
def CKs : List CK → List AV → Prop
  | [], vs => vs = []
  | k :: ks, vs => ∃ v r, vs = v :: r ∧ k.ok v ∧ CKs ks r
theorem CKs.append : ∀ {ks ks' : List CK} {vs vs' : List AV}, CKs ks vs → CKs ks' vs' → CKs (ks ++ ks') (vs ++ vs')
  | [], ks', vs, vs', h, h' => by simp only [CKs] at h; subst h; exact h'
  | k :: ks, ks', vs, vs', h, h' => by
    simp only [CKs] at h
    obtain ⟨v, r, rfl, h1, h2⟩ := h
    exact ⟨v, r ++ vs', rfl, h1, CKs.append h2 h'⟩
theorem CKs.len : ∀ {ks : List CK} {vs : List AV}, CKs ks vs → vs.length = ks.length
  | [], vs, h => by simp only [CKs] at h; subst h; rfl
  | k :: ks, vs, h => by
    simp only [CKs] at h
    obtain ⟨v, r, rfl, h1, h2⟩ := h
    simp [CKs.len h2]
theorem CK.ok_one {k : CK} {v : AV} (h : k.ok v) : v.one = true := by
  cases k <;> simp only [CK.ok] at h
  · obtain ⟨x, rfl⟩ := h; rfl
  · obtain ⟨x, rfl, _⟩ := h; rfl
  · obtain ⟨x, rfl⟩ := h; rfl
theorem CKs.one : ∀ {ks : List CK} {vs : List AV}, CKs ks vs → vs.all AV.one = true
  | [], vs, h => by simp only [CKs] at h; subst h; rfl
  | k :: ks, vs, h => by
    simp only [CKs] at h
    obtain ⟨v, r, rfl, h1, h2⟩ := h
    simp [CK.ok_one h1, CKs.one h2]

variable (P : Program)
def cks : Nat → TypeId → Option (List CK)
  | 0, _ => none
  | d + 1, t =>
    match P.underlying t with
    | some .bool => some [.b]
    | some (.int k) => some [.i k]
    | some .string => some [.s]
    | some (.struct fs) => cksF (cks d) fs.toList 0 (P.cellsOf t)
    | _ => none
where
  cksF (ok : TypeId → Option (List CK)) : List Field → Nat → Nat → Option (List CK)
    | [], at_, sz => if sz = at_ then some [] else none
    | f :: r, at_, sz =>
      if f.offset = at_ then
        match ok f.type with
        | some ks => if ks.length = P.cellsOf f.type then (cksF ok r (at_ + ks.length) sz).map (ks ++ ·) else none
        | none => none
      else none

variable {P}
variable {H : Type} {enc : TypeId × Value → H} {w : World} {base : Nat} {spare : Nat → Bool} {held : Bool}
def FlatOpen (P : Program) (enc : TypeId × Value → H) (w : World) (base : Nat) (spare : Nat → Bool) (held : Bool) (t : TypeId) (ks : List CK) : Prop :=
  ∀ (fuel : Nat) (cs : List Value) (x : DataW H × List MemPlace), DataW.trod enc P w base spare held fuel t cs = some x → ∃ vs, CKs ks vs ∧ ∀ ρ, VRs ρ vs cs
theorem flat_fields {ok : TypeId → Option (List CK)} (IH : ∀ t ks, ok t = some ks → FlatOpen P enc w base spare held t ks) {n : Nat} {cs : List Value} {sz : Nat} (hcs : cs.length = sz) : ∀ (fs : List Field) (at_ : Nat) (ks : List CK),
    cks.cksF P ok fs at_ sz = some ks → (∀ f ∈ fs, ∃ x, DataW.trod enc P w base spare held n f.type ((cs.drop f.offset).take (P.cellsOf f.type)) = some x) → ∃ vs, CKs ks vs ∧ ∀ ρ, VRs ρ vs (cs.drop at_)
  | [], at_, ks, h, _ => by
    simp only [cks.cksF] at h
    split at h
    · rename_i hsz
      injection h with h; subst h
      refine ⟨[], rfl, fun ρ => ?_⟩
      rw [List.drop_eq_nil_of_le (by omega)]
      exact VRs_nil
    · cases h
  | f :: r, at_, ks, h, hx => by
    simp only [cks.cksF] at h
    split at h
    · rename_i hoff
      split at h
      · rename_i ks1 hk
        split at h
        · rename_i hl
          obtain ⟨ks2, h2, rfl⟩ := Option.map_eq_some_iff.1 h
          obtain ⟨x, hxf⟩ := hx f (by simp)
          obtain ⟨vs1, c1, r1⟩ := IH f.type ks1 hk n _ x hxf
          obtain ⟨vs2, c2, r2⟩ := flat_fields IH hcs r (at_ + ks1.length) ks2 h2 fun g hg => hx g (by simp [hg])
          refine ⟨vs1 ++ vs2, c1.append c2, fun ρ => ?_⟩
          have := (r1 ρ).append (r2 ρ)
          rw [hoff, hl, ← List.drop_drop, List.take_append_drop] at this
          exact this
        · cases h
      · cases h
    · cases h
theorem flat_open : ∀ (d : Nat) (t : TypeId) (ks : List CK), cks P d t = some ks → FlatOpen P enc w base spare held t ks
  | 0, t, ks, h => by simp [cks] at h
  | d + 1, t, ks, h => by
    intro fuel cs x hx
    simp only [cks] at h
    split at h
    · rename_i hu
      injection h with h; subst h
      obtain ⟨b, rfl, _⟩ := DataW.trod_bool hu hx
      exact ⟨[.bool b], ⟨_, _, rfl, ⟨b, rfl⟩, rfl⟩, fun ρ => VRs_cons.2 ⟨by simp [VR], VRs_nil⟩⟩
    · rename_i k hu
      injection h with h; subst h
      obtain ⟨b, rfl, _, hw⟩ := DataW.trod_int hu hx
      exact ⟨[.int k b], ⟨_, _, rfl, ⟨b, rfl, hw⟩, rfl⟩, fun ρ => VRs_cons.2 ⟨by simp [VR], VRs_nil⟩⟩
    · rename_i hu
      injection h with h; subst h
      obtain ⟨b, rfl, _⟩ := DataW.trod_string hu hx
      exact ⟨[.str b], ⟨_, _, rfl, ⟨b, rfl⟩, rfl⟩, fun ρ => VRs_cons.2 ⟨by simp [VR], VRs_nil⟩⟩
    · rename_i fs hu
      obtain ⟨xs, n, _, _, hl, hxl, hf⟩ := DataW.trod_struct hu hx
      obtain ⟨vs, h1, h2⟩ := flat_fields (fun t ks hk => flat_open d t ks hk) hl fs.toList 0 ks h (n := n) fun f hmem => by
        obtain ⟨i, hi⟩ := List.getElem?_of_mem hmem
        have hi' : fs[i]? = some f := by simpa using hi
        have hlt : i < xs.length := by
          have := (Array.getElem?_eq_some_iff.1 hi').1
          omega
        exact ⟨xs[i], by rw [hf i f hi']; simp [hlt]⟩
      exact ⟨vs, h1, fun ρ => by simpa using h2 ρ⟩
    · cases h

theorem cell_some {a : Addr} {v : Value} (h : w.cell? a = some v) : ∃ cells el fr, w.heap[a.block]? = some (.cells cells el fr) ∧ a.spot = none := by
  unfold World.cell? at h
  split at h
  · rename_i c el fr hh
    split at h
    · cases h
    · rename_i hs
      exact ⟨c, el, fr, hh, by simpa using hs⟩
  · cases h
theorem addr_block (a : Addr) (i : Nat) : (a.add i).block = a.block := by unfold Addr.add; split <;> rfl
theorem addr_spot (a : Addr) (i : Nat) (h : (a.add i).spot = none) (h0 : i = 0 ∨ True) : i = 0 → a.spot = none := by
  intro hi
  subst hi
  unfold Addr.add at h
  simpa using h

/-- Cells, each kind in its turn, again and again. -/
def Rows (ks : List CK) (rows : List (List AV)) : Prop := ∀ r ∈ rows, CKs ks r
/-- A slice of plain elements: nil, or its elements lie in a row. -/
theorem slice_open {t e : TypeId} {ks : List CK} {d fuel : Nat} {cs : List Value} {x : DataW H × List MemPlace} (hu : P.underlying t = some (.slice e)) (hk : cks P d e = some ks) (hlen : ks.length = P.cellsOf e) (h0 : ks.length ≠ 0)
    (h : DataW.trod enc P w base (fun _ => true) held fuel t cs = some x) : cs = [.slice none 0 0] ∨
    (∃ a, cs = [.slice (some a) 0 0]) ∨
    ∃ (b off len cap : Nat) (cells : Array Value) (el : TypeId) (fr : Nat × Nat) (rows : List (List AV)), cs = [.slice (some ⟨b, off, none⟩) len cap] ∧ 0 < cap ∧ len ≤ cap ∧ cap ≤ maxLen ∧ w.heap[b]? = some (.cells cells el fr) ∧ off + cap * ks.length ≤ cells.size ∧
      rows.length = cap ∧ Rows ks rows ∧ ∀ ρ, VRs ρ rows.flatten ((cells.toList.drop off).take (cap * ks.length)) := by
  rcases open_slice hu h with ⟨rfl, _⟩ | ⟨a, len, cap, m, n, D, Pl, rfl, hb, hl, hm, hmm, _, hx⟩
  · exact .inl rfl
  right
  simp only [if_true] at hmm
  subst hmm
  by_cases hc : m = 0
  · left
    subst hc
    have : len = 0 := by omega
    subst this
    exact ⟨a, rfl⟩
  right
  have hcell : ∀ i, i < m → ∃ cs' vs, w.cells? base (a.add (i * P.cellsOf e)) (P.cellsOf e) = some cs' ∧ CKs ks vs ∧ ∀ ρ, VRs ρ vs cs' := by
    intro i hi
    obtain ⟨cs', h1, h2⟩ := hx i hi
    obtain ⟨vs, h3, h4⟩ := flat_open d e ks hk n cs' _ h2
    exact ⟨cs', vs, h1, h3, h4⟩
  -- the block
  obtain ⟨cs0, vs0, h1, _, _⟩ := hcell 0 (by omega)
  obtain ⟨_, hl0, hat0⟩ := World.cells?_some h1
  have hc0 := hat0 0 (by omega)
  obtain ⟨b, off, spot⟩ := a
  have hsome : ∃ v, cs0[0]? = some v := ⟨cs0[0]'(by omega), by simp⟩
  obtain ⟨v0, hv0⟩ := hsome
  rw [hv0] at hc0
  obtain ⟨cells, el, fr, hh, hsp⟩ := cell_some hc0
  rw [addr_block, addr_block] at hh
  simp only at hh
  have hspot : spot = none := by
    have h2 := addr_spot _ 0 hsp (.inl rfl) rfl
    have h3 := addr_spot _ (0 * P.cellsOf e) h2 (.inr trivial) (by simp)
    exact h3
  subst hspot
  have hat : ∀ i, i < m → ∃ vs, CKs ks vs ∧ off + (i + 1) * ks.length ≤ cells.size ∧ ∀ ρ, VRs ρ vs ((cells.toList.drop (off + i * ks.length)).take ks.length) := by
    intro i hi
    obtain ⟨cs', vs, e1, e2, e3⟩ := hcell i hi
    obtain ⟨_, hl', hat'⟩ := World.cells?_some e1
    have hget : ∀ j, j < P.cellsOf e → cells[off + i * P.cellsOf e + j]? = cs'[j]? := by
      intro j hj
      have := hat' j hj
      rw [addr_add, addr_add, cell_at hh] at this
      exact this
    have hsz : off + (i + 1) * ks.length ≤ cells.size := by
      have hj : P.cellsOf e - 1 < P.cellsOf e := by omega
      have := hget _ hj
      rw [List.getElem?_eq_getElem (by omega)] at this
      have hlt := (Array.getElem?_eq_some_iff.1 this).1
      rw [hlen, Nat.succ_mul]
      omega
    refine ⟨vs, e2, hsz, fun ρ => ?_⟩
    have : (cells.toList.drop (off + i * ks.length)).take ks.length = cs' := by
      apply List.ext_getElem?
      intro j
      by_cases hj : j < ks.length
      · rw [List.getElem?_take_of_lt hj, List.getElem?_drop, hlen]
        have := hget j (by omega)
        simpa using this
      · rw [List.getElem?_eq_none (by simp; omega), List.getElem?_eq_none (by omega)]
    rw [this]
    exact e3 ρ
  have hrows : ∀ k, k ≤ m → ∃ rows : List (List AV), rows.length = k ∧ Rows ks rows ∧ ∀ ρ, VRs ρ rows.flatten ((cells.toList.drop off).take (k * ks.length)) := by
    intro k
    induction k with
    | zero => exact fun _ => ⟨[], rfl, fun r hr => by simp at hr, fun ρ => by simpa using VRs_nil⟩
    | succ k ih =>
      intro hk'
      obtain ⟨rows, r1, r2, r3⟩ := ih (by omega)
      obtain ⟨vs, q1, q2, q3⟩ := hat k (by omega)
      refine ⟨rows ++ [vs], by simp [r1], fun r hr => ?_, fun ρ => ?_⟩
      · rcases List.mem_append.1 hr with hr | hr
        · exact r2 r hr
        · simp at hr; subst hr; exact q1
      · have := (r3 ρ).append (q3 ρ)
        rw [List.flatten_append, List.flatten_singleton, Nat.succ_mul]
        rw [← List.drop_drop, ← List.take_add] at this
        exact this
  obtain ⟨rows, r1, r2, r3⟩ := hrows m (Nat.le_refl _)
  obtain ⟨_, _, q2, _⟩ := hat (m - 1) (by omega)
  rw [show m - 1 + 1 = m by omega] at q2
  exact ⟨b, off, len, m, cells, el, fr, rows, rfl, by omega, hl, hm, hh, q2, r1, r2, r3⟩

end Go.AM
end
/-
  Arguments with slices in slices and in structs, opened into the abstract machine's memory. Own work of this project.
-/
section
set_option linter.unusedVariables false
set_option linter.unusedSimpArgs false
set_option maxRecDepth 100000
namespace Go.AM
open Go Go.ChangeShapes Go.WideShapes Go.ChangeAt Go.RowKit Go.Deep

/-- Some block of cells is there. -/
def HasCellsD (W : World) : Prop := ∃ (b : Nat) (cs : Array Value) (e : TypeId) (fr : Nat × Nat), W.heap[b]? = some (Obj.cells cs e fr)
theorem dummyD {W : World} (h : HasCellsD W) : ∃ L : Loc, L.b < W.heap.size ∧ ∀ ρ, BlkOk ρ L W (.row [] false) := by
  obtain ⟨b, cs, e, fr, hb⟩ := h
  refine ⟨⟨b, 0, cs.size⟩, (Array.getElem?_eq_some_iff.1 hb).1, fun ρ => ?_⟩
  simp only [BlkOk]
  exact ⟨cs, e, fr, hb, rfl, by simp, fun i v h => by simp at h, by simp, rfl⟩

section
variable (P : Program)
/-- What the memory shows at cells of a type. -/
def RdF (ok : TypeId → List AV → Prop) : List Field → List AV → Prop
  | [], vs => vs = []
  | f :: r, vs => ∃ a b, vs = a ++ b ∧ ok f.type a ∧ RdF ok r b
def RdT (s : St) : Nat → TypeId → List AV → Prop
  | 0, _, _ => False
  | d + 1, t, vs => match P.underlying t with
    | some .bool => ∃ x, vs = [.bool x]
    | some (.int k) => ∃ n, vs = [.int k n] ∧ (Lit.int k n).wf = true
    | some .string => ∃ x, vs = [.str x]
    | some (.struct fs) => RdF (RdT s d) fs.toList vs
    | some (.slice e) => vs = [.nils] ∨ ∃ (id n cap : Nat) (rows : List (List AV)), vs = [.sl id 0 n (some cap) (P.cellsOf e)] ∧ n ≤ cap ∧ cap ≤ maxLen ∧ rows.length = cap ∧ s.get id = some (.row rows.flatten false) ∧ ∀ r ∈ rows, RdT s d e r ∧ r.length = P.cellsOf e
    | _ => False
def okF (ok : TypeId → Bool) : List Field → Nat → Nat → Bool
  | [], at_, sz => decide (sz = at_)
  | f :: r, at_, sz => decide (f.offset = at_) && ok f.type && okF ok r (at_ + P.cellsOf f.type) sz
def okT : Nat → TypeId → Bool
  | 0, _ => false
  | d + 1, t => match P.underlying t with
    | some .bool | some (.int _) | some .string => true
    | some (.struct fs) => okF P (okT d) fs.toList 0 (P.cellsOf t)
    | some (.slice e) => decide (P.cellsOf e ≠ 0) && okT d e
    | _ => false
end

variable {P : Program} {H : Type} {enc : TypeId × Value → H} {W : World} {base : Nat} {held : Bool}
/-- Cells, and the blocks that they reach, numbered from 'start' on. -/
structure Opn (W : World) (Q : St → List AV → Prop) (start : Nat) (cs : List Value) (vs : List AV) (bl : List (AB × Loc)) : Prop where
  lt : ∀ p ∈ bl, p.2.b < W.heap.size
  own : ∀ p ∈ bl, p.1.owned = false
  vr : ∀ ρ : Ren, (∀ i p, bl[i]? = some p → ρ (start + i) = some p.2) → VRs ρ vs cs ∧ ∀ p ∈ bl, BlkOk ρ p.2 W p.1
  rd : ∀ s : St, (∀ i p, bl[i]? = some p → s.get (start + i) = some p.1) → Q s vs
  one : vs.all AV.one = true
  len : vs.length = cs.length
theorem Opn.plain {Q : St → List AV → Prop} {start : Nat} {cs : List Value} {vs : List AV} (h : ∀ ρ, VRs ρ vs cs) (hq : ∀ s, Q s vs) (ho : vs.all AV.one = true) (hl : vs.length = cs.length) : Opn W Q start cs vs [] :=
  ⟨by simp, by simp, fun ρ _ => ⟨h ρ, by simp⟩, fun s _ => hq s, ho, hl⟩
theorem Opn.app {Q1 Q2 : St → List AV → Prop} {start : Nat} {c1 c2 : List Value} {v1 v2 : List AV} {b1 b2 : List (AB × Loc)} (h : Opn W Q1 start c1 v1 b1) (k : Opn W Q2 (start + b1.length) c2 v2 b2) :
    Opn W (fun s _ => Q1 s v1 ∧ Q2 s v2) start (c1 ++ c2) (v1 ++ v2) (b1 ++ b2) := by
  have e1 : ∀ {i : Nat} {p}, b1[i]? = some p → (b1 ++ b2)[i]? = some p := fun {i p} hp => by
    rw [List.getElem?_append_left (List.getElem?_eq_some_iff.1 hp).1]; exact hp
  have e2 : ∀ {i : Nat} {p}, b2[i]? = some p → (b1 ++ b2)[b1.length + i]? = some p := fun {i p} hp => by
    rw [List.getElem?_append_right (by omega), Nat.add_sub_cancel_left]; exact hp
  refine ⟨fun p hp => ?_, fun p hp => ?_, fun ρ hρ => ?_, fun s hs => ⟨h.rd s fun i p hp => hs i p (e1 hp), k.rd s fun i p hp => ?_⟩, by simp [h.one, k.one], by simp [h.len, k.len]⟩
  · rcases List.mem_append.1 hp with q | q
    · exact h.lt p q
    · exact k.lt p q
  · rcases List.mem_append.1 hp with q | q
    · exact h.own p q
    · exact k.own p q
  · obtain ⟨r1, r2⟩ := h.vr ρ fun i p hp => hρ i p (e1 hp)
    obtain ⟨r3, r4⟩ := k.vr ρ fun i p hp => by have := hρ _ p (e2 hp); rwa [← Nat.add_assoc] at this
    refine ⟨r1.append r3, fun p hp => ?_⟩
    rcases List.mem_append.1 hp with q | q
    · exact r2 p q
    · exact r4 p q
  · have := hs _ p (e2 hp)
    rwa [← Nat.add_assoc] at this
theorem Opn.imp {Q Q' : St → List AV → Prop} {start : Nat} {cs : List Value} {vs : List AV} {bl : List (AB × Loc)} (h : Opn W Q start cs vs bl) (k : ∀ s, Q s vs → Q' s vs) : Opn W Q' start cs vs bl :=
  ⟨h.lt, h.own, h.vr, fun s hs => k s (h.rd s hs), h.one, h.len⟩

/-- A slice's place, its elements as they are read one by one. -/
theorem slice_geo {t e : TypeId} {fuel : Nat} {cs : List Value} {x : DataW H × List MemPlace} (hu : P.underlying t = some (.slice e)) (h0 : P.cellsOf e ≠ 0)
    (h : DataW.trod enc P W base (fun _ => true) held fuel t cs = some x) : cs = [.slice none 0 0] ∨ (∃ a, cs = [.slice (some a) 0 0]) ∨
    ∃ (b off len cap : Nat) (cells : Array Value) (el : TypeId) (fr : Nat × Nat) (n : Nat), cs = [.slice (some ⟨b, off, none⟩) len cap] ∧ 0 < cap ∧ len ≤ cap ∧ cap ≤ maxLen ∧ W.heap[b]? = some (.cells cells el fr) ∧ off + cap * P.cellsOf e ≤ cells.size ∧
      ∀ i, i < cap → ∃ x, DataW.trod enc P W base (fun _ => true) held n e ((cells.toList.drop (off + i * P.cellsOf e)).take (P.cellsOf e)) = some x := by
  rcases open_slice hu h with ⟨rfl, _⟩ | ⟨a, len, cap, m, n, D, Pl, rfl, hb, hl, hm, hmm, _, hx⟩
  · exact .inl rfl
  right
  simp only [if_true] at hmm
  subst hmm
  by_cases hc : m = 0
  · left
    subst hc
    have : len = 0 := by omega
    subst this
    exact ⟨a, rfl⟩
  right
  obtain ⟨cs0, h1, _⟩ := hx 0 (by omega)
  obtain ⟨_, hl0, hat0⟩ := World.cells?_some h1
  have hc0 := hat0 0 (by omega)
  obtain ⟨b, off, spot⟩ := a
  have hsome : ∃ v, cs0[0]? = some v := ⟨cs0[0]'(by omega), by simp⟩
  obtain ⟨v0, hv0⟩ := hsome
  rw [hv0] at hc0
  obtain ⟨cells, el, fr, hh, hsp⟩ := cell_some hc0
  rw [addr_block, addr_block] at hh
  simp only at hh
  have hspot : spot = none := by
    have h2 := addr_spot _ 0 hsp (.inl rfl) rfl
    have h3 := addr_spot _ (0 * P.cellsOf e) h2 (.inr trivial) (by simp)
    exact h3
  subst hspot
  have hat : ∀ i, i < m → off + (i + 1) * P.cellsOf e ≤ cells.size ∧ ∃ x, DataW.trod enc P W base (fun _ => true) held n e ((cells.toList.drop (off + i * P.cellsOf e)).take (P.cellsOf e)) = some x := by
    intro i hi
    obtain ⟨cs', e1, e2⟩ := hx i hi
    obtain ⟨_, hl', hat'⟩ := World.cells?_some e1
    have hget : ∀ j, j < P.cellsOf e → cells[off + i * P.cellsOf e + j]? = cs'[j]? := by
      intro j hj
      have := hat' j hj
      rw [addr_add, addr_add, cell_at hh] at this
      exact this
    have hsz : off + (i + 1) * P.cellsOf e ≤ cells.size := by
      have hj : P.cellsOf e - 1 < P.cellsOf e := by omega
      have := hget _ hj
      rw [List.getElem?_eq_getElem (by omega)] at this
      have hlt := (Array.getElem?_eq_some_iff.1 this).1
      rw [Nat.succ_mul]
      omega
    refine ⟨hsz, (D i, Pl i), ?_⟩
    have : (cells.toList.drop (off + i * P.cellsOf e)).take (P.cellsOf e) = cs' := by
      apply List.ext_getElem?
      intro j
      by_cases hj : j < P.cellsOf e
      · rw [List.getElem?_take_of_lt hj, List.getElem?_drop]
        have := hget j (by omega)
        simpa using this
      · rw [List.getElem?_eq_none (by simp; omega), List.getElem?_eq_none (by omega)]
    rw [this]
    exact e2
  obtain ⟨q2, _⟩ := hat (m - 1) (by omega)
  rw [show m - 1 + 1 = m by omega] at q2
  exact ⟨b, off, len, m, cells, el, fr, n, rfl, by omega, hl, hm, hh, q2, fun i hi => (hat i hi).2⟩

def DeepOk (P : Program) (enc : TypeId × Value → H) (W : World) (base : Nat) (held : Bool) (d : Nat) (t : TypeId) : Prop :=
  ∀ (fuel : Nat) (cs : List Value) (x : DataW H × List MemPlace), DataW.trod enc P W base (fun _ => true) held fuel t cs = some x → ∀ start, ∃ vs bl, Opn W (fun s vs => RdT P s d t vs) start cs vs bl

theorem deep_fields {d : Nat} (IH : ∀ t, okT P d t = true → DeepOk P enc W base held d t) {n : Nat} {cs : List Value} {sz : Nat} (hcs : cs.length = sz) : ∀ (fs : List Field) (at_ : Nat), okF P (okT P d) fs at_ sz = true →
    (∀ f ∈ fs, ∃ x, DataW.trod enc P W base (fun _ => true) held n f.type ((cs.drop f.offset).take (P.cellsOf f.type)) = some x) → ∀ start, ∃ vs bl, Opn W (fun s vs => RdF (RdT P s d) fs vs) start (cs.drop at_) vs bl
  | [], at_, h, _, start => by
    simp only [okF, decide_eq_true_eq] at h
    rw [List.drop_eq_nil_of_le (by omega)]
    exact ⟨[], [], .plain (fun _ => VRs_nil) (fun _ => rfl) rfl rfl⟩
  | f :: r, at_, h, hx, start => by
    simp only [okF, Bool.and_eq_true, decide_eq_true_eq] at h
    obtain ⟨⟨hoff, hok⟩, hr⟩ := h
    obtain ⟨x, hxf⟩ := hx f (by simp)
    obtain ⟨v1, b1, o1⟩ := IH f.type hok n _ x hxf start
    obtain ⟨v2, b2, o2⟩ := deep_fields IH hcs r (at_ + P.cellsOf f.type) hr (fun g hg => hx g (by simp [hg])) (start + b1.length)
    refine ⟨v1 ++ v2, b1 ++ b2, ?_⟩
    have := o1.app o2
    rw [hoff, ← List.drop_drop, List.take_append_drop] at this
    exact this.imp fun s q => ⟨v1, v2, rfl, q⟩
theorem deep_rows {d : Nat} {e : TypeId} {n : Nat} (IH : DeepOk P enc W base held d e) (cells : List Value) (off : Nat) : ∀ (k : Nat), off + k * P.cellsOf e ≤ cells.length →
    (∀ i, i < k → ∃ x, DataW.trod enc P W base (fun _ => true) held n e ((cells.drop (off + i * P.cellsOf e)).take (P.cellsOf e)) = some x) → ∀ start, ∃ (rows : List (List AV)) (bl : List (AB × Loc)), rows.length = k ∧
      Opn W (fun s _ => ∀ r ∈ rows, RdT P s d e r ∧ r.length = P.cellsOf e) start ((cells.drop off).take (k * P.cellsOf e)) rows.flatten bl
  | 0, _, _, start => ⟨[], [], rfl, .plain (fun _ => by simpa using VRs_nil) (fun _ r hr => by simp at hr) rfl (by simp)⟩
  | k + 1, hle, hx, start => by
    obtain ⟨rows, b1, h1, o1⟩ := deep_rows IH cells off k (by rw [Nat.succ_mul] at hle; omega) (fun i hi => hx i (by omega)) start
    obtain ⟨x, hxk⟩ := hx k (by omega)
    obtain ⟨v2, b2, o2⟩ := IH n _ x hxk (start + b1.length)
    refine ⟨rows ++ [v2], b1 ++ b2, by simp [h1], ?_⟩
    have hl2 : v2.length = P.cellsOf e := by
      rw [o2.len, List.length_take, List.length_drop]
      rw [Nat.succ_mul] at hle
      omega
    have := o1.app o2
    rw [List.flatten_append, List.flatten_singleton, Nat.succ_mul, List.take_add, List.drop_drop]
    refine this.imp fun s hq r hr => ?_
    rcases List.mem_append.1 hr with q | q
    · exact hq.1 r q
    · simp at q
      subst q
      exact ⟨hq.2, hl2⟩
theorem VRs.cell {ρ : Ren} {vs : List AV} {cs : List Value} (h : VRs ρ vs cs) {i : Nat} {v : AV} (hi : vs[i]? = some v) : ∃ c, cs[i]? = some c ∧ VR ρ v c := VRs.at_ i h hi
theorem deep_open (hc : HasCellsD W) : ∀ (d : Nat) (t : TypeId), okT P d t = true → DeepOk P enc W base held d t
  | 0, t, h => by simp [okT] at h
  | d + 1, t, h => by
    intro fuel cs x hx start
    simp only [okT] at h
    split at h
    · rename_i hu
      obtain ⟨b, rfl, _⟩ := DataW.trod_bool hu hx
      exact ⟨[.bool b], [], .plain (fun ρ => VRs_cons.2 ⟨by simp [VR], VRs_nil⟩) (fun s => by simp only [RdT, hu]; exact ⟨b, rfl⟩) rfl rfl⟩
    · rename_i k hu
      obtain ⟨b, rfl, _, hw⟩ := DataW.trod_int hu hx
      exact ⟨[.int k b], [], .plain (fun ρ => VRs_cons.2 ⟨by simp [VR], VRs_nil⟩) (fun s => by simp only [RdT, hu]; exact ⟨b, rfl, hw⟩) rfl rfl⟩
    · rename_i hu
      obtain ⟨b, rfl, _⟩ := DataW.trod_string hu hx
      exact ⟨[.str b], [], .plain (fun ρ => VRs_cons.2 ⟨by simp [VR], VRs_nil⟩) (fun s => by simp only [RdT, hu]; exact ⟨b, rfl⟩) rfl rfl⟩
    · rename_i fs hu
      obtain ⟨xs, n, _, _, hl, hxl, hf⟩ := DataW.trod_struct hu hx
      obtain ⟨vs, bl, ho⟩ := deep_fields (fun t hk => deep_open hc d t hk) hl fs.toList 0 h (n := n) (fun f hmem => by
        obtain ⟨i, hi⟩ := List.getElem?_of_mem hmem
        have hi' : fs[i]? = some f := by simpa using hi
        have hlt : i < xs.length := by
          have := (Array.getElem?_eq_some_iff.1 hi').1
          omega
        exact ⟨xs[i], by rw [hf i f hi']; simp [hlt]⟩) start
      rw [List.drop_zero] at ho
      exact ⟨vs, bl, ho.imp fun s q => by simp only [RdT, hu]; exact q⟩
    · rename_i e hu
      simp only [Bool.and_eq_true, decide_eq_true_eq] at h
      obtain ⟨L, hL1, hL2⟩ := dummyD hc
      rcases slice_geo hu h.1 hx with rfl | ⟨a, rfl⟩ | ⟨b, off, len, cap, cells, el, fr, n, rfl, h2, h3, h4, h5, h6, h7⟩
      · exact ⟨[.nils], [], .plain (fun ρ => VRs_cons.2 ⟨by simp [VR], VRs_nil⟩) (fun s => by simp only [RdT, hu]; exact .inl (by trivial)) rfl rfl⟩
      · refine ⟨[.sl start 0 0 (some 0) (P.cellsOf e)], [(.row [] false, L)], ?_, ?_, fun ρ hρ => ⟨VRs_cons.2 ⟨?_, VRs_nil⟩, ?_⟩, fun s hs => ?_, rfl, rfl⟩
        · intro p hp
          simp at hp
          subst hp
          exact hL1
        · intro p hp
          simp at hp
          subst hp
          rfl
        · simp only [VR]
          exact ⟨L, a, 0, hρ 0 _ rfl, rfl, Nat.le_refl _, fun k hk => by injection hk, .inl rfl⟩
        · intro p hp
          simp at hp
          subst hp
          exact hL2 ρ
        · simp only [RdT, hu]
          exact .inr ⟨start, 0, 0, [], rfl, Nat.le_refl _, Nat.zero_le _, rfl, hs 0 _ rfl, fun r hr => by simp at hr⟩
      · have hlt := (Array.getElem?_eq_some_iff.1 h5).1
        obtain ⟨rows, bl, hr1, ho⟩ := deep_rows (deep_open hc d e h.2) cells.toList off cap (by simpa using h6) h7 (start + 1)
        have hfl : rows.flatten.length = cap * P.cellsOf e := by
          rw [ho.len, List.length_take, List.length_drop]
          simp
          omega
        have hup : ∀ {ρ : Ren}, (∀ i p, ((AB.row rows.flatten false, (⟨b, off, cells.size⟩ : Loc)) :: bl)[i]? = some p → ρ (start + i) = some p.2) → ∀ i p, bl[i]? = some p → ρ (start + 1 + i) = some p.2 := fun hρ i p hp => by
          have := hρ (i + 1) p (by simpa using hp)
          rwa [show start + (i + 1) = start + 1 + i by omega] at this
        refine ⟨[.sl start 0 len (some cap) (P.cellsOf e)], (.row rows.flatten false, ⟨b, off, cells.size⟩) :: bl, ?_, ?_, fun ρ hρ => ?_, fun s hs => ?_, rfl, rfl⟩
        · intro p hp
          rcases List.mem_cons.1 hp with rfl | hp
          · exact hlt
          · exact ho.lt p hp
        · intro p hp
          rcases List.mem_cons.1 hp with rfl | hp
          · rfl
          · exact ho.own p hp
        · obtain ⟨r1, r2⟩ := ho.vr ρ (hup hρ)
          refine ⟨VRs_cons.2 ⟨?_, VRs_nil⟩, fun p hp => ?_⟩
          · simp only [VR]
            exact ⟨⟨b, off, cells.size⟩, ⟨b, off, none⟩, cap, hρ 0 _ rfl, rfl, h3, fun k hk => by injection hk, .inr ⟨by simp, by simpa using h6⟩⟩
          · rcases List.mem_cons.1 hp with rfl | hp
            · simp only [BlkOk]
              refine ⟨cells, el, fr, h5, rfl, by rw [hfl]; exact h6, fun i v hi => ?_, by simp, ho.one⟩
              have hi' := (List.getElem?_eq_some_iff.1 hi).1
              obtain ⟨c, hc1, hc2⟩ := r1.cell hi
              refine ⟨c, ?_, hc2⟩
              rw [List.getElem?_take_of_lt (by omega), List.getElem?_drop] at hc1
              simpa using hc1
            · exact r2 p hp
        · simp only [RdT, hu]
          refine .inr ⟨start, len, cap, rows, rfl, h3, h4, hr1, hs 0 _ rfl, ?_⟩
          refine ho.rd s fun i p hp => ?_
          have := hs (i + 1) p (by simpa using hp)
          rwa [show start + (i + 1) = start + 1 + i by omega] at this
    · cases h

/-! ### All arguments of a call -/
def argAV (P : Program) (t : TypeId) (vs : List AV) : AV := match P.underlying t with
  | some (.struct _) => .agg vs
  | _ => vs.headD .und
def RdA (P : Program) (s : St) (d : Nat) (t : TypeId) (v : AV) : Prop := ∃ vs, RdT P s d t vs ∧ v = argAV P t vs
def RdAs (P : Program) (s : St) (d : Nat) : List TypeId → List AV → Prop
  | [], xs => xs = []
  | t :: ts, xs => ∃ v r, xs = v :: r ∧ RdA P s d t v ∧ RdAs P s d ts r
structure OpnA (W : World) (Q : St → List AV → Prop) (start : Nat) (cs : List Value) (vs : List AV) (bl : List (AB × Loc)) : Prop where
  lt : ∀ p ∈ bl, p.2.b < W.heap.size
  own : ∀ p ∈ bl, p.1.owned = false
  vr : ∀ ρ : Ren, (∀ i p, bl[i]? = some p → ρ (start + i) = some p.2) → VRs ρ vs cs ∧ ∀ p ∈ bl, BlkOk ρ p.2 W p.1
  rd : ∀ s : St, (∀ i p, bl[i]? = some p → s.get (start + i) = some p.1) → Q s vs
theorem OpnA.cons {Q1 Q2 : St → List AV → Prop} {start : Nat} {c : Value} {cs : List Value} {v : AV} {vs : List AV} {b1 b2 : List (AB × Loc)} (h : OpnA W Q1 start [c] [v] b1) (k : OpnA W Q2 (start + b1.length) cs vs b2) :
    OpnA W (fun s _ => Q1 s [v] ∧ Q2 s vs) start (c :: cs) (v :: vs) (b1 ++ b2) := by
  have e1 : ∀ {i : Nat} {p}, b1[i]? = some p → (b1 ++ b2)[i]? = some p := fun {i p} hp => by
    rw [List.getElem?_append_left (List.getElem?_eq_some_iff.1 hp).1]; exact hp
  have e2 : ∀ {i : Nat} {p}, b2[i]? = some p → (b1 ++ b2)[b1.length + i]? = some p := fun {i p} hp => by
    rw [List.getElem?_append_right (by omega), Nat.add_sub_cancel_left]; exact hp
  refine ⟨fun p hp => ?_, fun p hp => ?_, fun ρ hρ => ?_, fun s hs => ⟨h.rd s fun i p hp => hs i p (e1 hp), k.rd s fun i p hp => ?_⟩⟩
  · rcases List.mem_append.1 hp with q | q
    · exact h.lt p q
    · exact k.lt p q
  · rcases List.mem_append.1 hp with q | q
    · exact h.own p q
    · exact k.own p q
  · obtain ⟨r1, r2⟩ := h.vr ρ fun i p hp => hρ i p (e1 hp)
    obtain ⟨r3, r4⟩ := k.vr ρ fun i p hp => by have := hρ _ p (e2 hp); rwa [← Nat.add_assoc] at this
    refine ⟨r1.append r3, fun p hp => ?_⟩
    rcases List.mem_append.1 hp with q | q
    · exact r2 p q
    · exact r4 p q
  · have := hs _ p (e2 hp)
    rwa [← Nat.add_assoc] at this
theorem arg_deep (hc : HasCellsD W) {d : Nat} {t : TypeId} (hok : okT P (d + 1) t = true) {v : Value} {x : DataW H} {p : List MemPlace} (h : DataW.Trod enc P W base (fun _ => true) held t v x p) {b0 : Nat} (hval : Value.okWide P W .any b0 t v) (start : Nat) :
    ∃ a bl, OpnA W (fun s _ => RdA P s (d + 1) t a) start [v] [a] bl := by
  obtain ⟨fuel, h⟩ := h
  obtain ⟨vs, bl, ho⟩ := deep_open hc (d + 1) t hok fuel _ _ h start
  have hone : ∀ (hv : v.cells.toList = [v]) (ha : argAV P t vs = vs.headD .und), ∃ a bl, OpnA W (fun s _ => RdA P s (d + 1) t a) start [v] [a] bl := by
    intro hv ha
    have hl := ho.len
    rw [hv] at hl
    match vs, hl with
    | [a], _ =>
      refine ⟨a, bl, ho.lt, ho.own, fun ρ hρ => ?_, fun s hs => ⟨[a], ho.rd s hs, by rw [ha]; rfl⟩⟩
      have := ho.vr ρ hρ
      rw [hv] at this
      exact this
  simp only [okT] at hok
  split at hok
  · rename_i hu
    obtain ⟨b, rfl⟩ := okWide_bool hu hval
    exact hone rfl (by simp [argAV, hu])
  · rename_i k hu
    obtain ⟨b, rfl⟩ := okWide_int hu hval
    exact hone rfl (by simp [argAV, hu])
  · rename_i hu
    obtain ⟨b, rfl⟩ := okWide_string hu hval
    exact hone rfl (by simp [argAV, hu])
  · rename_i fs hu
    obtain ⟨cs, rfl, _⟩ := okWide_struct hu hval
    refine ⟨.agg vs, bl, ho.lt, ho.own, fun ρ hρ => ?_, fun s hs => ⟨vs, ho.rd s hs, by simp [argAV, hu]⟩⟩
    obtain ⟨r1, r2⟩ := ho.vr ρ hρ
    refine ⟨VRs_cons.2 ⟨?_, VRs_nil⟩, r2⟩
    simp only [VR]
    exact ⟨cs.toList, by simp, r1⟩
  · rename_i e hu
    obtain ⟨a, len, cap, rfl⟩ := okWide_slice hu hval
    exact hone rfl (by simp [argAV, hu])
  · cases hok
theorem args_deep (hc : HasCellsD W) {d : Nat} : ∀ {ts : List TypeId} {vs : List Value} {ds : List (DataW H)} {ps : List MemPlace}, (∀ t ∈ ts, okT P (d + 1) t = true) → DataW.TrodAll enc P W base (fun _ => true) held ts vs ds ps →
    (∀ (j : Nat) t v, ts[j]? = some t → vs[j]? = some v → ∃ b0, Value.okWide P W .any b0 t v) → ∀ start, ∃ xs bl, OpnA W (fun s _ => RdAs P s (d + 1) ts xs) start vs xs bl
  | [], vs, ds, ps, _, h, _, start => by
    obtain ⟨rfl, rfl, rfl⟩ := trodAll_nil h
    exact ⟨[], [], by simp, by simp, fun ρ _ => ⟨VRs_nil, by simp⟩, fun s _ => rfl⟩
  | t :: ts, vs, ds, ps, hok, h, hval, start => by
    obtain ⟨v, vs1, x, ds1, a, b, rfl, rfl, rfl, h1, h2⟩ := trodAll_cons h
    obtain ⟨b0, hv⟩ := hval 0 t v rfl rfl
    obtain ⟨av, bl1, o1⟩ := arg_deep hc (hok t (by simp)) h1 hv start
    obtain ⟨xs, bl2, o2⟩ := args_deep hc (fun t' ht => hok t' (by simp [ht])) h2 (fun j t' v' e1 e2 => hval (j + 1) t' v' (by simpa using e1) (by simpa using e2)) (start + bl1.length)
    have := o1.cons o2
    exact ⟨av :: xs, bl1 ++ bl2, this.lt, this.own, this.vr, fun s hs => ⟨av, xs, rfl, this.rd s hs⟩⟩
open Classical in
noncomputable def lawC (P : Program) (d : Nat) (ts : List TypeId) : List AV → St → Option (AV × St) := fun xs s => if RdAs P s d ts xs then some (.bool true, { heap := s.heap, next := s.next, low := min s.low s.next }) else none
theorem deep_call {d : Nat} {ts : List TypeId} {args : List Value} {xs : List AV} {bl : List (AB × Loc)} (ho : OpnA W (fun s _ => RdAs P s d ts xs) 0 args xs bl) {f : Nat} (hs : SoundAt P f (lawC P d ts)) : Calls P f args.toArray W fun e W' => e = .returned (.bool true) ∧ Clean W W' := by
  obtain ⟨s0, hs0⟩ : ∃ s0 : St, s0 = ⟨(bl.map (·.1)).reverse, bl.length, 0⟩ := ⟨_, rfl⟩
  have hnx : s0.next = bl.length := by rw [hs0]
  have hget : ∀ i, s0.get i = (bl[i]?).map (·.1) := by
    intro i
    subst hs0
    unfold St.get
    simp only
    split
    · rename_i h
      rw [List.getElem?_reverse (by simp; omega)]
      simp only [List.length_map, List.getElem?_map]
      rw [show bl.length - 1 - (bl.length - 1 - i) = i by omega]
    · rename_i h
      rw [List.getElem?_eq_none (by omega)]
      rfl
  have hown : ∀ i b, s0.get i = some b → b.owned = false := by
    intro i b h
    rw [hget] at h
    obtain ⟨p, hp, rfl⟩ := Option.map_eq_some_iff.1 h
    exact ho.own p (List.mem_of_getElem? hp)
  obtain ⟨ρ, hρ⟩ : ∃ ρ : Ren, ρ = fun i => (bl[i]?).map (·.2) := ⟨_, rfl⟩
  have hρ1 : ∀ i p, bl[i]? = some p → ρ (0 + i) = some p.2 := fun i p hp => by rw [hρ, Nat.zero_add]; simp [hp]
  obtain ⟨hv, hb⟩ := ho.vr ρ hρ1
  have hR : R s0 ρ W := by
    refine ⟨fun i L h => ?_, fun i b L h1 h2 => ?_, fun i j L M bi bj _ _ _ e3 _ e5 _ => ?_⟩
    · rw [hρ] at h
      obtain ⟨p, hp, rfl⟩ := Option.map_eq_some_iff.1 h
      exact ho.lt p (List.mem_of_getElem? hp)
    · rw [hget] at h1
      rw [hρ] at h2
      obtain ⟨p, hp, rfl⟩ := Option.map_eq_some_iff.1 h1
      simp [hp] at h2
      subst h2
      exact hb p (List.mem_of_getElem? hp)
    · rw [hown i bi e3] at e5; cases e5
  have hrd := ho.rd s0 fun i p hp => by rw [Nat.zero_add, hget, hp]; rfl
  obtain ⟨_, _, h⟩ := hs xs s0 _ _ (by unfold lawC; rw [if_pos hrd])
  have := h ρ W args (fun i hi => by rw [hρ]; simp; omega) hR hv
  refine this.mono fun e W' hp => ?_
  obtain ⟨ρ', v, rfl, hv', hst, _⟩ := hp
  simp only [VR] at hv'
  subst hv'
  exact ⟨rfl, hst.size, hst.os, hst.tape, hst.output, hst.drawn, fun b hb => hst.frame b hb fun id L blk _ _ h1 h2 => by rw [hown id blk h1] at h2; cases h2⟩
theorem trodAll_len : ∀ {ts : List TypeId} {vs : List Value} {ds : List (DataW H)} {ps : List MemPlace}, DataW.TrodAll enc P W base (fun _ => true) held ts vs ds ps → ds.length = ts.length
  | [], vs, ds, ps, h => by
    obtain ⟨rfl, rfl, rfl⟩ := trodAll_nil h
    rfl
  | t :: ts, vs, ds, ps, h => by
    obtain ⟨v, vs1, x, ds1, a, b, rfl, rfl, rfl, h1, h2⟩ := trodAll_cons h
    simp [trodAll_len h2]
end Go.AM
end
/-
  What the arguments of the statements show: numbers, nodes, states, lists of states. Own work of this project.
-/
section
set_option linter.unusedVariables false
set_option linter.unusedSimpArgs false
set_option maxRecDepth 100000
namespace Go.AM
open Go Go.Proofs

variable {P : Program} {s : St}
theorem rd_cksF {ok : TypeId → Option (List CK)} {rd : TypeId → List AV → Prop} (IH : ∀ t ks vs, ok t = some ks → rd t vs → CKs ks vs) : ∀ (fs : List Field) (at_ sz : Nat) (ks : List CK) (vs : List AV),
    cks.cksF P ok fs at_ sz = some ks → RdF rd fs vs → CKs ks vs
  | [], at_, sz, ks, vs, h, hr => by
    simp only [cks.cksF] at h
    split at h
    · injection h with h; subst h
      exact hr
    · cases h
  | f :: r, at_, sz, ks, vs, h, hr => by
    simp only [cks.cksF] at h
    split at h
    · split at h
      · rename_i ks1 hk
        split at h
        · obtain ⟨ks2, h2, rfl⟩ := Option.map_eq_some_iff.1 h
          obtain ⟨a, b, rfl, h3, h4⟩ := hr
          exact (IH _ _ _ hk h3).append (rd_cksF IH r _ _ _ _ h2 h4)
        · cases h
      · cases h
    · cases h
theorem rd_cks : ∀ (d : Nat) (t : TypeId) (ks : List CK) (vs : List AV), cks P d t = some ks → RdT P s d t vs → CKs ks vs
  | 0, t, ks, vs, h, _ => by simp [cks] at h
  | d + 1, t, ks, vs, h, hr => by
    simp only [cks] at h
    split at h
    · rename_i hu
      injection h with h; subst h
      simp only [RdT, hu] at hr
      obtain ⟨x, rfl⟩ := hr
      exact ⟨_, _, rfl, ⟨x, rfl⟩, rfl⟩
    · rename_i k hu
      injection h with h; subst h
      simp only [RdT, hu] at hr
      obtain ⟨x, rfl, hw⟩ := hr
      exact ⟨_, _, rfl, ⟨x, rfl, hw⟩, rfl⟩
    · rename_i hu
      injection h with h; subst h
      simp only [RdT, hu] at hr
      obtain ⟨x, rfl⟩ := hr
      exact ⟨_, _, rfl, ⟨x, rfl⟩, rfl⟩
    · rename_i fs hu
      simp only [RdT, hu] at hr
      exact rd_cksF (fun t ks vs h1 h2 => rd_cks d t ks vs h1 h2) _ _ _ _ _ h hr
    · cases h
def ndKs : List CK := [.i .i64, .i .i64, .i .i64, .i .i64, .i .i64, .i .i32]
theorem nd_of_ks {r : List AV} (h : CKs ndKs r) : ∃ x : Nd, r = Nd.av x := by
  simp only [ndKs, CKs] at h
  obtain ⟨_, _, rfl, ⟨a, rfl, _⟩, _, _, rfl, ⟨b, rfl, _⟩, _, _, rfl, ⟨c, rfl, _⟩, _, _, rfl, ⟨d, rfl, _⟩, _, _, rfl, ⟨e, rfl, _⟩, _, _, rfl, ⟨x, rfl, _⟩, rfl⟩ := h
  exact ⟨⟨⟨a, b⟩, ⟨c, d⟩, e, x⟩, rfl⟩
theorem nds_of_rows : ∀ {rows : List (List AV)}, (∀ r ∈ rows, CKs ndKs r) → ∃ l : List Nd, rows.flatten = ndC.cells l ∧ l.length = rows.length
  | [], _ => ⟨[], rfl, rfl⟩
  | r :: rows, h => by
    obtain ⟨x, rfl⟩ := nd_of_ks (h r (by simp))
    obtain ⟨l, h1, h2⟩ := nds_of_rows (rows := rows) fun r' hr' => h r' (by simp [hr'])
    exact ⟨x :: l, by rw [List.flatten_cons, h1, cells_cons]; rfl, by simp [h2]⟩
theorem rd_slice {d : Nat} {t e : TypeId} {vs : List AV} (hu : P.underlying t = some (.slice e)) (h : RdT P s (d + 1) t vs) : vs = [.nils] ∨ ∃ (id n cap : Nat) (rows : List (List AV)), vs = [.sl id 0 n (some cap) (P.cellsOf e)] ∧ n ≤ cap ∧ cap ≤ maxLen ∧ rows.length = cap ∧ s.get id = some (.row rows.flatten false) ∧ ∀ r ∈ rows, RdT P s d e r ∧ r.length = P.cellsOf e := by
  simp only [RdT, hu] at h
  exact h
theorem st_under : Try.prog.underlying 31 = some (.slice 64) := by kernel_rfl
theorem nd_cells : Try.prog.cellsOf 64 = 6 := by kernel_rfl
theorem nd_cks4 : cks Try.prog 4 64 = some ndKs := by kernel_rfl
theorem nd_cks5 : cks Try.prog 5 64 = some ndKs := by kernel_rfl
theorem nd_cks6 : cks Try.prog 6 64 = some ndKs := by kernel_rfl
theorem nd_cks7 : cks Try.prog 7 64 = some ndKs := by kernel_rfl
theorem rd_state {d : Nat} (hd : cks Try.prog d 64 = some ndKs) {vs : List AV} (h : RdT Try.prog s (d + 1) 31 vs) : ∃ v l, vs = [v] ∧ read ndC s v = some l := by
  rcases rd_slice st_under h with rfl | ⟨id, n, cap, rows, rfl, h1, _, h3, h4, h5⟩
  · exact ⟨.nils, [], rfl, rfl⟩
  · obtain ⟨l, e1, e2⟩ := nds_of_rows fun r hr => rd_cks d _ _ _ hd (h5 r hr).1
    rw [nd_cells]
    refine ⟨_, l.take n, rfl, ?_⟩
    have hall : read ndC s (.sl id 0 cap (some cap) 6) = some l := by
      refine read_of (C := ndC) (by omega) h4 ?_ ?_
      · have : (ndC.cells l).length = l.length * 6 := cells_len ndC l
        rw [e1, this]
        show 0 + cap * 6 ≤ _
        omega
      · have : (ndC.cells l).length = l.length * 6 := cells_len ndC l
        rw [e1, List.drop_zero, show cap * ndC.sz = (ndC.cells l).length by rw [this]; show cap * 6 = _; omega, List.take_length]
    exact read_take hall n h1
theorem rd_int {d : Nat} {t : TypeId} {k : IntKind} {vs : List AV} (hu : P.underlying t = some (.int k)) (h : RdT P s (d + 1) t vs) : ∃ n, vs = [.int k n] ∧ (Lit.int k n).wf = true := by
  simp only [RdT, hu] at h
  exact h
theorem rda_int {d : Nat} {t : TypeId} {k : IntKind} {v : AV} (hu : P.underlying t = some (.int k)) (h : RdA P s (d + 1) t v) : ∃ n, v = .int k n ∧ (Lit.int k n).wf = true := by
  obtain ⟨vs, h1, rfl⟩ := h
  obtain ⟨n, rfl, hw⟩ := rd_int hu h1
  exact ⟨n, by simp [argAV, hu], hw⟩
theorem rda_state {d : Nat} (hd : cks Try.prog d 64 = some ndKs) {v : AV} (h : RdA Try.prog s (d + 1) 31 v) : ∃ l, read ndC s v = some l := by
  obtain ⟨vs, h1, rfl⟩ := h
  obtain ⟨v, l, rfl, hr⟩ := rd_state hd h1
  exact ⟨l, by simp [argAV, st_under, hr]⟩
theorem lawC_some {d : Nat} {ts : List TypeId} {xs : List AV} {r : AV} {s' : St} (h : lawC P d ts xs s = some (r, s')) : RdAs P s d ts xs ∧ r = .bool true ∧ s' = s.lowed := by
  unfold lawC at h
  split at h
  · rename_i hr
    injection h with h
    obtain ⟨rfl, rfl⟩ := Prod.mk.inj h
    exact ⟨hr, rfl, rfl⟩
  · cases h
theorem rdas_1 {d : Nat} {t : TypeId} {xs : List AV} (h : RdAs P s d [t] xs) : ∃ v, xs = [v] ∧ RdA P s d t v := by
  obtain ⟨v, r, rfl, h1, h2⟩ := h
  simp only [RdAs] at h2
  subst h2
  exact ⟨v, rfl, h1⟩
theorem rdas_cons {d : Nat} {t : TypeId} {ts : List TypeId} {xs : List AV} (h : RdAs P s d (t :: ts) xs) : ∃ v r, xs = v :: r ∧ RdA P s d t v ∧ RdAs P s d ts r := h
theorem rdas_2 {d : Nat} {t1 t2 : TypeId} {xs : List AV} (h : RdAs P s d [t1, t2] xs) : ∃ v w, xs = [v, w] ∧ RdA P s d t1 v ∧ RdA P s d t2 w := by
  obtain ⟨v, r, rfl, h1, h2⟩ := h
  obtain ⟨w, rfl, h3⟩ := rdas_1 h2
  exact ⟨v, w, rfl, h1, h3⟩
theorem rdas_3 {d : Nat} {t1 t2 t3 : TypeId} {xs : List AV} (h : RdAs P s d [t1, t2, t3] xs) : ∃ v w u, xs = [v, w, u] ∧ RdA P s d t1 v ∧ RdA P s d t2 w ∧ RdA P s d t3 u := by
  obtain ⟨v, r, rfl, h1, h2⟩ := h
  obtain ⟨w, u, rfl, h3, h4⟩ := rdas_2 h2
  exact ⟨v, w, u, rfl, h1, h3, h4⟩
end Go.AM
end
/-
  BufferNil in the abstract machine. Own work of this project; in part printed by a program of it.
-/
section
set_option linter.unusedVariables false
set_option linter.unusedSimpArgs false
set_option maxRecDepth 100000
set_option maxHeartbeats 8000000
namespace Go.AM
open Go Go.Proofs

variable {s t u : St}
theorem int_under : Try.prog.underlying 3 = some (.int .i64) := by kernel_rfl
theorem s_BufferNil : SoundAt Try.prog 7 (lawC Try.prog 8 [31, 3, 3]) :=
  con_keep (tb_sound (l := [(8, closed [] (.bool true)), (10, R_puts), (14, R_froms), (12, R_betweens), (16, R_forgets), (20, R_BFirst), (21, R_BLast), (19, R_BLen), (29, R_BCopy)]) (by simpa using ⟨s_known, s_puts, s_froms, s_betweens, s_forgets, s_BFirst, s_BLast, s_BLen, s_BCopy⟩)) mixed Try.func7 k7 c7 fun args s r s' h => by
    obtain ⟨hh, rfl, rfl⟩ := lawC_some h
    obtain ⟨v, w, u, rfl, hv, hw, hu⟩ := rdas_3 hh
    obtain ⟨l, hr⟩ := rda_state nd_cks7 hv
    obtain ⟨a, rfl, _⟩ := rda_int int_under hw
    obtain ⟨c, rfl, _⟩ := rda_int int_under hu
    refine ⟨rfl, rfl, by simp [a7], fun env hlen ha => ?_⟩
    have h0 : E env 0 = _ := ha 0 _ rfl
    have h1 : E env 1 = _ := ha 1 _ rfl
    have h2 : E env 2 = _ := ha 2 _ rfl
    have hlen : elen env = _ := hlen
    simp only [a7] at hlen
    unfold a7
    try dsimp only [oO, oG]
    have hL := lenV_read hr
    by_cases hz : (15 : Int) < (l.length : Int)
    · have hz1 := eq_true hz
      simp (config := {contextual := true, maxDischargeDepth := 12}) only [tb_at, h0, h1, h2, hlen, hL, hz1, ↓bD, bU, forall_const, List.all_cons, List.all_nil, Option.map_some, List.map_cons, List.map_nil, ne_eq, implies_true, isNx, cs_dec, cs_not, cs_and, cs_or, cs_valid, eq_self, ↓wp_cond, ↓wp_loop, ↓reduceIte, reduceCtorEq, Nat.reduceEqDiff, Nat.reduceLT, Nat.reduceAdd, Nat.reduceMul, Int.ofNat_lt, Int.ofNat_le, exists_const, ae_app, ap_slc, Option.map_none, mkR_none, mkR_some, ar_look, ae_mset, ae_rng, ae_mkmap0, ar_ent, lookV_push, lookV_lowed, msetV_push, msetV_lowed, lt_put, same_put, sto_over, sto_lowed, cs_dead, Option.map_some, beq_self_eq_true, decide_true, cs_true, cs_false, aa_bsl, ↓sg_bsl, ap_nchk, nchkV_ptr, bin_np, bin_npn, bin_npx, bin_npnx, ap_mm, mmV_max, mmV_min, res3, ↓st_callf, aa_mksl, ae_copy, ap_slc3, slc3V_all, bin_nss, bin_nsn, aa_bsl, extV_2, q_known]
    have hz1 := eq_false hz
    have p1 := q_puts_nil false (s := s) (v := v) 0 1
    have p2 := q_froms_nil false (s := s) (v := .int .i64 a) (read_nils ndC s) (by simp) 0 1
    have p3 := q_betweens_nil false (s := s) (v := .int .i64 a) (w := .int .i64 c) (read_nils ndC s) (by simp) 1
    have p4 := q_forgets_nil false (s := s) (v := .int .i64 a) 0 1
    have p5 := q_BFirst_nil false (s := s)
    have p6 := q_BLast_nil false (s := s)
    have p7 := q_BLen_nil false (s := s)
    have p8 := q_BCopy_nil false (s := s)
    simp (config := {contextual := true, maxDischargeDepth := 12}) only [tb_at, h0, h1, h2, hlen, hL, hz1, p1, p2, p3, p4, p5, p6, p7, p8, ↓bD, bU, forall_const, List.all_cons, List.all_nil, Option.map_some, List.map_cons, List.map_nil, ne_eq, implies_true, isNx, cs_dec, cs_not, cs_and, cs_or, cs_valid, eq_self, ↓wp_cond, ↓wp_loop, ↓reduceIte, reduceCtorEq, Nat.reduceEqDiff, Nat.reduceLT, Nat.reduceAdd, Nat.reduceMul, Int.ofNat_lt, Int.ofNat_le, exists_const, ae_app, ap_slc, Option.map_none, mkR_none, mkR_some, ar_look, ae_mset, ae_rng, ae_mkmap0, ar_ent, lookV_push, lookV_lowed, msetV_push, msetV_lowed, lt_put, same_put, sto_over, sto_lowed, cs_dead, Option.map_some, beq_self_eq_true, decide_true, cs_true, cs_false, aa_bsl, ↓sg_bsl, ap_nchk, nchkV_ptr, bin_np, bin_npn, bin_npx, bin_npnx, ap_mm, mmV_max, mmV_min, res3, ↓st_callf, aa_mksl, ae_copy, ap_slc3, slc3V_all, bin_nss, bin_nsn, aa_bsl, extV_2, q_known]

end Go.AM
end
/-
  Plain laws: the joins of a list of stores, one after the other. Own work of this project.
-/
section
set_option linter.unusedVariables false
set_option linter.unusedSimpArgs false
namespace Go.AM
open Go Go.Proofs

/-- Any two of them agree. -/
def PW (ls : List (List Nd)) : Prop := ∀ x ∈ ls, ∀ y ∈ ls, agreeL x y = true
def Stores (ls : List (List Nd)) : Prop := ∀ x ∈ ls, storeL x = true
def InF (ls : List (List Nd)) (n : Nd) : Prop := n ∈ ls.flatten
theorem nc_of_pw {ls : List (List Nd)} (hs : Stores ls) (h : PW ls) : NC (InF ls) := by
  intro x y hx hy e
  obtain ⟨l, hl, hxl⟩ := List.mem_flatten.1 hx
  obtain ⟨m, hm, hym⟩ := List.mem_flatten.1 hy
  exact (nc_agree (store_sorted (hs l hl)) (store_sorted (hs m hm))).1 (h l hl m hm) x y (.inl hxl) (.inr hym) e
theorem pw_of_nc {ls : List (List Nd)} (hs : Stores ls) (h : NC (InF ls)) : PW ls := fun l hl m hm =>
  (nc_agree (store_sorted (hs l hl)) (store_sorted (hs m hm))).2 (h.sub fun x hx => by
    rcases hx with hx | hx
    · exact List.mem_flatten.2 ⟨l, hl, hx⟩
    · exact List.mem_flatten.2 ⟨m, hm, hx⟩)
theorem fold_res_aux : ∀ (ls : List (List Nd)) (S : Nd → Prop) (j : List Nd), Stores ls → Res S j → NC (fun x => S x ∨ InF ls x) → Res (fun x => S x ∨ InF ls x) (ls.foldl refJ j)
  | [], S, j, _, h, _ => h.congr fun x => by simp [InF]
  | l :: ls, S, j, hs, h, hn => by
    have hl := store_sorted (hs l (by simp))
    have ha : agreeL j l = true := (nc_agree h.sorted hl).2 (hn.sub fun x hx => by
      rcases hx with hx | hx
      · exact .inl (h.sub x hx)
      · exact .inr (by simp [InF, hx]))
    have h1 := Res.step (T := (· ∈ l)) h (res_join h.sorted hl ha)
    have h2 := fold_res_aux ls (fun x => S x ∨ x ∈ l) (refJ j l) (fun x hx => hs x (by simp [hx])) h1 (hn.sub fun x hx => by
      unfold InF at *
      simp only [List.flatten_cons, List.mem_append]
      grind)
    exact h2.congr fun x => by
      unfold InF
      simp only [List.flatten_cons, List.mem_append]
      grind
theorem res_nil : Res (fun _ => False) [] := ⟨List.Pairwise.nil, fun _ h => by simp at h, fun _ h => by simp at h, fun _ h => h.elim⟩
theorem fold_res {ls : List (List Nd)} (hs : Stores ls) (hn : NC (InF ls)) : Res (InF ls) (ls.foldl refJ []) :=
  (fold_res_aux ls (fun _ => False) [] hs res_nil (hn.sub fun x hx => hx.resolve_left id)).congr fun x => by simp
theorem stores_all {ls : List (List Nd)} (hs : Stores ls) : ls.all storeL = true := List.all_eq_true.2 hs
theorem allP_fold {ls : List (List Nd)} (hs : Stores ls) (h : PW ls) : allP ls = (ls.foldl refJ [], 0) :=
  allP_res (stores_all hs) (fun x => Iff.rfl) (nc_of_pw hs h) (fold_res hs (nc_of_pw hs h))
theorem allP_not {ls : List (List Nd)} (hs : Stores ls) (h : ¬ PW ls) : allP ls = ([], 15) :=
  allP_clash (S := InF ls) (stores_all hs) (fun x => Iff.rfl) fun hn => h (pw_of_nc hs hn)
theorem fold_store {ls : List (List Nd)} (hs : Stores ls) (h : PW ls) : storeL (ls.foldl refJ []) = true :=
  store_of_res (fold_res hs (nc_of_pw hs h)) fun x hx => by
    obtain ⟨l, hl, hxl⟩ := List.mem_flatten.1 hx
    exact store_mem (hs l hl) hxl
/-- Each of them is within their join. -/
theorem fold_within {ls : List (List Nd)} (hs : Stores ls) (h : PW ls) {l : List Nd} (hl : l ∈ ls) : withinP l (ls.foldl refJ []) = (true, 0) := by
  obtain ⟨p1, p2, _, _⟩ := refJ_in (nc_of_pw hs h) (store_sorted (hs l hl)) (fold_res hs (nc_of_pw hs h)) fun x hx => List.mem_flatten.2 ⟨l, hl, hx⟩
  rw [withinP_ok (hs l hl) (fold_store hs h) p1, p2]
  simp
theorem PW.sub {ls ms : List (List Nd)} (h : PW ls) (k : ∀ x ∈ ms, x ∈ ls) : PW ms := fun x hx y hy => h x (k x hx) y (k y hy)
theorem Stores.sub {ls ms : List (List Nd)} (h : Stores ls) (k : ∀ x ∈ ms, x ∈ ls) : Stores ms := fun x hx => h x (k x hx)
theorem PW.app {ls : List (List Nd)} (h : PW ls) (hs : Stores ls) {d : List Nd} (hd : storeL d = true) (k : ∀ x ∈ ls, agreeL x d = true) : PW (ls ++ [d]) := by
  intro x hx y hy
  have key : ∀ z ∈ ls ++ [d], z ∈ ls ∨ z = d := fun z hz => by simpa using hz
  rcases key x hx with q | rfl <;> rcases key y hy with r | rfl
  · exact h x q y r
  · exact k x q
  · rw [← agree_symm (store_sorted (hs y r)) (store_sorted hd)]
    exact k y r
  · exact agree_self (store_sorted hd)
theorem Stores.app {ls : List (List Nd)} (hs : Stores ls) {d : List Nd} (hd : storeL d = true) : Stores (ls ++ [d]) := by
  intro x hx
  rcases List.mem_append.1 hx with hx | hx
  · exact hs x hx
  · simp at hx; subst hx; exact hd
/-! ### As a loop finds it out -/
def agB (ls : List (List Nd)) : Nat → Bool
  | 0 => true
  | i + 1 => agB ls i && (match ls[i]? with
    | some x => (ls.take i).all (agreeL x)
    | none => true)
theorem agB_step {ls : List (List Nd)} {i : Nat} {x : List Nd} (h : ls[i]? = some x) : agB ls (i + 1) = (agB ls i && (ls.take i).all (agreeL x)) := by
  rw [agB, h]
theorem agB_at {ls : List (List Nd)} : ∀ {n : Nat}, agB ls n = true → ∀ {i k : Nat} {x y : List Nd}, i < n → k < i → ls[i]? = some x → ls[k]? = some y → agreeL x y = true
  | 0, _, i, k, x, y, h, _, _, _ => by omega
  | n + 1, h, i, k, x, y, hi, hk, hx, hy => by
    rw [agB, Bool.and_eq_true] at h
    by_cases e : i = n
    · subst e
      have h2 := h.2
      rw [hx] at h2
      have h2 : (ls.take i).all (agreeL x) = true := h2
      refine List.all_eq_true.1 h2 y ?_
      have : (ls.take i)[k]? = some y := by rw [List.getElem?_take_of_lt hk]; exact hy
      exact List.mem_of_getElem? this
    · exact agB_at h.1 (by omega) hk hx hy
theorem agB_pw {ls : List (List Nd)} (hs : Stores ls) : agB ls ls.length = true ↔ PW ls := by
  constructor
  · intro h x hx y hy
    obtain ⟨i, hi⟩ := List.getElem?_of_mem hx
    obtain ⟨k, hk⟩ := List.getElem?_of_mem hy
    have li := (List.getElem?_eq_some_iff.1 hi).1
    have lk := (List.getElem?_eq_some_iff.1 hk).1
    rcases Nat.lt_trichotomy i k with q | q | q
    · rw [agree_symm (store_sorted (hs x hx)) (store_sorted (hs y hy))]
      exact agB_at h lk q hk hi
    · subst q
      rw [hi] at hk
      injection hk with hk
      subst hk
      exact agree_self (store_sorted (hs x hx))
    · exact agB_at h li q hi hk
  · intro h
    have key : ∀ n, n ≤ ls.length → agB ls n = true := by
      intro n
      induction n with
      | zero => exact fun _ => rfl
      | succ n ih =>
        intro hn
        have hx : ls[n]? = some ls[n] := by simp
        rw [agB_step hx, ih (by omega), Bool.true_and, List.all_eq_true]
        exact fun y hy => h _ (List.mem_of_getElem? hx) y (List.mem_of_mem_take hy)
    exact key _ (Nat.le_refl _)
theorem all_take {ls : List (List Nd)} {p : List Nd → Bool} {i : Nat} {x : List Nd} (h : ls[i]? = some x) : (ls.take (i + 1)).all p = ((ls.take i).all p && p x) := by
  rw [List.take_add_one, h]
  simp [List.all_append]
end Go.AM
end
/-
  BufferFulls in the abstract machine. Own work of this project; in part printed by a program of it.
-/
section
set_option linter.unusedVariables false
set_option linter.unusedSimpArgs false
set_option maxRecDepth 100000
set_option maxHeartbeats 16000000
namespace Go.AM
open Go Go.Proofs

variable {s t u : St}
def nd1 (r x : Int) : Nd := ⟨⟨r, 1⟩, ⟨0, 0⟩, 1, x⟩
theorem bsl_nd {x : Nd} : bslV [.int .i64 0, .int .i64 0, .int .i64 0, .int .i64 0, .int .i64 0, .int .i32 0] 1 6 [(0, .agg (Nd.av x))] = some (fun id => .sl id 0 1 (some 1) 6, .row (Nd.av x) true) := nrfl rfl
theorem fstep_d0 (a : Int) (K : List AV → Option (List AV)) : fstep [.int .i64 0, .int .i64 0] 0 1 (.int .i64 a) K = K [.int .i64 a, .int .i64 0] := nrfl rfl
theorem fstep_d1 (a b : Int) (K : List AV → Option (List AV)) : fstep [.int .i64 a, .int .i64 0] 1 1 (.int .i64 b) K = K (Dot.av ⟨a, b⟩) := nrfl rfl
theorem fstep_nd2 (d : Dot) (K : List AV → Option (List AV)) : fstep [.int .i64 0, .int .i64 0, .int .i64 0, .int .i64 0, .int .i64 0, .int .i32 0] 0 2 (.agg (Dot.av d)) K = K (Nd.av ⟨d, ⟨0, 0⟩, 0, 0⟩) := nrfl rfl
theorem fstep_ndt (d : Dot) (k : Int) (K : List AV → Option (List AV)) : fstep (Nd.av ⟨d, ⟨0, 0⟩, 0, 0⟩) 4 1 (.int .i64 k) K = K (Nd.av ⟨d, ⟨0, 0⟩, k, 0⟩) := nrfl rfl
theorem fstep_ndx (d : Dot) (k x : Int) (K : List AV → Option (List AV)) : fstep (Nd.av ⟨d, ⟨0, 0⟩, k, 0⟩) 5 1 (.int .i32 x) K = K (Nd.av ⟨d, ⟨0, 0⟩, k, x⟩) := nrfl rfl
noncomputable def R_one : Con := runFn (tb []) a17
theorem s_one : SoundAt Try.prog 17 R_one := run_sound (tb_sound (l := []) (by simp)) mixed Try.func17 k17 c17
theorem n_one : noNxtC a17.body = true := by kernel_rfl
theorem w_one {s : St} (rr ch : Int) : ∀ env : Env, elen env = a17.ntmps → (∀ i x_, [.int .i64 rr, .int .i32 ch][i]? = some x_ → E env i = x_) → awp (tb []) a17.body (fun x e t => (∀ i, x ≠ .exit i) ∧ ∃ r, aresults e t a17.results = some r ∧ r = .sl s.next 0 1 (some 1) 6 ∧ t = s.push (.row (Nd.av (nd1 rr ch)) true)) env s := by
  intro env hlen ha
  have h0 : E env 0 = _ := ha 0 _ rfl
  have h1 : E env 1 = _ := ha 1 _ rfl
  have hlen : elen env = _ := hlen
  simp only [a17] at hlen
  unfold a17
  try dsimp only [oO, oG]
  simp (config := {contextual := true, maxDischargeDepth := 12}) only [tb_at, h0, h1, hlen, ↓bD, bU, forall_const, List.all_cons, List.all_nil, Option.map_some, List.map_cons, List.map_nil, ne_eq, implies_true, isNx, cs_dec, cs_not, cs_and, cs_or, cs_valid, eq_self, ↓wp_cond, ↓wp_loop, ↓reduceIte, reduceCtorEq, Nat.reduceEqDiff, Nat.reduceLT, Nat.reduceAdd, Nat.reduceMul, Int.ofNat_lt, Int.ofNat_le, exists_const, ae_app, ap_slc, Option.map_none, mkR_none, mkR_some, ar_look, ae_mset, ae_rng, ae_mkmap0, ar_ent, lookV_push, lookV_lowed, msetV_push, msetV_lowed, lt_put, same_put, sto_over, sto_lowed, cs_dead, Option.map_some, beq_self_eq_true, decide_true, cs_true, cs_false, aa_bsl, ↓sg_bsl, ap_nchk, nchkV_ptr, bin_np, bin_npn, bin_npx, bin_npnx, ap_mm, mmV_max, mmV_min, res3, ↓st_callf, aa_mksl, ae_copy, ap_slc3, slc3V_all, bin_nss, bin_nsn, aa_bsl, extV_2, q_known, beq_self_eq_true, fstep_d0, fstep_d1, fstep_nd2, fstep_ndt, fstep_ndx, bsl_nd]
  exact ⟨_, rfl, rfl, rfl⟩
theorem q_one {s : St} (rr x : Int) : ∃ v t, acall R_one false [.int .i64 rr, .int .i32 x] s = some (v, t) ∧ NdR t v [nd1 rr x] ∧ Keep s t := by
  obtain ⟨r, t, h1, rfl, rfl⟩ := run_awp n_one (args := [.int .i64 rr, .int .i32 x]) (by simp [a17]) (Q := fun r t => r = .sl (lowd s).next 0 1 (some 1) 6 ∧ t = (lowd s).push (.row (Nd.av (nd1 rr x)) true)) (w_one (s := lowd s) rr x)
  obtain ⟨t', g1, g2, g3, g4⟩ := acall_new (M := []) h1 (((Keep.refl _).push _).chg []) (.inl rfl)
  have hg : t'.get s.next = some (.row (ndC.cells [nd1 rr x]) true) := by rw [g2]; exact St.get_push_new (lowd s) _
  exact ⟨_, t', g1, .inr ⟨s.next, 0, 1, some 1, [nd1 rr x], true, rfl, hg, read_of rfl hg (by rw [cells_len]; simp) rfl⟩, g4.keep⟩
/-! ### The same node again and again -/
def xA : Nd := nd1 1 120
def rep (n : Nat) : List (List Nd) := List.replicate n [xA]
theorem xA_store : storeL [xA] = true := by decide
theorem xA_sorted : [xA].Pairwise ltP := List.pairwise_singleton _ _
theorem xA_agree : agreeL [xA] [xA] = true := agree_self xA_sorted
theorem rep_stores (n : Nat) : Stores (rep n) := fun x hx => by rw [List.eq_of_mem_replicate hx]; exact xA_store
theorem rep_pw (n : Nat) : PW (rep n) := fun x hx y hy => by rw [List.eq_of_mem_replicate hx, List.eq_of_mem_replicate hy]; exact xA_agree
theorem rep_fold (n : Nat) : (rep (n + 1)).foldl refJ [] = [xA] := by
  refine Res.uniq (nc_of_pw (rep_stores _) (rep_pw _)) (fold_res (rep_stores _) (nc_of_pw (rep_stores _) (rep_pw _))) ?_
  have hm : ∀ z, InF (rep (n + 1)) z → z = xA := fun z hz => by
    obtain ⟨l, hl, hzl⟩ := List.mem_flatten.1 hz
    rw [List.eq_of_mem_replicate hl] at hzl
    simpa using hzl
  have hx : InF (rep (n + 1)) xA := List.mem_flatten.2 ⟨[xA], by simp [rep, List.mem_replicate], by simp⟩
  refine ⟨xA_sorted, fun y hy => ?_, fun y hy z hz e z0 => ?_, fun z hz => ⟨xA, by simp, by rw [hm z hz]⟩⟩
  · have : y = xA := by simpa using hy
    rw [this]; exact hx
  · have : y = xA := by simpa using hy
    rw [this, ← hm z hz]; exact z0
theorem rep_all (n : Nat) : allP (rep (n + 1)) = ([xA], 0) := by
  rw [allP_fold (rep_stores _) (rep_pw _), rep_fold]
theorem rep_put (n : Nat) (hn : n ≤ 1000) : putP (rep n) [xA] = if n = 1000 then some 7 else none := by
  have hl : (rep n).length = n := by simp [rep]
  unfold putP
  rw [if_neg (by simp [xA_store]), if_neg, hl]
  rintro ⟨x, hx, h⟩
  rw [List.eq_of_mem_replicate hx, agreeP_ok xA_store xA_store, xA_agree] at h
  cases h
theorem rep_bet (g n : Nat) : betP g (rep (n + 1)) ((g + 1 : Nat) : Int) ((g + (n + 1) : Nat) : Int) = ([xA], 0) := by
  have hl : (rep (n + 1)).length = n + 1 := by simp [rep]
  unfold betP
  rw [if_neg (by omega), if_neg (by rw [hl]; omega)]
  have e1 : (((g + 1 : Nat) : Int) - (g + 1 : Nat)).toNat = 0 := by simp
  have e2 : (((g + (n + 1) : Nat) : Int) - (g : Nat)).toNat = n + 1 := by omega
  rw [e1, e2, List.drop_zero, Nat.sub_zero, List.take_of_length_le (by omega)]
  exact rep_all n
theorem rep_fr (g n : Nat) : frP g (rep (n + 1)) ((g + 1 : Nat) : Int) = ([xA], ((g + (n + 1) : Nat) : Int), 0) := by
  have hl : (rep (n + 1)).length = n + 1 := by simp [rep]
  unfold frP
  rw [if_neg (by omega), hl, if_neg (by omega), rep_bet]
  rfl
theorem rep_flat (n : Nat) : (rep n).flatten.length = n := by
  unfold rep
  induction n with
  | zero => rfl
  | succ n ih => rw [List.replicate_succ, List.flatten_cons, List.length_append, ih]; simp; omega
theorem rep_app (n : Nat) : rep n ++ [[xA]] = rep (n + 1) := by
  unfold rep
  rw [List.replicate_succ']
theorem rep_drop (n k : Nat) : (rep n).drop k = rep (n - k) := by
  unfold rep
  rw [List.drop_replicate]
theorem rep_inner (n : Nat) : InnerOk (rep n) := fun x hx => by rw [List.eq_of_mem_replicate hx]; simp
theorem rep_len (n : Nat) : (rep n).length = n := by simp [rep]
theorem bufR_len {id g : Nat} {dv : AV} {vs : List AV} {ls : List (List Nd)} (h : BufR t id g dv vs ls) : vs.length = ls.length := h.2.2.len
theorem buf_apart {id g : Nat} {dv : AV} {vs : List AV} {ls : List (List Nd)} (h : BufR t id g dv vs ls) : Apart t (id :: outM dv vs) := Apart.app (M := [id]) (apart_two h.1) (apart_out h.2.1 h.2.2)
theorem s_BufferFulls : SoundAt Try.prog 4 (lawC Try.prog 8 [3, 3]) :=
  con_keep (tb_sound (l := [(8, closed [] (.bool true)), (17, R_one), (18, R_BPut), (10, R_puts), (14, R_froms), (16, R_forgets), (20, R_BFirst), (19, R_BLen)]) (by simpa using ⟨s_known, s_one, s_BPut, s_puts, s_froms, s_forgets, s_BFirst, s_BLen⟩)) mixed Try.func4 k4 c4 fun args s r s' h => by
    obtain ⟨hh, rfl, rfl⟩ := lawC_some h
    obtain ⟨v, w, rfl, hv, hw⟩ := rdas_2 hh
    obtain ⟨m, rfl, _⟩ := rda_int int_under hv
    obtain ⟨gn, rfl, _⟩ := rda_int int_under hw
    refine ⟨rfl, rfl, by simp [a4], fun env hlen ha => ?_⟩
    have h0 : E env 0 = _ := ha 0 _ rfl
    have h1 : E env 1 = _ := ha 1 _ rfl
    have hlen : elen env = _ := hlen
    simp only [a4] at hlen
    unfold a4
    try dsimp only [oO, oG]
    by_cases hz : ((m < 998 ∨ 1002 < m) ∨ gn < 1) ∨ 998 < gn
    · have hz1 : (((decide (m < 998) || decide (1002 < m)) || decide (gn < 1)) || decide (998 < gn)) = true := by simpa using hz
      simp (config := {contextual := true, maxDischargeDepth := 12}) only [tb_at, h0, h1, hlen, hz1, ↓bD, bU, forall_const, List.all_cons, List.all_nil, Option.map_some, List.map_cons, List.map_nil, ne_eq, implies_true, isNx, cs_dec, cs_not, cs_and, cs_or, cs_valid, eq_self, ↓wp_cond, ↓wp_loop, ↓reduceIte, reduceCtorEq, Nat.reduceEqDiff, Nat.reduceLT, Nat.reduceAdd, Nat.reduceMul, Int.ofNat_lt, Int.ofNat_le, exists_const, ae_app, ap_slc, Option.map_none, mkR_none, mkR_some, ar_look, ae_mset, ae_rng, ae_mkmap0, ar_ent, lookV_push, lookV_lowed, msetV_push, msetV_lowed, lt_put, same_put, sto_over, sto_lowed, cs_dead, Option.map_some, beq_self_eq_true, decide_true, cs_true, cs_false, aa_bsl, ↓sg_bsl, ap_nchk, nchkV_ptr, bin_np, bin_npn, bin_npx, bin_npnx, ap_mm, mmV_max, mmV_min, res3, ↓st_callf, aa_mksl, ae_copy, ap_slc3, slc3V_all, bin_nss, bin_nsn, aa_bsl, extV_2, q_known, beq_self_eq_true, fstep_d0, fstep_d1, fstep_nd2, fstep_ndt, fstep_ndx, bsl_nd]
    have hz1 : (((decide (m < 998) || decide (1002 < m)) || decide (gn < 1)) || decide (998 < gn)) = false := by simpa using hz
    obtain ⟨mm, rfl⟩ : ∃ mm : Nat, m = (mm : Int) := ⟨m.toNat, by omega⟩
    obtain ⟨k, rfl⟩ : ∃ k : Nat, gn = (k : Int) := ⟨gn.toNat, by omega⟩
    obtain ⟨t1, ht1⟩ : ∃ t1, t1 = s.push (.row [.int .i64 0, .nils] true) := ⟨_, rfl⟩
    have hbx := boxV_2 (a := .int .i64 0) (b := .nils) rfl rfl
    obtain ⟨vx, t2, hone, hndx, hK12⟩ := q_one (s := s.push (.row [.int .i64 0, .nils] true)) 1 120
    simp (config := {contextual := true, maxDischargeDepth := 12}) only [tb_at, h0, h1, hlen, hz1, hbx, hone, ↓bD, bU, forall_const, List.all_cons, List.all_nil, Option.map_some, List.map_cons, List.map_nil, ne_eq, implies_true, isNx, cs_dec, cs_not, cs_and, cs_or, cs_valid, eq_self, ↓wp_cond, ↓wp_loop, ↓reduceIte, reduceCtorEq, Nat.reduceEqDiff, Nat.reduceLT, Nat.reduceAdd, Nat.reduceMul, Int.ofNat_lt, Int.ofNat_le, exists_const, ae_app, ap_slc, Option.map_none, mkR_none, mkR_some, ar_look, ae_mset, ae_rng, ae_mkmap0, ar_ent, lookV_push, lookV_lowed, msetV_push, msetV_lowed, lt_put, same_put, sto_over, sto_lowed, cs_dead, Option.map_some, beq_self_eq_true, decide_true, cs_true, cs_false, aa_bsl, ↓sg_bsl, ap_nchk, nchkV_ptr, bin_np, bin_npn, bin_npx, bin_npnx, ap_mm, mmV_max, mmV_min, res3, ↓st_callf, aa_mksl, ae_copy, ap_slc3, slc3V_all, bin_nss, bin_nsn, aa_bsl, extV_2, q_known, beq_self_eq_true, fstep_d0, fstep_d1, fstep_nd2, fstep_ndt, fstep_ndx, bsl_nd]
    have hKs2 : Keep s t2 := ((Keep.refl s).push _).trans hK12
    have hB2 : BufR t2 s.next 0 .nils [] (rep (min 0 1000)) := ⟨hK12.blk (St.get_push_new _ _), .inl ⟨rfl, rfl⟩, trivial⟩
    obtain ⟨I, hI⟩ : ∃ I : Nat → Env → St → Prop, ∀ n e t, I n e t = (Keep s t ∧ ∃ i dv vs, i + n = mm ∧ elen e = 116 ∧ E e 0 = .int .i64 (mm : Int) ∧ E e 1 = .int .i64 (k : Int) ∧ E e 5 = .ptr s.next 0 ∧ E e 6 = vx ∧ E e 7 = .int .i64 (i : Int) ∧ BufR t s.next 0 dv vs (rep (min i 1000)) ∧ NdR t vx [xA] ∧ ∀ j off n cap z, dv = .sl j off n cap z → s.next ≤ j) := ⟨fun n e t => (Keep s t ∧ ∃ i dv vs, i + n = mm ∧ elen e = 116 ∧ E e 0 = .int .i64 (mm : Int) ∧ E e 1 = .int .i64 (k : Int) ∧ E e 5 = .ptr s.next 0 ∧ E e 6 = vx ∧ E e 7 = .int .i64 (i : Int) ∧ BufR t s.next 0 dv vs (rep (min i 1000)) ∧ NdR t vx [xA] ∧ ∀ j off n cap z, dv = .sl j off n cap z → s.next ≤ j), fun _ _ _ => rfl⟩
    refine lwp_inv I (n := mm) ?_ ?_
    · rw [hI]
      exact ⟨hKs2, 0, .nils, [], by omega, by simp only [E_pne, E_psame, elen_put, Nat.reduceEqDiff, ne_eq, not_false_eq_true, Nat.reduceLT, hlen], by simp only [E_pne, E_psame, elen_put, Nat.reduceEqDiff, ne_eq, not_false_eq_true, Nat.reduceLT, h0], by simp only [E_pne, E_psame, elen_put, Nat.reduceEqDiff, ne_eq, not_false_eq_true, Nat.reduceLT, h1], by simp only [E_pne, E_psame, elen_put, Nat.reduceEqDiff, ne_eq, not_false_eq_true, Nat.reduceLT, hlen], by simp only [E_pne, E_psame, elen_put, Nat.reduceEqDiff, ne_eq, not_false_eq_true, Nat.reduceLT, hlen], by simp only [E_pne, E_psame, elen_put, Nat.reduceEqDiff, ne_eq, not_false_eq_true, Nat.reduceLT, hlen]; rfl, hB2, hndx, fun _ _ _ _ _ e => by (cases e)⟩
    clear h0 h1 hlen ha hone hbx hK12 hB2 hndx hKs2
    intro n e t hi
    rw [hI] at hi
    obtain ⟨hK, i, dv, vs, hni, he, e0, e1, e5, e6, e7, hb, hnd, hfr⟩ := hi
    have hvl := bufR_len hb
    rw [rep_len] at hvl
    by_cases hlt : i < mm
    · have hz2 : ((i : Int) < (mm : Int)) = True := eq_true (by omega)
      have hw := wrap_add1 (n := i) (by omega)
      by_cases h1000 : i < 1000
      · have hz3 : ((i : Int) < 1000) = True := eq_true (by omega)
        have hz4 : ((1000 : Int) ≤ (i : Int)) = False := eq_false (by omega)
        have hmi : min i 1000 = i := by omega
        have hmi1 : min (i + 1) 1000 = i + 1 := by omega
        rw [hmi] at hb hvl
        obtain ⟨t', hq, ⟨dv', vs', hb', hfr', _⟩, hC, _⟩ := q_BPut_ok hb (by omega) hnd.read (by simp) (rep_inner i) (by rw [rep_put i (by omega), if_neg (by omega)])
        have hv : 0 + vs.length + 1 = i + 1 := by omega
        rw [hv] at hq
        rw [rep_app] at hb'
        simp (config := {contextual := true, maxDischargeDepth := 12}) only [tb_at, he, e0, e1, e5, e6, e7, hz2, hz3, hz4, hw, hq, ↓bD, bU, forall_const, List.all_cons, List.all_nil, Option.map_some, List.map_cons, List.map_nil, ne_eq, implies_true, isNx, cs_dec, cs_not, cs_and, cs_or, cs_valid, eq_self, ↓wp_cond, ↓wp_loop, ↓reduceIte, reduceCtorEq, Nat.reduceEqDiff, Nat.reduceLT, Nat.reduceAdd, Nat.reduceMul, Int.ofNat_lt, Int.ofNat_le, exists_const, ae_app, ap_slc, Option.map_none, mkR_none, mkR_some, ar_look, ae_mset, ae_rng, ae_mkmap0, ar_ent, lookV_push, lookV_lowed, msetV_push, msetV_lowed, lt_put, same_put, sto_over, sto_lowed, cs_dead, Option.map_some, beq_self_eq_true, decide_true, cs_true, cs_false, aa_bsl, ↓sg_bsl, ap_nchk, nchkV_ptr, bin_np, bin_npn, bin_npx, bin_npnx, ap_mm, mmV_max, mmV_min, res3, ↓st_callf, aa_mksl, ae_copy, ap_slc3, slc3V_all, bin_nss, bin_nsn, aa_bsl, extV_2, q_known, beq_self_eq_true, fstep_d0, fstep_d1, fstep_nd2, fstep_ndt, fstep_ndx, bsl_nd]
        refine ⟨n - 1, by omega, ?_⟩
        rw [hI]
        refine ⟨hK.chgn hC fun id hid => ?_, i + 1, dv', vs', by omega, by simp only [E_pne, E_psame, elen_put, Nat.reduceEqDiff, ne_eq, not_false_eq_true, Nat.reduceLT, he], by simp only [E_pne, E_psame, elen_put, Nat.reduceEqDiff, ne_eq, not_false_eq_true, Nat.reduceLT, e0], by simp only [E_pne, E_psame, elen_put, Nat.reduceEqDiff, ne_eq, not_false_eq_true, Nat.reduceLT, e1], by simp only [E_pne, E_psame, elen_put, Nat.reduceEqDiff, ne_eq, not_false_eq_true, Nat.reduceLT, e5], by simp only [E_pne, E_psame, elen_put, Nat.reduceEqDiff, ne_eq, not_false_eq_true, Nat.reduceLT, e6], by simp only [E_pne, E_psame, elen_put, Nat.reduceEqDiff, ne_eq, not_false_eq_true, Nat.reduceLT, he], by rw [hmi1]; exact hb', hnd.keep hC (buf_apart hb), fun j off n cap z e => Nat.le_trans hK.next (hfr' j off n cap z e)⟩
        rcases List.mem_cons.1 hid with rfl | hid
        · exact Nat.le_refl _
        · obtain ⟨off, n', cap, z, e⟩ := outM_in hid
          exact hfr _ _ _ _ _ e
      · have hz3 : ((i : Int) < 1000) = False := eq_false (by omega)
        have hz4 : ((1000 : Int) ≤ (i : Int)) = True := eq_true (by omega)
        have hmi : min i 1000 = 1000 := by omega
        have hmi1 : min (i + 1) 1000 = 1000 := by omega
        rw [hmi] at hb hvl
        have hq := q_BPut_err false hb (by omega) hnd.read (by simp) (rep_inner 1000) (er := 7) (by rw [rep_put 1000 (by omega), if_pos rfl])
        simp (config := {contextual := true, maxDischargeDepth := 12}) only [tb_at, he, e0, e1, e5, e6, e7, hz2, hz3, hz4, hw, hq, ↓bD, bU, forall_const, List.all_cons, List.all_nil, Option.map_some, List.map_cons, List.map_nil, ne_eq, implies_true, isNx, cs_dec, cs_not, cs_and, cs_or, cs_valid, eq_self, ↓wp_cond, ↓wp_loop, ↓reduceIte, reduceCtorEq, Nat.reduceEqDiff, Nat.reduceLT, Nat.reduceAdd, Nat.reduceMul, Int.ofNat_lt, Int.ofNat_le, exists_const, ae_app, ap_slc, Option.map_none, mkR_none, mkR_some, ar_look, ae_mset, ae_rng, ae_mkmap0, ar_ent, lookV_push, lookV_lowed, msetV_push, msetV_lowed, lt_put, same_put, sto_over, sto_lowed, cs_dead, Option.map_some, beq_self_eq_true, decide_true, cs_true, cs_false, aa_bsl, ↓sg_bsl, ap_nchk, nchkV_ptr, bin_np, bin_npn, bin_npx, bin_npnx, ap_mm, mmV_max, mmV_min, res3, ↓st_callf, aa_mksl, ae_copy, ap_slc3, slc3V_all, bin_nss, bin_nsn, aa_bsl, extV_2, q_known, beq_self_eq_true, fstep_d0, fstep_d1, fstep_nd2, fstep_ndt, fstep_ndx, bsl_nd]
        refine ⟨n - 1, by omega, ?_⟩
        rw [hI]
        exact ⟨hK, i + 1, dv, vs, by omega, by simp only [E_pne, E_psame, elen_put, Nat.reduceEqDiff, ne_eq, not_false_eq_true, Nat.reduceLT, he], by simp only [E_pne, E_psame, elen_put, Nat.reduceEqDiff, ne_eq, not_false_eq_true, Nat.reduceLT, e0], by simp only [E_pne, E_psame, elen_put, Nat.reduceEqDiff, ne_eq, not_false_eq_true, Nat.reduceLT, e1], by simp only [E_pne, E_psame, elen_put, Nat.reduceEqDiff, ne_eq, not_false_eq_true, Nat.reduceLT, e5], by simp only [E_pne, E_psame, elen_put, Nat.reduceEqDiff, ne_eq, not_false_eq_true, Nat.reduceLT, e6], by simp only [E_pne, E_psame, elen_put, Nat.reduceEqDiff, ne_eq, not_false_eq_true, Nat.reduceLT, he], by rw [hmi1]; exact hb, hnd, hfr⟩
    · have hin : i = mm := by omega
      subst hin
      have hz2 : ((i : Int) < (i : Int)) = False := eq_false (by omega)
      obtain ⟨q, hq⟩ : ∃ q, q + 1 = min i 1000 := ⟨min i 1000 - 1, by omega⟩
      rw [← hq] at hb hvl
      have hq1 : q + 1 ≤ 1000 := by omega
      have hmin : min (i : Int) 1000 = ((q + 1 : Nat) : Int) := by omega
      have p1 := q_BLen false hb (by omega)
      rw [hvl] at p1
      have hf1 := rep_fr 0 q
      have hone : ((0 + 1 : Nat) : Int) = 1 := rfl
      rw [hone] at hf1
      rw [Nat.zero_add] at hf1
      have p2 := q_froms false hb (by omega) 1 (by rw [rep_flat]; omega) (by rw [rep_len]; omega) hnd.read (by simp [lim]) ((q + 1 : Nat) : Int) 0
      rw [hf1] at p2
      simp only [decide_true, Bool.and_self] at p2
      obtain ⟨t3, p3, ⟨dv3, vs3, hb3, hfr3⟩, hC3, _⟩ := q_forgets_ok hb (by omega) (k : Int) 0 (by omega) (by omega : (k : Int) ≤ _)
      have hk0 : ((k : Int) - ((0 : Nat) : Int)).toNat = k := by omega
      rw [hk0] at p3 hb3
      rw [rep_drop, Nat.zero_add] at hb3
      simp only [decide_true, Bool.and_self] at p3
      have hv3 := bufR_len hb3
      rw [rep_len] at hv3
      have hnd3 := hnd.keep hC3 (fun id hid => buf_apart hb id (by simp at hid; simp [hid]))
      have hK3 := hK.chgn hC3 fun id hid => by simp at hid; omega
      have p4 := q_BLen false hb3 (by omega)
      rw [hv3] at p4
      have w4 : IntKind.i64.wrap (((q + 1 : Nat) : Int) - (k : Int)) = ((q + 1 - k : Nat) : Int) := by
        have e : ((q + 1 : Nat) : Int) - (k : Int) = ((q + 1 - k : Nat) : Int) := by omega
        rw [e]
        exact wrap_nat (by omega)
      have p5 := q_BFirst false hb3 (by omega)
      have w5 := wrap_add1 (n := k) (by omega)
      have w6 := wrap_add1 (n := q + 1) (by omega)
      obtain ⟨t4, p6, ⟨dv4, vs4, hb4, hfr4, _⟩, hC4, _⟩ := q_puts_ok hb3 (by omega) hnd3.read (by simp) (rep_inner _) ((q + 1 + 1 : Nat) : Int) 0 (by rw [rep_put _ (by omega), if_neg (by omega)])
      have hk6 : k + vs3.length + 1 = q + 1 + 1 := by omega
      rw [hk6] at p6
      simp only [decide_true, Bool.and_self] at p6
      rw [rep_app] at hb4
      have hv4 := bufR_len hb4
      rw [rep_len] at hv4
      have hnd4 := hnd3.keep hC4 (buf_apart hb3)
      have hK4 := hK3.chgn hC4 fun id hid => by
        rcases List.mem_cons.1 hid with rfl | hid
        · exact Nat.le_refl _
        · obtain ⟨off, n', cap, z, e⟩ := outM_in hid
          exact Nat.le_trans hK.next (hfr3 _ _ _ _ _ e)
      have hf7 := rep_fr k (q + 1 - k)
      have hk7 : k + (q + 1 - k + 1) = q + 1 + 1 := by omega
      rw [hk7] at hf7
      have p7 := q_froms false hb4 (by omega) ((k + 1 : Nat) : Int) (by rw [rep_flat]; omega) (by rw [rep_len]; omega) hnd4.read (by simp [lim]) ((q + 1 + 1 : Nat) : Int) 0
      rw [hf7] at p7
      simp only [decide_true, Bool.and_self] at p7
      simp (config := {contextual := true, maxDischargeDepth := 12}) only [tb_at, he, e0, e1, e5, e6, e7, hz2, hmin, p1, p2, p3, p4, w4, p5, w5, w6, p6, p7, ↓bD, bU, forall_const, List.all_cons, List.all_nil, Option.map_some, List.map_cons, List.map_nil, ne_eq, implies_true, isNx, cs_dec, cs_not, cs_and, cs_or, cs_valid, eq_self, ↓wp_cond, ↓wp_loop, ↓reduceIte, reduceCtorEq, Nat.reduceEqDiff, Nat.reduceLT, Nat.reduceAdd, Nat.reduceMul, Int.ofNat_lt, Int.ofNat_le, exists_const, ae_app, ap_slc, Option.map_none, mkR_none, mkR_some, ar_look, ae_mset, ae_rng, ae_mkmap0, ar_ent, lookV_push, lookV_lowed, msetV_push, msetV_lowed, lt_put, same_put, sto_over, sto_lowed, cs_dead, Option.map_some, beq_self_eq_true, decide_true, cs_true, cs_false, aa_bsl, ↓sg_bsl, ap_nchk, nchkV_ptr, bin_np, bin_npn, bin_npx, bin_npnx, ap_mm, mmV_max, mmV_min, res3, ↓st_callf, aa_mksl, ae_copy, ap_slc3, slc3V_all, bin_nss, bin_nsn, aa_bsl, extV_2, q_known, beq_self_eq_true, fstep_d0, fstep_d1, fstep_nd2, fstep_ndt, fstep_ndx, bsl_nd]
      exact hK4

end Go.AM
end
/-
  The program's buffer and the reference's, side by side. Own work of this project.
-/
section
set_option linter.unusedVariables false
set_option linter.unusedSimpArgs false
set_option maxRecDepth 100000
set_option maxHeartbeats 4000000
namespace Go.AM
open Go Go.Proofs

variable {s t u : St}
/-! ### Plain -/
theorem put_same {ls : List (List Nd)} {d : List Nd} (hs : Stores ls) (hl : ls.length < 1000) : putP ls d = rputP ls d := by
  unfold putP rputP
  by_cases hd : storeL d = false
  · rw [if_pos hd, if_pos hd]
  · rw [if_neg hd, if_neg hd]
    have hd : storeL d = true := by simpa using hd
    have e : (∃ x ∈ ls, (agreeP x d).1 = false) ↔ ∃ x ∈ ls, agreeL x d = false := by
      constructor
      · rintro ⟨x, hx, h⟩
        rw [agreeP_ok (hs x hx) hd] at h
        exact ⟨x, hx, h⟩
      · rintro ⟨x, hx, h⟩
        refine ⟨x, hx, ?_⟩
        rw [agreeP_ok (hs x hx) hd]
        exact h
    by_cases h : ∃ x ∈ ls, agreeL x d = false
    · rw [if_pos h, if_pos (e.2 h)]
    · rw [if_neg h, if_neg fun q => h (e.1 q), if_neg (by omega), if_neg (by omega)]
theorem put_none {ls : List (List Nd)} {d : List Nd} (h : rputP ls d = none) : storeL d = true ∧ ∀ x ∈ ls, agreeL x d = true := by
  unfold rputP at h
  split at h
  · cases h
  · rename_i h1
    split at h
    · cases h
    · rename_i h2
      exact ⟨by simpa using h1, fun x hx => by
        cases e : agreeL x d
        · exact absurd ⟨x, hx, e⟩ h2
        · rfl⟩
theorem bet_same {g : Nat} {all : List (List Nd)} (hs : Stores all) (hp : PW (all.drop g)) (hg : g ≤ all.length) (f l : Int) : betP g (all.drop g) f l = rbetP g all f l := by
  unfold betP rbetP
  by_cases h1 : f < 1 ∨ l < f
  · rw [if_pos h1, if_pos h1]
  · rw [if_neg h1, if_neg h1]
    have hl : (all.drop g).length = all.length - g := List.length_drop
    by_cases h2 : f ≤ (g : Int) ∨ (all.length : Int) < l
    · rw [if_pos h2, if_pos (by rw [hl]; omega)]
    · rw [if_neg h2, if_neg (by rw [hl]; omega)]
      have e1 : (all.drop g).drop (f - ((g + 1 : Nat) : Int)).toNat = all.drop (f - 1).toNat := by
        rw [List.drop_drop]
        congr 1
        omega
      have e2 : (l - (g : Int)).toNat - (f - ((g + 1 : Nat) : Int)).toNat = l.toNat - (f - 1).toNat := by omega
      rw [e1, e2]
      refine allP_fold (hs.sub fun x hx => List.mem_of_mem_drop (List.mem_of_mem_take hx)) (hp.sub fun x hx => ?_)
      rw [← e1] at hx
      exact List.mem_of_mem_drop (List.mem_of_mem_take hx)
theorem rbet_zero {g : Nat} {all : List (List Nd)} {f l : Int} (h : (rbetP g all f l).2 ≠ 0) : (rbetP g all f l).1 = [] := by
  unfold rbetP at *
  repeat' split
  all_goals simp_all
theorem fr_same {g : Nat} {all : List (List Nd)} (hs : Stores all) (hp : PW (all.drop g)) (hg : g ≤ all.length) (n : Int) : frP g (all.drop g) n = rfrP g all n := by
  have hl : (all.drop g).length = all.length - g := List.length_drop
  have e : ((g + (all.length - g) : Nat) : Int) = (all.length : Int) := by omega
  unfold frP rfrP
  rw [hl, e, bet_same hs hp hg]
  by_cases h1 : n < 1
  · rw [if_pos h1, if_pos h1]
  · rw [if_neg h1, if_neg h1]
    by_cases h2 : (all.length : Int) < n
    · rw [if_pos h2, if_pos (.inr h2)]
    · rw [if_neg h2]
      by_cases h3 : n ≤ (g : Int)
      · have hb : rbetP g all n (all.length : Int) = ([], 9) := by
          unfold rbetP
          rw [if_neg (by omega), if_pos (.inl h3)]
        rw [hb]
        simp [h3]
      · have hb : (rbetP g all n (all.length : Int)).2 = 0 := by
          unfold rbetP
          rw [if_neg (by omega), if_neg (by omega)]
        rw [if_pos hb, if_neg (by omega), hb]

/-! ### Both in memory -/
structure Both (s t : St) (ib ix : Nat) (all : List (List Nd)) (g : Nat) : Prop where
  keep : Keep s t
  ib0 : s.next ≤ ib
  ix0 : s.next ≤ ix
  ne : ib ≠ ix
  stores : Stores all
  pw : PW (all.drop g)
  hg : g ≤ all.length
  small : ∀ l ∈ all, l.length ≤ 15
  len : all.length ≤ 100
  mem : ∃ dv vs dw ws, BufR t ib g dv vs (all.drop g) ∧ RefR t ix dw ws all g ∧ (∀ j off n cap z, dv = .sl j off n cap z → s.next ≤ j) ∧ (∀ j off n cap z, dw = .sl j off n cap z → s.next ≤ j) ∧
    ∀ j off n cap z j' off' n' cap' z', dv = .sl j off n cap z → dw = .sl j' off' n' cap' z' → j ≠ j'
theorem Both.flat {s t : St} {ib ix g : Nat} {all : List (List Nd)} (h : Both s t ib ix all g) : all.flatten.length ≤ 1500 ∧ (all.drop g).flatten.length ≤ 1500 := by
  have key : ∀ (ls : List (List Nd)), (∀ l ∈ ls, l.length ≤ 15) → ls.flatten.length ≤ ls.length * 15 := by
    intro ls
    induction ls with
    | nil => simp
    | cons l ls ih =>
      intro h
      have h1 := h l (by simp)
      have h2 := ih fun l hl => h l (by simp [hl])
      simp only [List.flatten_cons, List.length_append, List.length_cons, Nat.succ_mul]
      omega
  have h1 := key all h.small
  have h2 := key (all.drop g) fun l hl => h.small l (List.mem_of_mem_drop hl)
  have h3 := h.len
  rw [List.length_drop] at h2
  exact ⟨by omega, by omega⟩
theorem Both.on {s t u : St} {ib ix g : Nat} {all : List (List Nd)} (h : Both s t ib ix all g) (hK : Keep t u) : Both s u ib ix all g := by
  obtain ⟨dv, vs, dw, ws, h1, h2, h3⟩ := h.mem
  exact ⟨h.keep.trans hK, h.ib0, h.ix0, h.ne, h.stores, h.pw, h.hg, h.small, h.len, dv, vs, dw, ws, h1.keep0 hK, h2.keep0 hK, h3⟩
theorem ref_apart {id g : Nat} {dv : AV} {vs : List AV} {ls : List (List Nd)} (h : RefR t id dv vs ls g) : Apart t [id] := apart_two h.1
theorem both_between {s t : St} {ib ix g : Nat} {all : List (List Nd)} (h : Both s t ib ix all g) (f l : Int) : ∃ v t1, acall R_RBetween false [.ptr ix 0, .int .i64 f, .int .i64 l] t = some (.tup [v, .int .i64 (rbetP g all f l).2], t1) ∧
    acall R_betweens false [.ptr ib 0, .int .i64 f, .int .i64 l, v, .int .i64 (rbetP g all f l).2] t1 = some (.bool true, t1) ∧ Own ndC t t1 v (rbetP g all f l).1 ∧ Keep t t1 := by
  obtain ⟨hf1, hf2⟩ := h.flat
  have hlen := h.len
  have hg := h.hg
  have hsame := bet_same h.stores h.pw h.hg f l
  obtain ⟨dv, vs, dw, ws, hB, hX, _⟩ := h.mem
  have e1 := hB.2.2.len
  have e2 := hX.2.2.len
  rw [List.length_drop] at e1
  obtain ⟨v, t1, hc, hO, hK⟩ := q_RBetween hX (by omega) (by omega) f l (by omega)
  have hl : (rbetP g all f l).1.length ≤ lim := by
    rw [← hsame]
    have := betP_len g (all.drop g) f l
    unfold lim
    omega
  have q := q_betweens false (hB.keep0 hK) (by omega) f l (by omega) (by rw [List.length_drop]; omega) hO.read hl (rbetP g all f l).2
  rw [hsame] at q
  simp only [decide_true, Bool.and_self] at q
  exact ⟨v, t1, hc, q, hO, hK⟩
theorem both_from {s t : St} {ib ix g : Nat} {all : List (List Nd)} (h : Both s t ib ix all g) (n : Int) : ∃ v t1, acall R_RFrom false [.ptr ix 0, .int .i64 n] t = some (.tup [v, .int .i64 (rfrP g all n).2.1, .int .i64 (rfrP g all n).2.2], t1) ∧ Own ndC t t1 v (rfrP g all n).1 ∧ Keep t t1 ∧ (rfrP g all n).1.length ≤ lim ∧
    ∀ t2, Both s t2 ib ix all g → read ndC t2 v = some (rfrP g all n).1 → acall R_froms false [.ptr ib 0, .int .i64 n, v, .int .i64 (rfrP g all n).2.1, .int .i64 (rfrP g all n).2.2] t2 = some (.bool true, t2) := by
  obtain ⟨hf1, hf2⟩ := h.flat
  have hlen := h.len
  have hg := h.hg
  have hsame := fr_same h.stores h.pw h.hg n
  obtain ⟨dv, vs, dw, ws, hB, hX, _⟩ := h.mem
  have e1 := hB.2.2.len
  have e2 := hX.2.2.len
  rw [List.length_drop] at e1
  obtain ⟨v, t1, hc, hO, hK⟩ := q_RFrom hX (by omega) (by omega) n (by omega)
  have hl : (rfrP g all n).1.length ≤ lim := by
    rw [← hsame]
    have := frP_len g (all.drop g) n
    unfold lim
    omega
  refine ⟨v, t1, hc, hO, hK, hl, fun t2 h2 hr => ?_⟩
  obtain ⟨dv, vs, dw, ws, hB, hX, _⟩ := h2.mem
  have e1 := hB.2.2.len
  rw [List.length_drop] at e1
  have q := q_froms false hB (by omega) n (by omega) (by rw [List.length_drop]; omega) hr hl (rfrP g all n).2.1 (rfrP g all n).2.2
  rw [hsame] at q
  simp only [decide_true, Bool.and_self] at q
  exact q
/-! ### Boxes of four cells, the first of which is a number -/
def Boxes (t u : St) : Prop := ∀ id k a b c d own, t.get id = some (.row [.int k a, b, c, d] own) → u.get id = some (.row [.int k a, b, c, d] own)
theorem Boxes.refl (t : St) : Boxes t t := fun _ _ _ _ _ _ _ h => h
theorem Boxes.trans {a b c : St} (h : Boxes a b) (k : Boxes b c) : Boxes a c := fun _ _ _ _ _ _ _ q => k _ _ _ _ _ _ _ (h _ _ _ _ _ _ _ q)
theorem Keep.boxes {t u : St} (h : Keep t u) : Boxes t u := fun _ _ _ _ _ _ _ q => h.blk q
theorem boxes_two {t u : St} {id : Nat} {a b : AV} {own : Bool} (h : t.get id = some (.row [a, b] own)) (hc : Chg [id] t u) : Boxes t u := fun i k x y z w o q => hc.blk q (by
  intro e
  simp at e
  subst e
  rw [h] at q
  injection q with q
  injection q with q
  simp at q)
theorem boxes_nd {t u : St} {id : Nat} {l : List Nd} {own : Bool} (h : t.get id = some (.row (ndC.cells l) own)) (hc : Chg [id] t u) : Boxes t u := fun i k x y z w o q => hc.blk q (by
  intro e
  simp at e
  subst e
  rw [h] at q
  injection q with q
  injection q with q
  have h1 : (ndC.cells l).length = l.length * 6 := cells_len ndC l
  rw [q] at h1
  simp at h1
  omega)
theorem boxes_buf {t u : St} {id g : Nat} {dv : AV} {vs : List AV} {ls : List (List Nd)} (h : BufR t id g dv vs ls) (hc : Chg (id :: outM dv vs) t u) : Boxes t u := fun i k x y z w o q => hc.blk q (by
  intro e
  rcases List.mem_cons.1 e with rfl | e
  · rw [h.1] at q
    injection q with q
    injection q with q
    simp at q
  · obtain ⟨off, n', cap, z', e1⟩ := outM_in e
    rcases h.2.1 with ⟨e2, _⟩ | ⟨j', cap', e2, hg, _⟩
    · rw [e2] at e1
      cases e1
    · rw [e1] at e2
      injection e2 with e2
      subst e2
      rw [hg] at q
      injection q with q
      injection q with q
      rcases h.2.2.cell (.int k x) (by rw [q]; simp) with e3 | ⟨_, _, _, _, e3⟩ <;> cases e3)
theorem both_forget {s t : St} {ib ix g : Nat} {all : List (List Nd)} (h : Both s t ib ix all g) (w : Int) : ∃ n e t1 t2 g', acall R_RForget false [.ptr ix 0, .int .i64 w] t = some (.tup [.int .i64 n, .int .i64 e], t1) ∧ Both s t1 ib ix all g' = Both s t1 ib ix all g' ∧
    (∃ dw ws, RefR t1 ix dw ws all g') ∧
    acall R_forgets false [.ptr ib 0, .int .i64 w, .int .i64 n, .int .i64 e] t1 = some (.bool true, t2) ∧ Both s t2 ib ix all g' ∧ Boxes t t1 ∧ Boxes t1 t2 := by
  have hlen := h.len
  have hg := h.hg
  obtain ⟨dv, vs, dw, ws, hB, hX, f1, f2, f3⟩ := h.mem
  have e1 := hB.2.2.len
  have e2 := hX.2.2.len
  rw [List.length_drop] at e1
  cases hf : rfgP ws.length w with
  | some er =>
    have q1 := q_RForget_err false hX (by omega) (by omega) hf
    have hf2 : fgP g vs.length w = some er := by
      rw [← hf]
      unfold fgP rfgP
      have : ((g + vs.length : Nat) : Int) = (ws.length : Int) := by omega
      rw [this]
    have q2 := q_forgets_err false hB (by omega) 0 er hf2
    simp only [decide_true, Bool.and_self] at q2
    exact ⟨0, er, t, t, g, q1, rfl, ⟨dw, ws, hX⟩, q2, h, .refl _, .refl _⟩
  | none =>
    have hw : 0 ≤ w ∧ w ≤ (ws.length : Int) := by
      unfold rfgP at hf
      split at hf
      · cases hf
      · split at hf
        · cases hf
        · omega
    obtain ⟨t1, q1, hX1, hC1, _⟩ := q_RForget_ok hX (by omega) (by omega) hw.1 hw.2
    have hne := h.ne
    have hap := ref_apart hX
    have hB1 : BufR t1 ib g dv vs (all.drop g) := hB.keep hC1 hap (by simpa using hne) (fun j off n cap z e => by
      have := out_two hX.1 hB.2.1 hB.2.2 (.inr ⟨_, _, rfl⟩) j off n cap z e
      simpa using this)
    obtain ⟨t2, q2, ⟨dv', vs', hB2, hfr⟩, hC2, _⟩ := q_forgets_ok hB1 (by omega) (((w - (g : Int)).toNat : Nat) : Int) 0 hw.1 (by omega)
    simp only [decide_true, Bool.and_self] at q2
    have hX2 : RefR t2 ix dw ws all (g + (w - (g : Int)).toNat) := hX1.keep hC2 (apart_two hB1.1) (by simpa using fun e => hne e.symm) (fun j off n cap z e => by
      have := out_two hB1.1 hX1.2.1 hX1.2.2 (.inl ⟨_, _, rfl⟩) j off n cap z e
      simpa using this)
    have hk1 : Keep s t1 := h.keep.chgn hC1 fun id hid => by simp at hid; subst hid; exact h.ix0
    have hk2 : Keep s t2 := hk1.chgn hC2 fun id hid => by simp at hid; subst hid; exact h.ib0
    rw [List.drop_drop] at hB2
    refine ⟨_, 0, t1, t2, g + (w - (g : Int)).toNat, q1, rfl, ⟨dw, ws, hX1⟩, q2, ⟨hk2, h.ib0, h.ix0, hne, h.stores, h.pw.sub fun x hx => ?_, by omega, h.small, hlen, dv', vs', dw, ws, hB2, hX2, fun j off n cap z e => Nat.le_trans hk1.next (hfr j off n cap z e), f2, fun j off n cap z j' off' n' cap' z' a b => ?_⟩, boxes_two hX.1 hC1, boxes_two hB1.1 hC2⟩
    · rw [← List.drop_drop] at hx
      exact List.mem_of_mem_drop hx
    · have := hfr j off n cap z a
      have := hX1.2.1.lt j' off' n' cap' z' b
      omega
/-- A delta is put into both; 'v' and 'v1' show it. -/
theorem both_put {s t : St} {ib ix g : Nat} {all : List (List Nd)} (h : Both s t ib ix all g) (hl99 : all.length < 100) {v v1 : AV} {d : List Nd} (hr : read ndC t v = some d) (hr1 : ∀ u, Chg [ix] t u → read ndC u v1 = some d) (hd : d.length ≤ 15) :
    ∃ n e t1 t2 all', acall R_RPut false [.ptr ix 0, v] t = some (.tup [.int .i64 n, .int .i64 e], t1) ∧ acall R_puts false [.ptr ib 0, v1, .int .i64 n, .int .i64 e] t1 = some (.bool true, t2) ∧ Both s t2 ib ix all' g ∧ (all' = all ∨ all' = all ++ [d]) ∧
      Chg [ix] t t1 ∧ ∃ M, Chg M t1 t2 ∧ Apart t1 M ∧ (∀ id ∈ M, s.next ≤ id) ∧ ∀ id ∈ M, ∃ a r, t1.get id = some (.row (a :: r) true) ∧ (r = [] ∨ (∃ k n, a = .int k n) ∨ True) := by
  have hlen := h.len
  have hg := h.hg
  have hne := h.ne
  obtain ⟨dv, vs, dw, ws, hB, hX, f1, f2, f3⟩ := h.mem
  have e1 := hB.2.2.len
  have e2 := hX.2.2.len
  rw [List.length_drop] at e1
  have hinX : InnerOk all := fun x hx => by have := h.small x hx; omega
  have hinB : InnerOk (all.drop g) := fun x hx => by have := h.small x (List.mem_of_mem_drop hx); omega
  have hsame := put_same (d := d) (h.stores.sub fun x hx => List.mem_of_mem_drop hx : Stores (all.drop g)) (by rw [List.length_drop]; omega)
  cases hp : rputP (all.drop g) d with
  | some er =>
    have q1 := q_RPut_err false hX (by omega) (by omega) hr (by omega) hinX hp
    have q2 := q_puts_err false hB (by omega) (hr1 t (.refl _ _)) (by omega) hinB 0 er (by rw [hsame]; exact hp)
    simp only [decide_true, Bool.and_self] at q2
    exact ⟨0, er, t, t, all, q1, q2, h, .inl rfl, .refl _ _, [], .refl _ _, .nil _, by simp, by simp⟩
  | none =>
    obtain ⟨hst, hag⟩ := put_none hp
    obtain ⟨t1, q1, ⟨dw', ws', hX1, fr1, nx1⟩, hC1, _⟩ := q_RPut_ok hX (by omega) (by omega) hr (by omega) hinX hp (by omega)
    have hB1 : BufR t1 ib g dv vs (all.drop g) := hB.keep hC1 (ref_apart hX) (by simpa using hne) (fun j off n cap z e => by
      have := out_two hX.1 hB.2.1 hB.2.2 (.inr ⟨_, _, rfl⟩) j off n cap z e
      simpa using this)
    obtain ⟨t2, q2, ⟨dv', vs', hB2, fr2, nb2⟩, hC2, _⟩ := q_puts_ok hB1 (by omega) (hr1 t1 hC1) (by omega) hinB ((ws.length + 1 : Nat) : Int) 0 (by rw [hsame]; exact hp)
    have hret : g + vs.length + 1 = ws.length + 1 := by omega
    rw [hret] at q2
    simp only [decide_true, Bool.and_self] at q2
    have hap := buf_apart hB1
    have hlt1 : ∀ id ∈ outM dv vs, s.next ≤ id ∧ id < t.next := fun id hid => by
      obtain ⟨off, n', cap, z, e⟩ := outM_in hid
      exact ⟨f1 _ _ _ _ _ e, hB.2.1.lt _ _ _ _ _ e⟩
    have hX2 : RefR t2 ix dw' ws' (all ++ [d]) g := hX1.keep hC2 hap (fun hm => by
      rcases List.mem_cons.1 hm with q | q
      · exact hne q.symm
      · obtain ⟨off, n', cap, z, e⟩ := outM_in q
        exact out_two hX.1 hB.2.1 hB.2.2 (.inr ⟨_, _, rfl⟩) _ _ _ _ _ e rfl) (fun j off n cap z e hm => by
      have hj := fr1 j off n cap z e
      rcases List.mem_cons.1 hm with q | q
      · have := St.get_lt hB.1
        omega
      · have := (hlt1 j q).2
        omega)
    have hk1 : Keep s t1 := h.keep.chgn hC1 fun id hid => by simp at hid; subst hid; exact h.ix0
    have hk2 : Keep s t2 := hk1.chgn hC2 fun id hid => by
      rcases List.mem_cons.1 hid with rfl | q
      · exact h.ib0
      · exact (hlt1 id q).1
    have hdr : all.drop g ++ [d] = (all ++ [d]).drop g := by rw [List.drop_append_of_le_length hg]
    rw [hdr] at hB2
    refine ⟨_, 0, t1, t2, all ++ [d], q1, q2, ⟨hk2, h.ib0, h.ix0, hne, h.stores.app hst, ?_, by simp; omega, fun l hl => ?_, by simp; omega, dv', vs', dw', ws', hB2, hX2, fun j off n cap z e => Nat.le_trans hk1.next (fr2 j off n cap z e), fun j off n cap z e => Nat.le_trans h.keep.next (fr1 j off n cap z e), fun j off n cap z j' off' n' cap' z' a b => ?_⟩, .inr rfl, hC1, ib :: outM dv vs, hC2, hap, fun id hid => ?_, fun id hid => ?_⟩
    · rw [← hdr]
      exact h.pw.app (h.stores.sub fun x hx => List.mem_of_mem_drop hx) hst hag
    · have : l ∈ all ∨ l = d := by simpa using hl
      rcases this with q | rfl
      · exact h.small l q
      · exact hd
    · have h1 := fr2 j off n cap z a
      have h2 := hX1.2.1.lt j' off' n' cap' z' b
      omega
    · rcases List.mem_cons.1 hid with rfl | q
      · exact h.ib0
      · exact (hlt1 id q).1
    · rcases List.mem_cons.1 hid with rfl | q
      · exact ⟨_, _, hB1.1, .inr (.inr trivial)⟩
      · unfold outM at q
        split at q
        · rename_i j0 off n cap z a r
          simp at q
          subst q
          rcases hB1.2.1 with ⟨q, _⟩ | ⟨j', cap', e, hg', _⟩
          · cases q
          · injection e with e1
            subst e1
            exact ⟨a, r, hg', .inr (.inr trivial)⟩
        · simp at q
theorem both_new (s : St) : Both s ((s.push (.row [.int .i64 0, .nils] true)).push (.row [.nils, .int .i64 0] true)) s.next (s.next + 1) [] 0 := by
  refine ⟨((Keep.refl s).push _).push _, Nat.le_refl _, by omega, by omega, fun x hx => by simp at hx, fun x hx => by simp at hx, Nat.le_refl _, fun x hx => by simp at hx, by simp, .nils, [], .nils, [], ⟨?_, .inl ⟨rfl, rfl⟩, trivial⟩, ⟨?_, .inl ⟨rfl, rfl⟩, trivial⟩, fun _ _ _ _ _ e => by (cases e), fun _ _ _ _ _ e => by (cases e), fun _ _ _ _ _ _ _ _ _ _ e => by (cases e)⟩
  · exact get_push_some _ (St.get_push_new _ _)
  · exact St.get_push_new (s.push _) _
end Go.AM
end
/-
  A list of states among the arguments. Own work of this project.
-/
section
set_option linter.unusedVariables false
set_option linter.unusedSimpArgs false
set_option maxRecDepth 100000
namespace Go.AM
open Go Go.Proofs

variable {s : St}
theorem sts_of_rows {d : Nat} (hd : cks Try.prog d 64 = some ndKs) : ∀ {rows : List (List AV)}, (∀ r ∈ rows, RdT Try.prog s (d + 1) 31 r) → ∃ ls : List (List Nd), readA s rows.flatten = some ls ∧ ls.length = rows.length ∧ rows.flatten.length = rows.length
  | [], _ => ⟨[], rfl, rfl, rfl⟩
  | r :: rows, h => by
    obtain ⟨v, l, rfl, hr⟩ := rd_state hd (h r (by simp))
    obtain ⟨ls, h1, h2, h3⟩ := sts_of_rows hd (rows := rows) fun r' hr' => h r' (by simp [hr'])
    exact ⟨l :: ls, by simp only [List.flatten_cons, List.cons_append, List.nil_append, readA, hr, h1], by simp [h2], by simp [h3]⟩
theorem readA_take : ∀ (n : Nat) {vs : List AV} {ls : List (List Nd)}, readA s vs = some ls → readA s (vs.take n) = some (ls.take n)
  | 0, _, _, _ => rfl
  | n + 1, [], ls, h => by simp [readA] at h; subst h; rfl
  | n + 1, v :: vs, ls, h => by
    simp only [readA] at h
    split at h
    · rename_i l ls' h1 h2
      injection h with h
      subst h
      simp only [List.take_succ_cons, readA, h1, readA_take n h2]
    · cases h
theorem rd_states {d : Nat} (hd : cks Try.prog d 64 = some ndKs) {t : TypeId} (hu : Try.prog.underlying t = some (.slice 31)) (hc : Try.prog.cellsOf 31 = 1) {vs : List AV} (h : RdT Try.prog s (d + 2) t vs) : ∃ v ls, vs = [v] ∧ rdLL s v = some ls := by
  rcases rd_slice hu h with rfl | ⟨id, n, cap, rows, rfl, h1, _, h3, h4, h5⟩
  · exact ⟨.nils, [], rfl, rfl⟩
  · obtain ⟨ls, e1, e2, e3⟩ := sts_of_rows hd fun r hr => (h5 r hr).1
    refine ⟨_, ls.take n, rfl, ?_⟩
    rw [hc]
    unfold rdLL
    have : shownV s (.sl id 0 n (some cap) 1) = some (rows.flatten.take n) := by
      simp only [shownV, if_true, h4]
      rw [if_pos (by omega), List.drop_zero]
    rw [this]
    exact readA_take n e1
theorem rda_states {d : Nat} (hd : cks Try.prog d 64 = some ndKs) {t : TypeId} (hu : Try.prog.underlying t = some (.slice 31)) (hc : Try.prog.cellsOf 31 = 1) {v : AV} (h : RdA Try.prog s (d + 2) t v) : ∃ ls, rdLL s v = some ls := by
  obtain ⟨vs, h1, rfl⟩ := h
  obtain ⟨v, ls, rfl, hr⟩ := rd_states hd hu hc h1
  exact ⟨ls, by simp [argAV, hu, hr]⟩
end Go.AM
end
/-
  BufferIntervals in the abstract machine. Own work of this project; in part printed by a program of it.
-/
section
set_option linter.unusedVariables false
set_option linter.unusedSimpArgs false
set_option maxRecDepth 100000
set_option maxHeartbeats 16000000
namespace Go.AM
open Go Go.Proofs

variable {s t u : St}
section
variable {env : Env}
def convV (k : IntKind) : AV → Option AV
  | .int _ n => some (.int k (k.wrap n))
  | _ => none
theorem ap_conv (k : IntKind) (x : AO) : apure env (.conv k x) = convV k (aev env x) := by
  simp only [apure, convV]
  cases aev env x <;> rfl
theorem convV_int (k k' : IntKind) (n : Int) : convV k (.int k' n) = some (.int k (k.wrap n)) := nrfl rfl
end
theorem u8_under : Try.prog.underlying 5 = some (.int .u8) := by kernel_rfl
theorem sts_under : Try.prog.underlying 22 = some (.slice 31) := by kernel_rfl
theorem sts_cells : Try.prog.cellsOf 31 = 1 := by kernel_rfl
theorem u8_range {n : Int} (h : (Lit.int .u8 n).wf = true) : 0 ≤ n ∧ n ≤ 255 := by
  simp [Lit.wf, IntKind.min, IntKind.max, IntKind.signed, IntKind.bits] at h
  omega
theorem both_len {s t : St} {ib ix g : Nat} {all : List (List Nd)} (h : Both s t ib ix all g) : ∃ dw, lod1 t (.ptr ix 0) = some dw ∧ lenV dw = some (.int .i64 (all.length : Int)) := by
  obtain ⟨dv, vs, dw, ws, hB, hX, _⟩ := h.mem
  obtain ⟨l0, _, _⟩ := row2_lod hX.1
  refine ⟨dw, l0, ?_⟩
  rw [hX.2.1.lenV, hX.2.2.len]
theorem s_BufferIntervals : SoundAt Try.prog 3 (lawC Try.prog 8 [22, 5]) :=
  con_keep (tb_sound (l := [(8, closed [] (.bool true)), (9, R_RPut), (10, R_puts), (11, R_RBetween), (12, R_betweens), (13, R_RFrom), (14, R_froms), (15, R_RForget), (16, R_forgets)]) (by simpa using ⟨s_known, s_RPut, s_puts, s_RBetween, s_betweens, s_RFrom, s_froms, s_RForget, s_forgets⟩)) mixed Try.func3 k3 c3 fun args s r s' h => by
    obtain ⟨hh, rfl, rfl⟩ := lawC_some h
    obtain ⟨v, w, rfl, hv, hw⟩ := rdas_2 hh
    obtain ⟨ls, hrd⟩ := rda_states nd_cks6 sts_under sts_cells hv
    obtain ⟨up, rfl, hup⟩ := rda_int u8_under hw
    refine ⟨rfl, rfl, by simp [a3], fun env hlen ha => ?_⟩
    have h0 : E env 0 = _ := ha 0 _ rfl
    have h1 : E env 1 = _ := ha 1 _ rfl
    have hlen : elen env = _ := hlen
    simp only [a3] at hlen
    unfold a3
    try dsimp only [oO, oG]
    have hL := rdLL_len hrd
    obtain ⟨hu0, hu1⟩ := u8_range hup
    by_cases hz : (10 : Int) < (ls.length : Int)
    · have hz1 := eq_true hz
      simp (config := {contextual := true, maxDischargeDepth := 12}) only [tb_at, h0, h1, hlen, hL, hz1, ↓bD, bU, forall_const, List.all_cons, List.all_nil, Option.map_some, List.map_cons, List.map_nil, ne_eq, implies_true, isNx, cs_dec, cs_not, cs_and, cs_or, cs_valid, eq_self, ↓wp_cond, ↓wp_loop, ↓reduceIte, reduceCtorEq, Nat.reduceEqDiff, Nat.reduceLT, Nat.reduceAdd, Nat.reduceMul, Int.ofNat_lt, Int.ofNat_le, exists_const, ae_app, ap_slc, Option.map_none, mkR_none, mkR_some, ar_look, ae_mset, ae_rng, ae_mkmap0, ar_ent, lookV_push, lookV_lowed, msetV_push, msetV_lowed, lt_put, same_put, sto_over, sto_lowed, cs_dead, Option.map_some, beq_self_eq_true, decide_true, cs_true, cs_false, aa_bsl, ↓sg_bsl, ap_nchk, nchkV_ptr, bin_np, bin_npn, bin_npx, bin_npnx, ap_mm, mmV_max, mmV_min, res3, ↓st_callf, aa_mksl, ae_copy, ap_slc3, slc3V_all, bin_nss, bin_nsn, aa_bsl, extV_2, q_known, beq_self_eq_true, fstep_d0, fstep_d1, fstep_nd2, fstep_ndt, fstep_ndx, bsl_nd, ap_conv, convV_int]
    have hz1 := eq_false hz
    have hn10 : ls.length ≤ 10 := by omega
    have hbx := boxV_2 (a := .int .i64 0) (b := .nils) rfl rfl
    have hbx2 := boxV_2 (a := .nils) (b := .int .i64 0) rfl rfl
    have hB0 := both_new s
    simp (config := {contextual := true, maxDischargeDepth := 12}) only [tb_at, h0, h1, hlen, hL, hz1, hbx, hbx2, ↓bD, bU, forall_const, List.all_cons, List.all_nil, Option.map_some, List.map_cons, List.map_nil, ne_eq, implies_true, isNx, cs_dec, cs_not, cs_and, cs_or, cs_valid, eq_self, ↓wp_cond, ↓wp_loop, ↓reduceIte, reduceCtorEq, Nat.reduceEqDiff, Nat.reduceLT, Nat.reduceAdd, Nat.reduceMul, Int.ofNat_lt, Int.ofNat_le, exists_const, ae_app, ap_slc, Option.map_none, mkR_none, mkR_some, ar_look, ae_mset, ae_rng, ae_mkmap0, ar_ent, lookV_push, lookV_lowed, msetV_push, msetV_lowed, lt_put, same_put, sto_over, sto_lowed, cs_dead, Option.map_some, beq_self_eq_true, decide_true, cs_true, cs_false, aa_bsl, ↓sg_bsl, ap_nchk, nchkV_ptr, bin_np, bin_npn, bin_npx, bin_npnx, ap_mm, mmV_max, mmV_min, res3, ↓st_callf, aa_mksl, ae_copy, ap_slc3, slc3V_all, bin_nss, bin_nsn, aa_bsl, extV_2, q_known, beq_self_eq_true, fstep_d0, fstep_d1, fstep_nd2, fstep_ndt, fstep_ndx, bsl_nd, ap_conv, convV_int]
    obtain ⟨I1, hI1⟩ : ∃ I1 : Nat → Env → St → Prop, ∀ n e t, I1 n e t = (∃ i all, i + n = ls.length ∧ elen e = 138 ∧ E e 0 = v ∧ E e 1 = .int .u8 up ∧ E e 5 = .ptr s.next 0 ∧ E e 6 = .ptr (s.next + 1) 0 ∧ E e 7 = .int .i64 (i : Int) ∧ Both s t s.next (s.next + 1) all 0 ∧ all.length ≤ i) := ⟨fun n e t => (∃ i all, i + n = ls.length ∧ elen e = 138 ∧ E e 0 = v ∧ E e 1 = .int .u8 up ∧ E e 5 = .ptr s.next 0 ∧ E e 6 = .ptr (s.next + 1) 0 ∧ E e 7 = .int .i64 (i : Int) ∧ Both s t s.next (s.next + 1) all 0 ∧ all.length ≤ i), fun _ _ _ => rfl⟩
    refine lwp_inv I1 (n := ls.length) ?_ ?_
    · rw [hI1]
      exact ⟨0, [], by omega, by simp only [E_pne, E_psame, elen_put, Nat.reduceEqDiff, ne_eq, not_false_eq_true, Nat.reduceLT, hlen], by simp only [E_pne, E_psame, elen_put, Nat.reduceEqDiff, ne_eq, not_false_eq_true, Nat.reduceLT, h0], by simp only [E_pne, E_psame, elen_put, Nat.reduceEqDiff, ne_eq, not_false_eq_true, Nat.reduceLT, h1], (by first | (simp only [E_pne, E_psame, elen_put, Nat.reduceEqDiff, ne_eq, not_false_eq_true, Nat.reduceLT, hlen]; done) | (simp only [E_pne, E_psame, elen_put, Nat.reduceEqDiff, ne_eq, not_false_eq_true, Nat.reduceLT, hlen]; rfl)), (by first | (simp only [E_pne, E_psame, elen_put, Nat.reduceEqDiff, ne_eq, not_false_eq_true, Nat.reduceLT, hlen]; done) | (simp only [E_pne, E_psame, elen_put, Nat.reduceEqDiff, ne_eq, not_false_eq_true, Nat.reduceLT, hlen]; rfl)), (by first | (simp only [E_pne, E_psame, elen_put, Nat.reduceEqDiff, ne_eq, not_false_eq_true, Nat.reduceLT, hlen]; done) | (simp only [E_pne, E_psame, elen_put, Nat.reduceEqDiff, ne_eq, not_false_eq_true, Nat.reduceLT, hlen]; rfl)), hB0, by simp⟩
    clear h0 h1 hlen ha hbx hbx2 hB0
    intro n e t hi
    rw [hI1] at hi
    obtain ⟨i, all, hni, he, e0, e1, e5, e6, e7, hB, hal⟩ := hi
    by_cases hlt : i < ls.length
    · have hz2 : ((i : Int) < (ls.length : Int)) = True := eq_true (by omega)
      have hw := wrap_add1 (n := i) (by omega)
      obtain ⟨x, hx⟩ := getsome hlt
      obtain ⟨w, i1, hxx, hrw⟩ := rdLL_at hrd hx
      obtain ⟨a1, al⟩ := hxx t hB.keep
      have hLx := lenV_read hrw
      by_cases h15 : (15 : Int) < (x.length : Int)
      · have hz3 := eq_true h15
        simp (config := {contextual := true, maxDischargeDepth := 12}) only [tb_at, he, e0, e1, e5, e6, e7, hL, hz2, i1, a1, al, hLx, hz3, ↓bD, bU, forall_const, List.all_cons, List.all_nil, Option.map_some, List.map_cons, List.map_nil, ne_eq, implies_true, isNx, cs_dec, cs_not, cs_and, cs_or, cs_valid, eq_self, ↓wp_cond, ↓wp_loop, ↓reduceIte, reduceCtorEq, Nat.reduceEqDiff, Nat.reduceLT, Nat.reduceAdd, Nat.reduceMul, Int.ofNat_lt, Int.ofNat_le, exists_const, ae_app, ap_slc, Option.map_none, mkR_none, mkR_some, ar_look, ae_mset, ae_rng, ae_mkmap0, ar_ent, lookV_push, lookV_lowed, msetV_push, msetV_lowed, lt_put, same_put, sto_over, sto_lowed, cs_dead, Option.map_some, beq_self_eq_true, decide_true, cs_true, cs_false, aa_bsl, ↓sg_bsl, ap_nchk, nchkV_ptr, bin_np, bin_npn, bin_npx, bin_npnx, ap_mm, mmV_max, mmV_min, res3, ↓st_callf, aa_mksl, ae_copy, ap_slc3, slc3V_all, bin_nss, bin_nsn, aa_bsl, extV_2, q_known, beq_self_eq_true, fstep_d0, fstep_d1, fstep_nd2, fstep_ndt, fstep_ndx, bsl_nd, ap_conv, convV_int]
        exact hB.keep
      · have hz3 := eq_false h15
        obtain ⟨nn, ee, t1, t2, all', q1, q2, hB2, hall, hC1, _⟩ := both_put hB (by omega) (hB.keep.read hrw) (fun u hu => (hB.keep.chgn hu fun id hid => by simp at hid; subst hid; exact hB.ix0).read hrw) (by omega : x.length ≤ 15)
        have hk1 : Keep s t1 := hB.keep.chgn hC1 fun id hid => by simp at hid; subst hid; exact hB.ix0
        obtain ⟨a2, al2⟩ := hxx t1 hk1
        simp (config := {contextual := true, maxDischargeDepth := 12}) only [tb_at, he, e0, e1, e5, e6, e7, hL, hz2, i1, a1, al, hLx, hz3, hw, q1, a2, al2, q2, ↓bD, bU, forall_const, List.all_cons, List.all_nil, Option.map_some, List.map_cons, List.map_nil, ne_eq, implies_true, isNx, cs_dec, cs_not, cs_and, cs_or, cs_valid, eq_self, ↓wp_cond, ↓wp_loop, ↓reduceIte, reduceCtorEq, Nat.reduceEqDiff, Nat.reduceLT, Nat.reduceAdd, Nat.reduceMul, Int.ofNat_lt, Int.ofNat_le, exists_const, ae_app, ap_slc, Option.map_none, mkR_none, mkR_some, ar_look, ae_mset, ae_rng, ae_mkmap0, ar_ent, lookV_push, lookV_lowed, msetV_push, msetV_lowed, lt_put, same_put, sto_over, sto_lowed, cs_dead, Option.map_some, beq_self_eq_true, decide_true, cs_true, cs_false, aa_bsl, ↓sg_bsl, ap_nchk, nchkV_ptr, bin_np, bin_npn, bin_npx, bin_npnx, ap_mm, mmV_max, mmV_min, res3, ↓st_callf, aa_mksl, ae_copy, ap_slc3, slc3V_all, bin_nss, bin_nsn, aa_bsl, extV_2, q_known, beq_self_eq_true, fstep_d0, fstep_d1, fstep_nd2, fstep_ndt, fstep_ndx, bsl_nd, ap_conv, convV_int]
        refine ⟨n - 1, by omega, ?_⟩
        rw [hI1]
        refine ⟨i + 1, all', by omega, by simp only [E_pne, E_psame, elen_put, Nat.reduceEqDiff, ne_eq, not_false_eq_true, Nat.reduceLT, he], by simp only [E_pne, E_psame, elen_put, Nat.reduceEqDiff, ne_eq, not_false_eq_true, Nat.reduceLT, e0], by simp only [E_pne, E_psame, elen_put, Nat.reduceEqDiff, ne_eq, not_false_eq_true, Nat.reduceLT, e1], by simp only [E_pne, E_psame, elen_put, Nat.reduceEqDiff, ne_eq, not_false_eq_true, Nat.reduceLT, e5], by simp only [E_pne, E_psame, elen_put, Nat.reduceEqDiff, ne_eq, not_false_eq_true, Nat.reduceLT, e6], by simp only [E_pne, E_psame, elen_put, Nat.reduceEqDiff, ne_eq, not_false_eq_true, Nat.reduceLT, he], hB2, ?_⟩
        rcases hall with rfl | rfl
        · omega
        · simp
          omega
    have hin : i = ls.length := by omega
    subst hin
    have hz2 : ((ls.length : Int) < (ls.length : Int)) = False := eq_false (by omega)
    simp (config := {contextual := true, maxDischargeDepth := 12}) only [tb_at, he, e0, e1, e5, e6, e7, hL, hz2, ↓bD, bU, forall_const, List.all_cons, List.all_nil, Option.map_some, List.map_cons, List.map_nil, ne_eq, implies_true, isNx, cs_dec, cs_not, cs_and, cs_or, cs_valid, eq_self, ↓wp_cond, ↓wp_loop, ↓reduceIte, reduceCtorEq, Nat.reduceEqDiff, Nat.reduceLT, Nat.reduceAdd, Nat.reduceMul, Int.ofNat_lt, Int.ofNat_le, exists_const, ae_app, ap_slc, Option.map_none, mkR_none, mkR_some, ar_look, ae_mset, ae_rng, ae_mkmap0, ar_ent, lookV_push, lookV_lowed, msetV_push, msetV_lowed, lt_put, same_put, sto_over, sto_lowed, cs_dead, Option.map_some, beq_self_eq_true, decide_true, cs_true, cs_false, aa_bsl, ↓sg_bsl, ap_nchk, nchkV_ptr, bin_np, bin_npn, bin_npx, bin_npnx, ap_mm, mmV_max, mmV_min, res3, ↓st_callf, aa_mksl, ae_copy, ap_slc3, slc3V_all, bin_nss, bin_nsn, aa_bsl, extV_2, q_known, beq_self_eq_true, fstep_d0, fstep_d1, fstep_nd2, fstep_ndt, fstep_ndx, bsl_nd, ap_conv, convV_int]
    obtain ⟨I2, hI2⟩ : ∃ I2 : Nat → Env → St → Prop, ∀ n e t, I2 n e t = (∃ i g, i + n = 2 ∧ elen e = 138 ∧ E e 0 = v ∧ E e 1 = .int .u8 up ∧ E e 5 = .ptr s.next 0 ∧ E e 6 = .ptr (s.next + 1) 0 ∧ E e 10 = .int .i64 (i : Int) ∧ Both s t s.next (s.next + 1) all g) := ⟨fun n e t => (∃ i g, i + n = 2 ∧ elen e = 138 ∧ E e 0 = v ∧ E e 1 = .int .u8 up ∧ E e 5 = .ptr s.next 0 ∧ E e 6 = .ptr (s.next + 1) 0 ∧ E e 10 = .int .i64 (i : Int) ∧ Both s t s.next (s.next + 1) all g), fun _ _ _ => rfl⟩
    refine lwp_inv I2 (n := 2) ?_ ?_
    · rw [hI2]
      exact ⟨0, 0, by omega, by simp only [E_pne, E_psame, elen_put, Nat.reduceEqDiff, ne_eq, not_false_eq_true, Nat.reduceLT, he], by simp only [E_pne, E_psame, elen_put, Nat.reduceEqDiff, ne_eq, not_false_eq_true, Nat.reduceLT, e0], by simp only [E_pne, E_psame, elen_put, Nat.reduceEqDiff, ne_eq, not_false_eq_true, Nat.reduceLT, e1], by simp only [E_pne, E_psame, elen_put, Nat.reduceEqDiff, ne_eq, not_false_eq_true, Nat.reduceLT, e5], by simp only [E_pne, E_psame, elen_put, Nat.reduceEqDiff, ne_eq, not_false_eq_true, Nat.reduceLT, e6], by simp only [E_pne, E_psame, elen_put, Nat.reduceEqDiff, ne_eq, not_false_eq_true, Nat.reduceLT, he]; rfl, hB⟩
    clear he e0 e1 e5 e6 e7 hB
    intro n e t hi
    rw [hI2] at hi
    obtain ⟨tn, g, hni, he, e0, e1, e5, e6, e10, hB⟩ := hi
    by_cases hlt : tn < 2
    rotate_left
    · have hz3 : ((tn : Int) < 2) = False := eq_false (by omega)
      simp (config := {contextual := true, maxDischargeDepth := 12}) only [tb_at, he, e0, e1, e5, e6, e10, hz3, ↓bD, bU, forall_const, List.all_cons, List.all_nil, Option.map_some, List.map_cons, List.map_nil, ne_eq, implies_true, isNx, cs_dec, cs_not, cs_and, cs_or, cs_valid, eq_self, ↓wp_cond, ↓wp_loop, ↓reduceIte, reduceCtorEq, Nat.reduceEqDiff, Nat.reduceLT, Nat.reduceAdd, Nat.reduceMul, Int.ofNat_lt, Int.ofNat_le, exists_const, ae_app, ap_slc, Option.map_none, mkR_none, mkR_some, ar_look, ae_mset, ae_rng, ae_mkmap0, ar_ent, lookV_push, lookV_lowed, msetV_push, msetV_lowed, lt_put, same_put, sto_over, sto_lowed, cs_dead, Option.map_some, beq_self_eq_true, decide_true, cs_true, cs_false, aa_bsl, ↓sg_bsl, ap_nchk, nchkV_ptr, bin_np, bin_npn, bin_npx, bin_npnx, ap_mm, mmV_max, mmV_min, res3, ↓st_callf, aa_mksl, ae_copy, ap_slc3, slc3V_all, bin_nss, bin_nsn, aa_bsl, extV_2, q_known, beq_self_eq_true, fstep_d0, fstep_d1, fstep_nd2, fstep_ndt, fstep_ndx, bsl_nd, ap_conv, convV_int]
      exact hB.keep
    have hz3 : ((tn : Int) < 2) = True := eq_true (by omega)
    have hwt := wrap_add1 (n := tn) (by omega)
    simp (config := {contextual := true, maxDischargeDepth := 12}) only [tb_at, he, e0, e1, e5, e6, e10, hz3, ↓bD, bU, forall_const, List.all_cons, List.all_nil, Option.map_some, List.map_cons, List.map_nil, ne_eq, implies_true, isNx, cs_dec, cs_not, cs_and, cs_or, cs_valid, eq_self, ↓wp_cond, ↓wp_loop, ↓reduceIte, reduceCtorEq, Nat.reduceEqDiff, Nat.reduceLT, Nat.reduceAdd, Nat.reduceMul, Int.ofNat_lt, Int.ofNat_le, exists_const, ae_app, ap_slc, Option.map_none, mkR_none, mkR_some, ar_look, ae_mset, ae_rng, ae_mkmap0, ar_ent, lookV_push, lookV_lowed, msetV_push, msetV_lowed, lt_put, same_put, sto_over, sto_lowed, cs_dead, Option.map_some, beq_self_eq_true, decide_true, cs_true, cs_false, aa_bsl, ↓sg_bsl, ap_nchk, nchkV_ptr, bin_np, bin_npn, bin_npx, bin_npnx, ap_mm, mmV_max, mmV_min, res3, ↓st_callf, aa_mksl, ae_copy, ap_slc3, slc3V_all, bin_nss, bin_nsn, aa_bsl, extV_2, q_known, beq_self_eq_true, fstep_d0, fstep_d1, fstep_nd2, fstep_ndt, fstep_ndx, bsl_nd, ap_conv, convV_int]
    obtain ⟨I3, hI3⟩ : ∃ I3 : Nat → Env → St → Prop, ∀ n e t, I3 n e t = (∃ i, i + n = all.length + 2 ∧ elen e = 138 ∧ E e 0 = v ∧ E e 1 = .int .u8 up ∧ E e 5 = .ptr s.next 0 ∧ E e 6 = .ptr (s.next + 1) 0 ∧ E e 10 = .int .i64 (tn : Int) ∧ E e 11 = .int .i64 (i : Int) ∧ Both s t s.next (s.next + 1) all g) := ⟨fun n e t => (∃ i, i + n = all.length + 2 ∧ elen e = 138 ∧ E e 0 = v ∧ E e 1 = .int .u8 up ∧ E e 5 = .ptr s.next 0 ∧ E e 6 = .ptr (s.next + 1) 0 ∧ E e 10 = .int .i64 (tn : Int) ∧ E e 11 = .int .i64 (i : Int) ∧ Both s t s.next (s.next + 1) all g), fun _ _ _ => rfl⟩
    refine lwp_inv I3 (n := all.length + 2) ?_ ?_
    · rw [hI3]
      exact ⟨0, by omega, by simp only [E_pne, E_psame, elen_put, Nat.reduceEqDiff, ne_eq, not_false_eq_true, Nat.reduceLT, he], by simp only [E_pne, E_psame, elen_put, Nat.reduceEqDiff, ne_eq, not_false_eq_true, Nat.reduceLT, e0], by simp only [E_pne, E_psame, elen_put, Nat.reduceEqDiff, ne_eq, not_false_eq_true, Nat.reduceLT, e1], by simp only [E_pne, E_psame, elen_put, Nat.reduceEqDiff, ne_eq, not_false_eq_true, Nat.reduceLT, e5], by simp only [E_pne, E_psame, elen_put, Nat.reduceEqDiff, ne_eq, not_false_eq_true, Nat.reduceLT, e6], by simp only [E_pne, E_psame, elen_put, Nat.reduceEqDiff, ne_eq, not_false_eq_true, Nat.reduceLT, e10], by simp only [E_pne, E_psame, elen_put, Nat.reduceEqDiff, ne_eq, not_false_eq_true, Nat.reduceLT, he]; rfl, hB⟩
    clear he e0 e1 e5 e6 e10 hB
    intro n3 e t hi
    rw [hI3] at hi
    obtain ⟨fi, hnf, he, e0, e1, e5, e6, e10, e11, hB⟩ := hi
    have hlen := hB.len
    obtain ⟨dw, b1, b2⟩ := both_len hB
    have hwl := wrap_add1 (n := all.length) (by omega)
    by_cases hlf : fi < all.length + 2
    · have hz4 : ((fi : Int) ≤ ((all.length + 1 : Nat) : Int)) = True := eq_true (by omega)
      have hwf := wrap_add1 (n := fi) (by omega)
      simp (config := {contextual := true, maxDischargeDepth := 12}) only [tb_at, he, e0, e1, e5, e6, e10, e11, b1, b2, hwl, hz4, ↓bD, bU, forall_const, List.all_cons, List.all_nil, Option.map_some, List.map_cons, List.map_nil, ne_eq, implies_true, isNx, cs_dec, cs_not, cs_and, cs_or, cs_valid, eq_self, ↓wp_cond, ↓wp_loop, ↓reduceIte, reduceCtorEq, Nat.reduceEqDiff, Nat.reduceLT, Nat.reduceAdd, Nat.reduceMul, Int.ofNat_lt, Int.ofNat_le, exists_const, ae_app, ap_slc, Option.map_none, mkR_none, mkR_some, ar_look, ae_mset, ae_rng, ae_mkmap0, ar_ent, lookV_push, lookV_lowed, msetV_push, msetV_lowed, lt_put, same_put, sto_over, sto_lowed, cs_dead, Option.map_some, beq_self_eq_true, decide_true, cs_true, cs_false, aa_bsl, ↓sg_bsl, ap_nchk, nchkV_ptr, bin_np, bin_npn, bin_npx, bin_npnx, ap_mm, mmV_max, mmV_min, res3, ↓st_callf, aa_mksl, ae_copy, ap_slc3, slc3V_all, bin_nss, bin_nsn, aa_bsl, extV_2, q_known, beq_self_eq_true, fstep_d0, fstep_d1, fstep_nd2, fstep_ndt, fstep_ndx, bsl_nd, ap_conv, convV_int]
      obtain ⟨I4, hI4⟩ : ∃ I4 : Nat → Env → St → Prop, ∀ n e t, I4 n e t = (∃ i, i + n = all.length + 2 ∧ elen e = 138 ∧ E e 0 = v ∧ E e 1 = .int .u8 up ∧ E e 5 = .ptr s.next 0 ∧ E e 6 = .ptr (s.next + 1) 0 ∧ E e 10 = .int .i64 (tn : Int) ∧ E e 11 = .int .i64 (fi : Int) ∧ E e 12 = .int .i64 (i : Int) ∧ Both s t s.next (s.next + 1) all g) := ⟨fun n e t => (∃ i, i + n = all.length + 2 ∧ elen e = 138 ∧ E e 0 = v ∧ E e 1 = .int .u8 up ∧ E e 5 = .ptr s.next 0 ∧ E e 6 = .ptr (s.next + 1) 0 ∧ E e 10 = .int .i64 (tn : Int) ∧ E e 11 = .int .i64 (fi : Int) ∧ E e 12 = .int .i64 (i : Int) ∧ Both s t s.next (s.next + 1) all g), fun _ _ _ => rfl⟩
      refine lwp_inv I4 (n := all.length + 2) ?_ ?_
      · rw [hI4]
        exact ⟨0, by omega, by simp only [E_pne, E_psame, elen_put, Nat.reduceEqDiff, ne_eq, not_false_eq_true, Nat.reduceLT, he], by simp only [E_pne, E_psame, elen_put, Nat.reduceEqDiff, ne_eq, not_false_eq_true, Nat.reduceLT, e0], by simp only [E_pne, E_psame, elen_put, Nat.reduceEqDiff, ne_eq, not_false_eq_true, Nat.reduceLT, e1], by simp only [E_pne, E_psame, elen_put, Nat.reduceEqDiff, ne_eq, not_false_eq_true, Nat.reduceLT, e5], by simp only [E_pne, E_psame, elen_put, Nat.reduceEqDiff, ne_eq, not_false_eq_true, Nat.reduceLT, e6], by simp only [E_pne, E_psame, elen_put, Nat.reduceEqDiff, ne_eq, not_false_eq_true, Nat.reduceLT, e10], by simp only [E_pne, E_psame, elen_put, Nat.reduceEqDiff, ne_eq, not_false_eq_true, Nat.reduceLT, e11], by simp only [E_pne, E_psame, elen_put, Nat.reduceEqDiff, ne_eq, not_false_eq_true, Nat.reduceLT, he]; rfl, hB⟩
      clear he e0 e1 e5 e6 e10 e11 hB b1 b2
      intro n4 e t hi
      rw [hI4] at hi
      obtain ⟨la, hnl, he, e0, e1, e5, e6, e10, e11, e12, hB⟩ := hi
      obtain ⟨dw, b1, b2⟩ := both_len hB
      by_cases hll : la < all.length + 2
      · have hz5 : ((la : Int) ≤ ((all.length + 1 : Nat) : Int)) = True := eq_true (by omega)
        have hwa := wrap_add1 (n := la) (by omega)
        obtain ⟨vv, t1, q1, q2, hO, hK⟩ := both_between hB (fi : Int) (la : Int)
        simp (config := {contextual := true, maxDischargeDepth := 12}) only [tb_at, he, e0, e1, e5, e6, e10, e11, e12, b1, b2, hwl, hz5, hwa, q1, q2, ↓bD, bU, forall_const, List.all_cons, List.all_nil, Option.map_some, List.map_cons, List.map_nil, ne_eq, implies_true, isNx, cs_dec, cs_not, cs_and, cs_or, cs_valid, eq_self, ↓wp_cond, ↓wp_loop, ↓reduceIte, reduceCtorEq, Nat.reduceEqDiff, Nat.reduceLT, Nat.reduceAdd, Nat.reduceMul, Int.ofNat_lt, Int.ofNat_le, exists_const, ae_app, ap_slc, Option.map_none, mkR_none, mkR_some, ar_look, ae_mset, ae_rng, ae_mkmap0, ar_ent, lookV_push, lookV_lowed, msetV_push, msetV_lowed, lt_put, same_put, sto_over, sto_lowed, cs_dead, Option.map_some, beq_self_eq_true, decide_true, cs_true, cs_false, aa_bsl, ↓sg_bsl, ap_nchk, nchkV_ptr, bin_np, bin_npn, bin_npx, bin_npnx, ap_mm, mmV_max, mmV_min, res3, ↓st_callf, aa_mksl, ae_copy, ap_slc3, slc3V_all, bin_nss, bin_nsn, aa_bsl, extV_2, q_known, beq_self_eq_true, fstep_d0, fstep_d1, fstep_nd2, fstep_ndt, fstep_ndx, bsl_nd, ap_conv, convV_int]
        refine ⟨n4 - 1, by omega, ?_⟩
        rw [hI4]
        exact ⟨la + 1, by omega, by simp only [E_pne, E_psame, elen_put, Nat.reduceEqDiff, ne_eq, not_false_eq_true, Nat.reduceLT, he], by simp only [E_pne, E_psame, elen_put, Nat.reduceEqDiff, ne_eq, not_false_eq_true, Nat.reduceLT, e0], by simp only [E_pne, E_psame, elen_put, Nat.reduceEqDiff, ne_eq, not_false_eq_true, Nat.reduceLT, e1], by simp only [E_pne, E_psame, elen_put, Nat.reduceEqDiff, ne_eq, not_false_eq_true, Nat.reduceLT, e5], by simp only [E_pne, E_psame, elen_put, Nat.reduceEqDiff, ne_eq, not_false_eq_true, Nat.reduceLT, e6], by simp only [E_pne, E_psame, elen_put, Nat.reduceEqDiff, ne_eq, not_false_eq_true, Nat.reduceLT, e10], by simp only [E_pne, E_psame, elen_put, Nat.reduceEqDiff, ne_eq, not_false_eq_true, Nat.reduceLT, e11], by simp only [E_pne, E_psame, elen_put, Nat.reduceEqDiff, ne_eq, not_false_eq_true, Nat.reduceLT, he], hB.on hK⟩
      · have hz5 : ((la : Int) ≤ ((all.length + 1 : Nat) : Int)) = False := eq_false (by omega)
        obtain ⟨vv, t1, q1, hO, hK, _, q2⟩ := both_from hB (fi : Int)
        have q2 := q2 t1 (hB.on hK) hO.read
        simp (config := {contextual := true, maxDischargeDepth := 12}) only [tb_at, he, e0, e1, e5, e6, e10, e11, e12, b1, b2, hwl, hz5, hwf, q1, q2, ↓bD, bU, forall_const, List.all_cons, List.all_nil, Option.map_some, List.map_cons, List.map_nil, ne_eq, implies_true, isNx, cs_dec, cs_not, cs_and, cs_or, cs_valid, eq_self, ↓wp_cond, ↓wp_loop, ↓reduceIte, reduceCtorEq, Nat.reduceEqDiff, Nat.reduceLT, Nat.reduceAdd, Nat.reduceMul, Int.ofNat_lt, Int.ofNat_le, exists_const, ae_app, ap_slc, Option.map_none, mkR_none, mkR_some, ar_look, ae_mset, ae_rng, ae_mkmap0, ar_ent, lookV_push, lookV_lowed, msetV_push, msetV_lowed, lt_put, same_put, sto_over, sto_lowed, cs_dead, Option.map_some, beq_self_eq_true, decide_true, cs_true, cs_false, aa_bsl, ↓sg_bsl, ap_nchk, nchkV_ptr, bin_np, bin_npn, bin_npx, bin_npnx, ap_mm, mmV_max, mmV_min, res3, ↓st_callf, aa_mksl, ae_copy, ap_slc3, slc3V_all, bin_nss, bin_nsn, aa_bsl, extV_2, q_known, beq_self_eq_true, fstep_d0, fstep_d1, fstep_nd2, fstep_ndt, fstep_ndx, bsl_nd, ap_conv, convV_int]
        refine ⟨n3 - 1, by omega, ?_⟩
        rw [hI3]
        exact ⟨fi + 1, by omega, by simp only [E_pne, E_psame, elen_put, Nat.reduceEqDiff, ne_eq, not_false_eq_true, Nat.reduceLT, he], by simp only [E_pne, E_psame, elen_put, Nat.reduceEqDiff, ne_eq, not_false_eq_true, Nat.reduceLT, e0], by simp only [E_pne, E_psame, elen_put, Nat.reduceEqDiff, ne_eq, not_false_eq_true, Nat.reduceLT, e1], by simp only [E_pne, E_psame, elen_put, Nat.reduceEqDiff, ne_eq, not_false_eq_true, Nat.reduceLT, e5], by simp only [E_pne, E_psame, elen_put, Nat.reduceEqDiff, ne_eq, not_false_eq_true, Nat.reduceLT, e6], by simp only [E_pne, E_psame, elen_put, Nat.reduceEqDiff, ne_eq, not_false_eq_true, Nat.reduceLT, e10], by simp only [E_pne, E_psame, elen_put, Nat.reduceEqDiff, ne_eq, not_false_eq_true, Nat.reduceLT, he], hB.on hK⟩
    · have hz4 : ((fi : Int) ≤ ((all.length + 1 : Nat) : Int)) = False := eq_false (by omega)
      have hcv : IntKind.i64.wrap up = up := wrap_in (by omega) (by omega)
      obtain ⟨nn, ee, t1, t2, g', q1, _, ⟨dw1, ws1, hX1⟩, q2, hB2, _⟩ := both_forget hB (min up (all.length : Int))
      obtain ⟨m1, _, _⟩ := row2_lod hX1.1
      have m2 := hX1.2.1.lenV
      rw [hX1.2.2.len] at m2
      simp (config := {contextual := true, maxDischargeDepth := 12}) only [tb_at, he, e0, e1, e5, e6, e10, e11, b1, b2, hwl, hz4, hcv, q1, m1, m2, q2, hwt, ↓bD, bU, forall_const, List.all_cons, List.all_nil, Option.map_some, List.map_cons, List.map_nil, ne_eq, implies_true, isNx, cs_dec, cs_not, cs_and, cs_or, cs_valid, eq_self, ↓wp_cond, ↓wp_loop, ↓reduceIte, reduceCtorEq, Nat.reduceEqDiff, Nat.reduceLT, Nat.reduceAdd, Nat.reduceMul, Int.ofNat_lt, Int.ofNat_le, exists_const, ae_app, ap_slc, Option.map_none, mkR_none, mkR_some, ar_look, ae_mset, ae_rng, ae_mkmap0, ar_ent, lookV_push, lookV_lowed, msetV_push, msetV_lowed, lt_put, same_put, sto_over, sto_lowed, cs_dead, Option.map_some, beq_self_eq_true, decide_true, cs_true, cs_false, aa_bsl, ↓sg_bsl, ap_nchk, nchkV_ptr, bin_np, bin_npn, bin_npx, bin_npnx, ap_mm, mmV_max, mmV_min, res3, ↓st_callf, aa_mksl, ae_copy, ap_slc3, slc3V_all, bin_nss, bin_nsn, aa_bsl, extV_2, q_known, beq_self_eq_true, fstep_d0, fstep_d1, fstep_nd2, fstep_ndt, fstep_ndx, bsl_nd, ap_conv, convV_int]
      refine ⟨n - 1, by omega, ?_⟩
      rw [hI2]
      exact ⟨tn + 1, g', by omega, by simp only [E_pne, E_psame, elen_put, Nat.reduceEqDiff, ne_eq, not_false_eq_true, Nat.reduceLT, he], by simp only [E_pne, E_psame, elen_put, Nat.reduceEqDiff, ne_eq, not_false_eq_true, Nat.reduceLT, e0], by simp only [E_pne, E_psame, elen_put, Nat.reduceEqDiff, ne_eq, not_false_eq_true, Nat.reduceLT, e1], by simp only [E_pne, E_psame, elen_put, Nat.reduceEqDiff, ne_eq, not_false_eq_true, Nat.reduceLT, e5], by simp only [E_pne, E_psame, elen_put, Nat.reduceEqDiff, ne_eq, not_false_eq_true, Nat.reduceLT, e6], by simp only [E_pne, E_psame, elen_put, Nat.reduceEqDiff, ne_eq, not_false_eq_true, Nat.reduceLT, he], hB2⟩

end Go.AM
end
/-
  BufferPlays: the steps on both buffers, and what 'alike' answers. Own work of this project; in part printed by a program of it.
-/
section
set_option linter.unusedVariables false
set_option linter.unusedSimpArgs false
set_option maxRecDepth 100000
set_option maxHeartbeats 16000000
namespace Go.AM
open Go Go.Proofs

variable {s t u : St}
theorem NdR.keepj {j : Nat} (hc : Chg [j] t u) {v : AV} {l : List Nd} (hv : ∀ k off n cap z, v = .sl k off n cap z → k ≠ j) (h : NdR t v l) : NdR u v l := by
  rcases h with h | ⟨k, off, n, cap, l', own, rfl, hg, hr⟩
  · exact .inl h
  · have hk := hv _ _ _ _ _ rfl
    have hg' := hc.blk hg (by simpa using hk)
    refine .inr ⟨k, off, n, cap, l', own, rfl, hg', ?_⟩
    simp only [AM.read, hg, hg'] at hr ⊢
    exact hr
theorem InR.keepj {j : Nat} (hc : Chg [j] t u) : ∀ {vs : List AV} {ls : List (List Nd)}, (∀ v ∈ vs, ∀ k off n cap z, v = .sl k off n cap z → k ≠ j) → InR t vs ls → InR u vs ls
  | [], [], _, _ => trivial
  | v :: vs, l :: ls, hv, h => ⟨h.1.keepj hc (hv v (by simp)), InR.keepj hc (fun x hx => hv x (by simp [hx])) h.2⟩
  | [], _ :: _, _, h => h.elim
  | _ :: _, [], _, h => h.elim
theorem InR.lt : ∀ {vs : List AV} {ls : List (List Nd)}, InR t vs ls → ∀ v ∈ vs, ∀ k off n cap z, v = .sl k off n cap z → k < t.next
  | [], [], _, v, hv => by simp at hv
  | w :: vs, l :: ls, h, v, hv => by
    rcases List.mem_cons.1 hv with rfl | hv
    · rintro k off n cap z rfl
      rcases h.1 with ⟨e, _⟩ | ⟨k', off', n', cap', l', own, e, hg, _⟩
      · cases e
      · injection e with e
        subst e
        exact St.get_lt hg
    · exact InR.lt h.2 v hv
  | [], _ :: _, h, _, _ => h.elim
  | _ :: _, [], h, _, _ => h.elim
theorem both_of_j {s t2 t3 : St} {ib ix g j : Nat} {all : List (List Nd)} (h : Both s t2 ib ix all g) {dv dw : AV} {vs ws : List AV} (hB : BufR t2 ib g dv vs (all.drop g)) (hX : RefR t2 ix dw ws all g)
    (f1 : ∀ k off n cap z, dv = .sl k off n cap z → s.next ≤ k) (f2 : ∀ k off n cap z, dw = .sl k off n cap z → s.next ≤ k) (f3 : ∀ k off n cap z k' off' n' cap' z', dv = .sl k off n cap z → dw = .sl k' off' n' cap' z' → k ≠ k')
    (hj : s.next ≤ j) (hib : ib ≠ j) (hix : ix ≠ j) (hdv : ∀ k off n cap z, dv = .sl k off n cap z → k ≠ j) (hdw : ∀ k off n cap z, dw = .sl k off n cap z → k ≠ j)
    (hvs : ∀ v ∈ vs, ∀ k off n cap z, v = .sl k off n cap z → k ≠ j) (hws : ∀ v ∈ ws, ∀ k off n cap z, v = .sl k off n cap z → k ≠ j) (hc : Chg [j] t2 t3) : Both s t3 ib ix all g :=
  ⟨h.keep.chgn hc (fun id hid => by simp at hid; subst hid; exact hj), h.ib0, h.ix0, h.ne, h.stores, h.pw, h.hg, h.small, h.len, dv, vs, dw, ws,
    ⟨hc.blk hB.1 (by simpa using hib), hB.2.1.keep hc (fun k off n cap z e => by simpa using hdv k off n cap z e), hB.2.2.keepj hc hvs⟩,
    ⟨hc.blk hX.1 (by simpa using hix), hX.2.1.keep hc (fun k off n cap z e => by simpa using hdw k off n cap z e), hX.2.2.keepj hc hws⟩, f1, f2, f3⟩
/-- Rows of nodes stay. -/
def Nds (t u : St) : Prop := ∀ j l own, t.get j = some (.row (ndC.cells l) own) → u.get j = some (.row (ndC.cells l) own)
theorem nds_of {M : List Nat} (hc : Chg M t u) (ha : Apart t M) : Nds t u := fun j l own h => hc.blk h fun q => ha j q l own h
/-- A delta is put into both; v1 is the caller's own copy of it, which lies in a block of its own. -/
theorem both_puto {s t0 t : St} {ib ix g : Nat} {all : List (List Nd)} (h0 : Both s t0 ib ix all g) (hK : Keep t0 t) (hl99 : all.length < 100) {v v1 : AV} {d : List Nd} (hr : read ndC t v = some d) (hr1 : NdR t v1 d) (hd : d.length ≤ 15) :
    ∃ n e t1 t2 all', acall R_RPut false [.ptr ix 0, v] t = some (.tup [.int .i64 n, .int .i64 e], t1) ∧ acall R_puts false [.ptr ib 0, v1, .int .i64 n, .int .i64 e] t1 = some (.bool true, t2) ∧ Both s t2 ib ix all' g ∧ (all' = all ∨ all' = all ++ [d]) ∧ NdR t2 v1 d ∧ Nds t t2 ∧
      Boxes t t1 ∧ Boxes t1 t2 ∧ Keep s t1 ∧ ∀ j t3, t0.next ≤ j → j < t.next → Chg [j] t2 t3 → Both s t3 ib ix all' g := by
  have h := h0.on hK
  have hlen := h.len
  have hg := h.hg
  have hne := h.ne
  have hsn := h0.keep.next
  obtain ⟨dv, vs, dw, ws, hB0, hX0, f1, f2, f3⟩ := h0.mem
  have hB := hB0.keep0 hK
  have hX := hX0.keep0 hK
  have e1 := hB.2.2.len
  have e2 := hX.2.2.len
  rw [List.length_drop] at e1
  have hinX : InnerOk all := fun x hx => by have := h.small x hx; omega
  have hinB : InnerOk (all.drop g) := fun x hx => by have := h.small x (List.mem_of_mem_drop hx); omega
  have hsame := put_same (d := d) (h.stores.sub fun x hx => List.mem_of_mem_drop hx : Stores (all.drop g)) (by rw [List.length_drop]; omega)
  have bl := St.get_lt hB0.1
  have xl := St.get_lt hX0.1
  have dl := hB0.2.1.lt
  have wl := hX0.2.1.lt
  have vl := hB0.2.2.lt
  have wsl := hX0.2.2.lt
  have hKn := hK.next
  cases hp : rputP (all.drop g) d with
  | some er =>
    have q1 := q_RPut_err false hX (by omega) (by omega) hr (by omega) hinX hp
    have q2 := q_puts_err false hB (by omega) hr1.read (by omega) hinB 0 er (by rw [hsame]; exact hp)
    simp only [decide_true, Bool.and_self] at q2
    refine ⟨0, er, t, t, all, q1, q2, h, .inl rfl, hr1, fun _ _ _ q => q, .refl _, .refl _, h.keep, fun j t3 hj1 hj2 hc => both_of_j h hB hX f1 f2 f3 (by omega) (by omega) (by omega) ?_ ?_ ?_ ?_ hc⟩
    · intro k off n cap z e
      have := dl k off n cap z e
      omega
    · intro k off n cap z e
      have := wl k off n cap z e
      omega
    · intro x hx k off n cap z e
      have := vl x hx k off n cap z e
      omega
    · intro x hx k off n cap z e
      have := wsl x hx k off n cap z e
      omega
  | none =>
    obtain ⟨hst, hag⟩ := put_none hp
    obtain ⟨t1, q1, ⟨dw', ws', hX1, fr1, nx1⟩, hC1, _⟩ := q_RPut_ok hX (by omega) (by omega) hr (by omega) hinX hp (by omega)
    have hB1 : BufR t1 ib g dv vs (all.drop g) := hB.keep hC1 (ref_apart hX) (by simpa using hne) (fun j off n cap z e => by
      have := out_two hX.1 hB.2.1 hB.2.2 (.inr ⟨_, _, rfl⟩) j off n cap z e
      simpa using this)
    have hv1 := hr1.keep hC1 (ref_apart hX)
    obtain ⟨t2, q2, ⟨dv', vs', hB2, fr2, nb2⟩, hC2, _⟩ := q_puts_ok hB1 (by omega) hv1.read (by omega) hinB ((ws.length + 1 : Nat) : Int) 0 (by rw [hsame]; exact hp)
    have hret : g + vs.length + 1 = ws.length + 1 := by omega
    rw [hret] at q2
    simp only [decide_true, Bool.and_self] at q2
    have hap := buf_apart hB1
    have hn1 := hC1.next
    have hlt1 : ∀ id ∈ outM dv vs, s.next ≤ id ∧ id < t0.next := fun id hid => by
      obtain ⟨off, n', cap, z, e⟩ := outM_in hid
      exact ⟨f1 _ _ _ _ _ e, dl _ _ _ _ _ e⟩
    have hX2 : RefR t2 ix dw' ws' (all ++ [d]) g := hX1.keep hC2 hap (fun hm => by
      rcases List.mem_cons.1 hm with q | q
      · exact hne q.symm
      · obtain ⟨off, n', cap, z, e⟩ := outM_in q
        exact out_two hX.1 hB.2.1 hB.2.2 (.inr ⟨_, _, rfl⟩) _ _ _ _ _ e rfl) (fun j off n cap z e hm => by
      have hj := fr1 j off n cap z e
      rcases List.mem_cons.1 hm with q | q
      · omega
      · have := (hlt1 j q).2
        omega)
    have hk1 : Keep s t1 := h.keep.chgn hC1 fun id hid => by simp at hid; subst hid; exact h.ix0
    have hk2 : Keep s t2 := hk1.chgn hC2 fun id hid => by
      rcases List.mem_cons.1 hid with rfl | q
      · exact h.ib0
      · exact (hlt1 id q).1
    have hdr : all.drop g ++ [d] = (all ++ [d]).drop g := by rw [List.drop_append_of_le_length hg]
    rw [hdr] at hB2
    have g1 : ∀ j off n cap z, dv' = .sl j off n cap z → s.next ≤ j := fun j off n cap z e => Nat.le_trans hk1.next (fr2 j off n cap z e)
    have g2 : ∀ j off n cap z, dw' = .sl j off n cap z → s.next ≤ j := fun j off n cap z e => Nat.le_trans h.keep.next (fr1 j off n cap z e)
    have g3 : ∀ j off n cap z j' off' n' cap' z', dv' = .sl j off n cap z → dw' = .sl j' off' n' cap' z' → j ≠ j' := fun j off n cap z j' off' n' cap' z' a b => by
      have h1 := fr2 j off n cap z a
      have h2 := hX1.2.1.lt j' off' n' cap' z' b
      omega
    have hBo : Both s t2 ib ix (all ++ [d]) g := ⟨hk2, h.ib0, h.ix0, hne, h.stores.app hst, by
      rw [← hdr]
      exact h.pw.app (h.stores.sub fun x hx => List.mem_of_mem_drop hx) hst hag, by simp; omega, fun l hl => by
      have : l ∈ all ∨ l = d := by simpa using hl
      rcases this with q | rfl
      · exact h.small l q
      · exact hd, by simp; omega, dv', vs', dw', ws', hB2, hX2, g1, g2, g3⟩
    refine ⟨_, 0, t1, t2, all ++ [d], q1, q2, hBo, .inr rfl, hv1.keep hC2 hap, fun j l own q => nds_of hC2 hap _ _ _ (nds_of hC1 (ref_apart hX) _ _ _ q), boxes_two hX.1 hC1, boxes_buf hB1 hC2, hk1, fun j t3 hj1 hj2 hc => both_of_j hBo hB2 hX2 g1 g2 g3 (by omega) (by omega) (by omega) ?_ ?_ ?_ ?_ hc⟩
    · intro k off n cap z e
      have := fr2 k off n cap z e
      omega
    · intro k off n cap z e
      have := fr1 k off n cap z e
      omega
    · intro x hx k off n cap z e
      rcases nb2 x hx with q | q
      · have := vl x q k off n cap z e
        omega
      · have := q k off n cap z e
        omega
    · intro x hx k off n cap z e
      rcases nx1 x hx with q | q
      · have := wsl x q k off n cap z e
        omega
      · have := q k off n cap z e
        omega
/-- A copy goes on; the first one goes its own way. -/
theorem both_copy {s t : St} {ib ix g : Nat} {all : List (List Nd)} (h : Both s t ib ix all g) (hl99 : all.length < 100) : ∃ id' t1, acall R_BCopy false [.ptr ib 0] t = some (.ptr id' 0, t1) ∧ Both s t1 id' ix all g ∧ Keep t t1 ∧
    ∀ t2 v d, Keep t1 t2 → read ndC t2 v = some d → d.length ≤ 15 → ∃ r t3 n r3 t4, acall R_BPut false [.ptr ib 0, v] t2 = some (r, t3) ∧ acall R_BLast false [.ptr ib 0] t3 = some (n, t3) ∧ acall R_Forget false [.ptr ib 0, n] t3 = some (r3, t4) ∧ Both s t4 id' ix all g ∧ Boxes t2 t4 := by
  have hlen := h.len
  have hg := h.hg
  have hne := h.ne
  obtain ⟨dv, vs, dw, ws, hB, hX, f1, f2, f3⟩ := h.mem
  have e1 := hB.2.2.len
  rw [List.length_drop] at e1
  have bl := St.get_lt hB.1
  have xl := St.get_lt hX.1
  have dl := hB.2.1.lt
  have wl := hX.2.1.lt
  have hsn := h.keep.next
  obtain ⟨id', dv', t1, hc, hB', hid', hfr, hK⟩ := q_BCopy hB (by omega)
  have hB1 : Both s t1 id' ix all g := ⟨h.keep.trans hK, by omega, h.ix0, by omega, h.stores, h.pw, h.hg, h.small, h.len, dv', vs, dw, ws, hB', hX.keep0 hK, fun k off n cap z e => Nat.le_trans hsn (hfr k off n cap z e), f2, fun k off n cap z k' off' n' cap' z' a b => by
    have := hfr k off n cap z a
    have := wl k' off' n' cap' z' b
    omega⟩
  refine ⟨id', t1, hc, hB1, hK, fun t2 v d hK2 hr hd => ?_⟩
  have hBt := hB1.on hK2
  have hb2 := (hB.keep0 hK).keep0 hK2
  have hinB : InnerOk (all.drop g) := fun x hx => by have := h.small x (List.mem_of_mem_drop hx); omega
  -- what is done to the first one leaves the copy alone
  have key : ∀ t4, Chg (ib :: outM dv vs) t2 t4 → Both s t4 id' ix all g := fun t4 hC => by
    have hap := buf_apart hb2
    have hm : ∀ id ∈ ib :: outM dv vs, s.next ≤ id ∧ id < t.next := fun id hid => by
      rcases List.mem_cons.1 hid with rfl | q
      · exact ⟨h.ib0, bl⟩
      · obtain ⟨off, n', cap, z, e⟩ := outM_in q
        exact ⟨f1 _ _ _ _ _ e, dl _ _ _ _ _ e⟩
    have hB4 : BufR t4 id' g dv' vs (all.drop g) := (hB'.keep0 hK2).keep hC hap (fun q => by have := (hm _ q).2; omega) (fun k off n cap z e q => by
      have := (hm _ q).2
      have := hfr k off n cap z e
      omega)
    have hX4 : RefR t4 ix dw ws all g := ((hX.keep0 hK).keep0 hK2).keep hC hap (fun q => by
      rcases List.mem_cons.1 q with e | q
      · exact hne e.symm
      · obtain ⟨off, n', cap, z, e⟩ := outM_in q
        exact out_two hX.1 hB.2.1 hB.2.2 (.inr ⟨_, _, rfl⟩) _ _ _ _ _ e rfl) (fun k off n cap z e q => by
      rcases List.mem_cons.1 q with e' | q
      · exact out_two hB.1 hX.2.1 hX.2.2 (.inl ⟨_, _, rfl⟩) _ _ _ _ _ e e'
      · obtain ⟨off', n', cap', z', e'⟩ := outM_in q
        exact f3 _ _ _ _ _ _ _ _ _ _ e' e rfl)
    exact ⟨hBt.keep.chgn hC fun id hid => (hm id hid).1, hB1.ib0, h.ix0, hB1.ne, h.stores, h.pw, h.hg, h.small, h.len, dv', vs, dw, ws, hB4, hX4, fun k off n cap z e => Nat.le_trans hsn (hfr k off n cap z e), f2, fun k off n cap z k' off' n' cap' z' a b => by
      have := hfr k off n cap z a
      have := wl k' off' n' cap' z' b
      omega⟩
  cases hp : putP (all.drop g) d with
  | some er =>
    have q1 := q_BPut_err false hb2 (by omega) hr (by omega) hinB hp
    have q2 := q_BLast false hb2 (by omega)
    obtain ⟨t4, q3, _, hC, _⟩ := q_Forget_ok hb2 (by omega) (u := ((g + vs.length : Nat) : Int)) (by omega) (by omega)
    exact ⟨_, t2, _, _, t4, q1, q2, q3, key t4 (hC.mono fun id hid => by simp at hid; simp [hid]), boxes_two hb2.1 hC⟩
  | none =>
    obtain ⟨t3, q1, ⟨dv3, vs3, hb3, _, _⟩, hC, _⟩ := q_BPut_ok hb2 (by omega) hr (by omega) hinB hp
    have e3 := hb3.2.2.len
    simp only [List.length_append, List.length_drop, List.length_cons, List.length_nil] at e3
    have q2 := q_BLast false hb3 (by omega)
    obtain ⟨t4, q3, _, hC4, _⟩ := q_Forget_ok hb3 (by omega) (u := ((g + vs3.length : Nat) : Int)) (by omega) (by omega)
    exact ⟨_, t3, _, _, t4, q1, q2, q3, key t4 (hC.trans hC4 fun id hid => by simp at hid; simp [hid]), (boxes_buf hb2 hC).trans (boxes_two hb3.1 hC4)⟩
theorem stain_chg {t0 t1 t : St} {v : AV} {l : List Nd} (hO : Own ndC t0 t1 v l) (hN : Nds t1 t) (hl : l.length ≤ lim) : ∃ t3, acall stainC false [v] t = some (.tup [], t3) ∧ ((t3 = t) ∨ ∃ j, t0.next ≤ j ∧ j < t1.next ∧ Chg [j] t t3 ∧ Boxes t t3) := by
  rcases hO with ⟨rfl, rfl⟩ | ⟨j, rfl, h0, h1, hg0⟩
  · exact ⟨t, acall_rol rfl rfl, .inl rfl⟩
  · have hcl : (ndC.cells l).length = l.length * 6 := cells_len ndC l
    have hd : decL ndC l.length (ndC.cells l) = some l := by
      have := decL_cells ndC l []
      rwa [List.append_nil] at this
    have hg := hN _ _ _ hg0
    have hlt := St.get_lt hg
    have hlt1 := St.get_lt hg0
    have hn : l.length ≠ 0 := by simpa using h0
    have hC : Chg [j] t (t.put j (.row (ndC.cells (l.map stainN)) true)) := (Chg.refl _ _).put _ (.inl (by simp)) hlt
    refine ⟨t.put j (.row (ndC.cells (l.map stainN)) true), ?_, .inr ⟨j, h1, hlt1, hC, boxes_nd hg hC⟩⟩
    have hcs : stainC [.sl j 0 l.length none 6] { heap := t.heap, next := t.next, low := t.next } = some (.tup [], ({ heap := t.heap, next := t.next, low := t.next } : St).put j (.row (ndC.cells (l.map stainN)) true)) := by
      have hg' : ({ heap := t.heap, next := t.next, low := t.next } : St).get j = some (.row (ndC.cells l) true) := hg
      simp only [stainC, if_neg hn, hg', hd, hcl, hl, and_self, if_true]
    show acall stainC false [.sl j 0 l.length none 6] t = _
    simp only [acall, hcs]
    have e : (AV.tup []).ground = true := rfl
    have e3 : decide (t.next ≤ (({ heap := t.heap, next := t.next, low := t.next } : St).put j (.row (ndC.cells (l.map stainN)) true)).low) = false := decide_eq_false (by simp only [St.low_put]; omega)
    rw [e, e3]
    simp only [Bool.and_false, Bool.false_eq_true, if_false, St.put]
    congr 3
    omega
/-- What is new may be stained. -/
theorem stain_keep {t0 t : St} {v : AV} {l : List Nd} (hO : Own ndC t0 t v l) (hK : Keep t0 t) (hl : l.length ≤ lim) : ∃ t3, acall stainC false [v] t = some (.tup [], t3) ∧ Keep t0 t3 := by
  obtain ⟨t3, h1, rfl | ⟨j, h2, h3, h4, _⟩⟩ := stain_chg hO (fun _ _ _ q => q) hl
  · exact ⟨_, h1, hK⟩
  · exact ⟨t3, h1, hK.chgn h4 fun id hid => by simp at hid; subst hid; exact h2⟩
/-- From and Between on the program's buffer; what they answer is new. -/
theorem both_bfrom {s t : St} {ib ix g : Nat} {all : List (List Nd)} (h : Both s t ib ix all g) (n : Int) : ∃ v l a b t1, acall R_From false [.ptr ib 0, .int .i64 n] t = some (.tup [v, .int .i64 a, .int .i64 b], t1) ∧ Own ndC t t1 v l ∧ Keep t t1 ∧ l.length ≤ lim := by
  obtain ⟨hf1, hf2⟩ := h.flat
  have hlen := h.len
  have hg := h.hg
  obtain ⟨dv, vs, dw, ws, hB, hX, _⟩ := h.mem
  have e1 := hB.2.2.len
  rw [List.length_drop] at e1
  obtain ⟨v, t1, q, hO, hK⟩ := q_From hB (by omega) n (by omega) (by rw [List.length_drop]; omega)
  exact ⟨v, _, _, _, t1, q, hO, hK, by have := frP_len g (all.drop g) n; unfold lim; omega⟩
theorem both_bbet {s t : St} {ib ix g : Nat} {all : List (List Nd)} (h : Both s t ib ix all g) (f n : Int) : ∃ v l b t1, acall R_Between false [.ptr ib 0, .int .i64 f, .int .i64 n] t = some (.tup [v, .int .i64 b], t1) ∧ Own ndC t t1 v l ∧ Keep t t1 ∧ l.length ≤ lim := by
  obtain ⟨hf1, hf2⟩ := h.flat
  have hlen := h.len
  have hg := h.hg
  obtain ⟨dv, vs, dw, ws, hB, hX, _⟩ := h.mem
  have e1 := hB.2.2.len
  rw [List.length_drop] at e1
  obtain ⟨v, t1, q, hO, hK⟩ := q_Between hB (by omega) f n (by omega) (by rw [List.length_drop]; omega)
  exact ⟨v, _, _, t1, q, hO, hK, by have := betP_len g (all.drop g) f n; unfold lim; omega⟩
noncomputable def R_alike : Con := runFn (tb [(20, R_BFirst), (21, R_BLast), (19, R_BLen), (13, R_RFrom), (14, R_froms), (34, R_From), (28, stainC)]) a30
theorem s_alike : SoundAt Try.prog 30 R_alike := run_sound (tb_sound (l := [(20, R_BFirst), (21, R_BLast), (19, R_BLen), (13, R_RFrom), (14, R_froms), (34, R_From), (28, stainC)]) (by simpa using ⟨s_BFirst, s_BLast, s_BLen, s_RFrom, s_froms, s_From, s_stain⟩)) mixed Try.func30 k30 c30
theorem n_alike : noNxtC a30.body = true := by kernel_rfl
theorem w_alike {s : St} {s0 : St} {ib ix g : Nat} {all : List (List Nd)} (h : Both s0 s ib ix all g) : ∀ env : Env, elen env = a30.ntmps → (∀ i x_, [.ptr ib 0, .ptr ix 0][i]? = some x_ → E env i = x_) → awp (tb [(20, R_BFirst), (21, R_BLast), (19, R_BLen), (13, R_RFrom), (14, R_froms), (34, R_From), (28, stainC)]) a30.body (fun x e t => (∀ i, x ≠ .exit i) ∧ aresults e t a30.results = some (.bool true) ∧ Keep s t) env s := by
  intro env hlen ha
  have h0 : E env 0 = _ := ha 0 _ rfl
  have h1 : E env 1 = _ := ha 1 _ rfl
  have hlen : elen env = _ := hlen
  simp only [a30] at hlen
  unfold a30
  try dsimp only [oO, oG]
  have hlen' := h.len
  have hg := h.hg
  obtain ⟨dv, vs, dw, ws, hB, hX, _⟩ := h.mem
  have e1 := hB.2.2.len
  have e2 := hX.2.2.len
  rw [List.length_drop] at e1
  obtain ⟨l0, l1, lt0⟩ := row2_lod hX.1
  have lL := hX.2.1.lenV
  rw [e2] at lL
  have hw := wrap_add1 (n := g) (by omega)
  have hw2 : IntKind.i64.wrap ((all.length : Int) - (g : Int)) = ((all.length - g : Nat) : Int) := by
    rw [show (all.length : Int) - (g : Int) = ((all.length - g : Nat) : Int) by omega]
    exact wrap_nat (by omega)
  have q1 := q_BFirst true hB (by omega)
  have q2 := q_BLast true hB (by omega)
  have q3 := q_BLen true hB (by omega)
  rw [show g + vs.length = all.length by omega] at q2
  rw [e1] at q3
  obtain ⟨v, t1, q4, hO, hK1, _, qf⟩ := both_from h ((g + 1 : Nat) : Int)
  have q5 := qf t1 (h.on hK1) hO.read
  obtain ⟨v2, l2, a, b, t2, q6, hO2, hK2, hl2⟩ := both_bfrom (h.on hK1) ((g + 1 : Nat) : Int)
  obtain ⟨t3, q7, hK3⟩ := stain_keep hO2 hK2 hl2
  have q8 := qf t3 ((h.on hK1).on hK3) (hK3.read hO.read)
  have m1 := hK1.blk hX.1
  have m3 := hK3.blk m1
  obtain ⟨l01, l11, lt01⟩ := row2_lod m1
  obtain ⟨l03, l13, lt03⟩ := row2_lod m3
  simp (config := {contextual := true, maxDischargeDepth := 12}) only [tb_at, h0, h1, hlen, l0, l1, lt0, lL, hw, hw2, q1, q2, q3, q4, q5, q6, q7, q8, l01, l11, lt01, l03, l13, lt03, ↓bD, bU, forall_const, List.all_cons, List.all_nil, Option.map_some, List.map_cons, List.map_nil, ne_eq, implies_true, isNx, cs_dec, cs_not, cs_and, cs_or, cs_valid, eq_self, ↓wp_cond, ↓wp_loop, ↓reduceIte, reduceCtorEq, Nat.reduceEqDiff, Nat.reduceLT, Nat.reduceAdd, Nat.reduceMul, Int.ofNat_lt, Int.ofNat_le, exists_const, ae_app, ap_slc, Option.map_none, mkR_none, mkR_some, ar_look, ae_mset, ae_rng, ae_mkmap0, ar_ent, lookV_push, lookV_lowed, msetV_push, msetV_lowed, lt_put, same_put, sto_over, sto_lowed, cs_dead, Option.map_some, beq_self_eq_true, decide_true, cs_true, cs_false, aa_bsl, ↓sg_bsl, ap_nchk, nchkV_ptr, bin_np, bin_npn, bin_npx, bin_npnx, ap_mm, mmV_max, mmV_min, res3, ↓st_callf, aa_mksl, ae_copy, ap_slc3, slc3V_all, bin_nss, bin_nsn, aa_bsl, extV_2, q_known, beq_self_eq_true, fstep_d0, fstep_d1, fstep_nd2, fstep_ndt, fstep_ndx, bsl_nd, ap_conv, convV_int]
  exact hK1.trans hK3
theorem q_alike (cl : Bool) {s : St} {s0 : St} {ib ix g : Nat} {all : List (List Nd)} (h : Both s0 s ib ix all g) : acall R_alike cl [.ptr ib 0, .ptr ix 0] s = some (.bool true, s) := run_same n_alike (by simp [a30]) rfl (w_alike (s := lowd s) (h.on (keep_lowd s)))

end Go.AM
end
