/-
  ContextUnites in the abstract machine, with the references that it needs. Own work of this project; in part printed by a program of it.
-/
import Derived.Test.YtopklnahnidchaaGreatP5
section
set_option linter.unusedVariables false
set_option linter.unusedSimpArgs false
set_option maxRecDepth 100000
set_option maxHeartbeats 8000000
namespace Go.AM
open Go Go.Proofs

variable {s t u : St}
noncomputable def R_RVMerge : Con := runFn (tb [(58, R_RRaise)]) a31
theorem s_RVMerge : SoundAt Tryz.prog 31 R_RVMerge := run_sound (tb_sound (l := [(58, R_RRaise)]) (by simpa using s_RRaise)) mixed Tryz.func31 k31 c31
theorem n_RVMerge : noNxtC a31.body = true := by kernel_rfl
theorem w_RVMerge {s : St} {va vb : AV} {a b : List Dot} (hra : read dotC s va = some a) (hrb : read dotC s vb = some b) (hla : a.length ≤ 200000) (hlb : b.length ≤ 200000) : ∀ env : Env, elen env = a31.ntmps → (∀ i x_, [va, vb][i]? = some x_ → E env i = x_) → awp (tb [(58, R_RRaise)]) a31.body (fun x e t => (∀ i, x ≠ .exit i) ∧ ∃ r, aresults e t a31.results = some r ∧ read dotC t r = some (b.foldl raiseL a) ∧ Keep s t) env s := by
  intro env hlen ha
  have h0 : E env 0 = _ := ha 0 _ rfl
  have h1 : E env 1 = _ := ha 1 _ rfl
  have hlen : elen env = _ := hlen
  simp only [a31] at hlen
  unfold a31
  try dsimp only [oO, oG]
  have hLb := lenV_read hrb
  simp (config := {contextual := true, maxDischargeDepth := 12}) only [tb_at, h0, h1, hlen, hLb, ↓bD, bU, forall_const, List.all_cons, List.all_nil, Option.map_some, List.map_cons, List.map_nil, ne_eq, implies_true, isNx, eq_self, ↓wp_cond, ↓wp_loop, ↓reduceIte, reduceCtorEq, Nat.reduceEqDiff, Nat.reduceLT, Nat.reduceAdd, Nat.reduceMul, Int.ofNat_lt, Int.ofNat_le, exists_const, Option.map_none, beq_self_eq_true, decide_true, ↓sg_bsl, ↓st_callf, bX, ap_mkfn, ae_callvV, callvV_fn, List.cons_append, List.nil_append, boxV_i, boxV_dot, sto_dot, ap_conv, convV_int, bslV_0, fstep_d0, fstep_d1, bsl_dot, ae_appz, ap_cap, capV_nils, slcV_nils0, slcV_sl0, wrap_0, ae_clr, boxV_f, fstep_f, lod_new2, ↓st_appf, q_known, ↓sg_callf]
  obtain ⟨I, hI⟩ : ∃ I : Nat → Env → St → Prop, ∀ n e t, I n e t = (Keep s t ∧ ∃ i : Nat, n + i = b.length ∧ elen e = 19 ∧ E e 1 = vb ∧ E e 5 = .int .i64 (i : Int) ∧ read dotC t (E e 0) = some ((b.take i).foldl raiseL a)) := ⟨fun n e t => (Keep s t ∧ ∃ i : Nat, n + i = b.length ∧ elen e = 19 ∧ E e 1 = vb ∧ E e 5 = .int .i64 (i : Int) ∧ read dotC t (E e 0) = some ((b.take i).foldl raiseL a)), fun _ _ _ => rfl⟩
  refine lwp_inv I (n := b.length) ?_ ?_
  · rw [hI]
    exact ⟨.refl s, 0, by omega, (by simp only [bE, Nat.reduceEqDiff, ne_eq, not_false_eq_true, Nat.reduceLT, hlen]; try rfl), (by simp only [bE, Nat.reduceEqDiff, ne_eq, not_false_eq_true, Nat.reduceLT, hlen, h1]; try rfl), (by simp only [bE, Nat.reduceEqDiff, ne_eq, not_false_eq_true, Nat.reduceLT, hlen]; try rfl), by simp only [bE, Nat.reduceEqDiff, ne_eq, not_false_eq_true, Nat.reduceLT, hlen, h0]; exact hra⟩
  intro n e t hi
  rw [hI] at hi
  obtain ⟨hK, i, hni, he, e1, e5, hV⟩ := hi
  by_cases hlt : i < b.length
  · obtain ⟨x, hx⟩ := getsome hlt
    have hw2 := wrap_add1 (n := i) (by omega)
    obtain ⟨a1, a2, a3, a4⟩ := dot_lods hrb hK hx
    have i1 := dot_idx hrb hx .i64
    have hfl := fold_len (b.take i) a
    rw [List.length_take] at hfl
    obtain ⟨w, t', q1, ⟨hV', _⟩, hK'⟩ := q_RRaise hV (by omega) x
    simp (config := {contextual := true, maxDischargeDepth := 12}) only [tb_at, he, e1, e5, hLb, hlt, hw2, a1, a4, i1, q1, ↓bD, bU, forall_const, List.all_cons, List.all_nil, Option.map_some, List.map_cons, List.map_nil, ne_eq, implies_true, isNx, eq_self, ↓wp_cond, ↓wp_loop, ↓reduceIte, reduceCtorEq, Nat.reduceEqDiff, Nat.reduceLT, Nat.reduceAdd, Nat.reduceMul, Int.ofNat_lt, Int.ofNat_le, exists_const, Option.map_none, beq_self_eq_true, decide_true, ↓sg_bsl, ↓st_callf, bX, ap_mkfn, ae_callvV, callvV_fn, List.cons_append, List.nil_append, boxV_i, boxV_dot, sto_dot, ap_conv, convV_int, bslV_0, fstep_d0, fstep_d1, bsl_dot, ae_appz, ap_cap, capV_nils, slcV_nils0, slcV_sl0, wrap_0, ae_clr, boxV_f, fstep_f, lod_new2, ↓st_appf, q_known, ↓sg_callf]
    refine ⟨n - 1, by omega, ?_⟩
    rw [hI]
    exact ⟨hK.trans hK', i + 1, by omega, (by simp only [bE, Nat.reduceEqDiff, ne_eq, not_false_eq_true, Nat.reduceLT, he, e1, e5]; try rfl), (by simp only [bE, Nat.reduceEqDiff, ne_eq, not_false_eq_true, Nat.reduceLT, he, e1, e5]; try rfl), (by simp only [bE, Nat.reduceEqDiff, ne_eq, not_false_eq_true, Nat.reduceLT, he, e1, e5]; try rfl), by simp only [bE, Nat.reduceEqDiff, ne_eq, not_false_eq_true, Nat.reduceLT, he]; rw [take_snoc hx, List.foldl_append]; exact hV'⟩
  · obtain rfl : i = b.length := by omega
    rw [List.take_length] at hV
    simp (config := {contextual := true, maxDischargeDepth := 12}) only [tb_at, he, e1, e5, hLb, hlt, ↓bD, bU, forall_const, List.all_cons, List.all_nil, Option.map_some, List.map_cons, List.map_nil, ne_eq, implies_true, isNx, eq_self, ↓wp_cond, ↓wp_loop, ↓reduceIte, reduceCtorEq, Nat.reduceEqDiff, Nat.reduceLT, Nat.reduceAdd, Nat.reduceMul, Int.ofNat_lt, Int.ofNat_le, exists_const, Option.map_none, beq_self_eq_true, decide_true, ↓sg_bsl, ↓st_callf, bX, ap_mkfn, ae_callvV, callvV_fn, List.cons_append, List.nil_append, boxV_i, boxV_dot, sto_dot, ap_conv, convV_int, bslV_0, fstep_d0, fstep_d1, bsl_dot, ae_appz, ap_cap, capV_nils, slcV_nils0, slcV_sl0, wrap_0, ae_clr, boxV_f, fstep_f, lod_new2, ↓st_appf, q_known, ↓sg_callf]
    exact ⟨_, rfl, hV, hK⟩
theorem q_RVMerge {s : St} {va vb : AV} {a b : List Dot} (hra : read dotC s va = some a) (hrb : read dotC s vb = some b) (hla : a.length ≤ 200000) (hlb : b.length ≤ 200000) : ∃ w t, acall R_RVMerge false [va, vb] s = some (w, t) ∧ read dotC t w = some (b.foldl raiseL a) ∧ Keep s t := runR n_RVMerge (by simp [a31]) (w_RVMerge (s := lowd s) (read_low' hra) (read_low' hrb) hla hlb)
theorem q_RVMergeF {s : St} {va vb : AV} {a b : List Dot} (hra : read dotC s va = some a) (hrb : read dotC s vb = some b) (hla : a.length ≤ 200000) (hlb : b.length ≤ 200000) : ∃ w t, acallF R_RVMerge [va, vb] s = some (w, t) ∧ read dotC t w = some (b.foldl raiseL a) ∧ Keep s t := by
  obtain ⟨w, t, h1, h2, h3⟩ := q_RVMerge (s := lowd s) (read_low' hra) (read_low' hrb) hla hlb
  obtain ⟨t', g1, g2, g3, g4⟩ := acallF_keep h1 h3
  exact ⟨w, t', g1, read_mono h2 fun id b hb => by rw [g2]; exact hb, g4⟩
noncomputable def R_RVWithin : Con := runFn (tb [(56, R_RVHas)]) a34
theorem s_RVWithin : SoundAt Tryz.prog 34 R_RVWithin := run_sound (tb_sound (l := [(56, R_RVHas)]) (by simpa using s_RVHas)) mixed Tryz.func34 k34 c34
theorem n_RVWithin : noNxtC a34.body = true := by kernel_rfl
theorem w_RVWithin {s : St} {va vb : AV} {a b : List Dot} (hra : read dotC s va = some a) (hrb : read dotC s vb = some b) (hla : a.length ≤ 200000) (hlb : b.length ≤ 200000) : ∀ env : Env, elen env = a34.ntmps → (∀ i x_, [va, vb][i]? = some x_ → E env i = x_) → awp (tb [(56, R_RVHas)]) a34.body (fun x e t => (∀ i, x ≠ .exit i) ∧ aresults e t a34.results = some (.bool (a.all fun d => vhas b d)) ∧ Keep s t) env s := by
  intro env hlen ha
  have h0 : E env 0 = _ := ha 0 _ rfl
  have h1 : E env 1 = _ := ha 1 _ rfl
  have hlen : elen env = _ := hlen
  simp only [a34] at hlen
  unfold a34
  try dsimp only [oO, oG]
  have hLa := lenV_read hra
  simp (config := {contextual := true, maxDischargeDepth := 12}) only [tb_at, h0, h1, hlen, hLa, ↓bD, bU, forall_const, List.all_cons, List.all_nil, Option.map_some, List.map_cons, List.map_nil, ne_eq, implies_true, isNx, eq_self, ↓wp_cond, ↓wp_loop, ↓reduceIte, reduceCtorEq, Nat.reduceEqDiff, Nat.reduceLT, Nat.reduceAdd, Nat.reduceMul, Int.ofNat_lt, Int.ofNat_le, exists_const, Option.map_none, beq_self_eq_true, decide_true, ↓sg_bsl, ↓st_callf, bX, ap_mkfn, ae_callvV, callvV_fn, List.cons_append, List.nil_append, boxV_i, boxV_dot, sto_dot, ap_conv, convV_int, bslV_0, fstep_d0, fstep_d1, bsl_dot, ae_appz, ap_cap, capV_nils, slcV_nils0, slcV_sl0, wrap_0, ae_clr, boxV_f, fstep_f, lod_new2, ↓st_appf, q_known, ↓sg_callf]
  obtain ⟨I, hI⟩ : ∃ I : Nat → Env → St → Prop, ∀ n e t, I n e t = (t = s ∧ ∃ i : Nat, n + i = a.length ∧ elen e = 19 ∧ E e 0 = va ∧ E e 1 = vb ∧ E e 5 = .int .i64 (i : Int) ∧ ∀ k y, k < i → a[k]? = some y → vhas b y = true) := ⟨fun n e t => (t = s ∧ ∃ i : Nat, n + i = a.length ∧ elen e = 19 ∧ E e 0 = va ∧ E e 1 = vb ∧ E e 5 = .int .i64 (i : Int) ∧ ∀ k y, k < i → a[k]? = some y → vhas b y = true), fun _ _ _ => rfl⟩
  refine lwp_inv I (n := a.length) ?_ ?_
  · rw [hI]
    exact ⟨rfl, 0, by omega, (by simp only [bE, Nat.reduceEqDiff, ne_eq, not_false_eq_true, Nat.reduceLT, hlen]; try rfl), (by simp only [bE, Nat.reduceEqDiff, ne_eq, not_false_eq_true, Nat.reduceLT, hlen, h0]; try rfl), (by simp only [bE, Nat.reduceEqDiff, ne_eq, not_false_eq_true, Nat.reduceLT, hlen, h1]; try rfl), (by simp only [bE, Nat.reduceEqDiff, ne_eq, not_false_eq_true, Nat.reduceLT, hlen]; try rfl), fun k y hk => by omega⟩
  intro n e t hi
  rw [hI] at hi
  obtain ⟨hK, i, hni, he, e0, e1, e5, hpre⟩ := hi
  subst hK
  by_cases hlt : i < a.length
  · obtain ⟨x, hx⟩ := getsome hlt
    have hw2 := wrap_add1 (n := i) (by omega)
    obtain ⟨a1, a2, a3, a4⟩ := dot_lods hra (.refl _) hx
    have i1 := dot_idx hra hx .i64
    have hq := q_RVHas false hrb (by unfold lim; omega) x
    cases hp : vhas b x
    · rw [hp] at hq
      have hS : (a.all fun d => vhas b d) = false := all_false hx hp
      simp (config := {contextual := true, maxDischargeDepth := 12}) only [tb_at, he, e0, e1, e5, hLa, hlt, hw2, a1, a4, i1, hq, notV_bool, Bool.not_false, hS, ↓bD, bU, forall_const, List.all_cons, List.all_nil, Option.map_some, List.map_cons, List.map_nil, ne_eq, implies_true, isNx, eq_self, ↓wp_cond, ↓wp_loop, ↓reduceIte, reduceCtorEq, Nat.reduceEqDiff, Nat.reduceLT, Nat.reduceAdd, Nat.reduceMul, Int.ofNat_lt, Int.ofNat_le, exists_const, Option.map_none, beq_self_eq_true, decide_true, ↓sg_bsl, ↓st_callf, bX, ap_mkfn, ae_callvV, callvV_fn, List.cons_append, List.nil_append, boxV_i, boxV_dot, sto_dot, ap_conv, convV_int, bslV_0, fstep_d0, fstep_d1, bsl_dot, ae_appz, ap_cap, capV_nils, slcV_nils0, slcV_sl0, wrap_0, ae_clr, boxV_f, fstep_f, lod_new2, ↓st_appf, q_known, ↓sg_callf]
      all_goals first | exact .refl _ | skip
    · rw [hp] at hq
      simp (config := {contextual := true, maxDischargeDepth := 12}) only [tb_at, he, e0, e1, e5, hLa, hlt, hw2, a1, a4, i1, hq, notV_bool, Bool.not_true, ↓bD, bU, forall_const, List.all_cons, List.all_nil, Option.map_some, List.map_cons, List.map_nil, ne_eq, implies_true, isNx, eq_self, ↓wp_cond, ↓wp_loop, ↓reduceIte, reduceCtorEq, Nat.reduceEqDiff, Nat.reduceLT, Nat.reduceAdd, Nat.reduceMul, Int.ofNat_lt, Int.ofNat_le, exists_const, Option.map_none, beq_self_eq_true, decide_true, ↓sg_bsl, ↓st_callf, bX, ap_mkfn, ae_callvV, callvV_fn, List.cons_append, List.nil_append, boxV_i, boxV_dot, sto_dot, ap_conv, convV_int, bslV_0, fstep_d0, fstep_d1, bsl_dot, ae_appz, ap_cap, capV_nils, slcV_nils0, slcV_sl0, wrap_0, ae_clr, boxV_f, fstep_f, lod_new2, ↓st_appf, q_known, ↓sg_callf]
      refine ⟨n - 1, by omega, ?_⟩
      rw [hI]
      exact ⟨rfl, i + 1, by omega, (by simp only [bE, Nat.reduceEqDiff, ne_eq, not_false_eq_true, Nat.reduceLT, he, e0, e1, e5]; try rfl), (by simp only [bE, Nat.reduceEqDiff, ne_eq, not_false_eq_true, Nat.reduceLT, he, e0, e1, e5]; try rfl), (by simp only [bE, Nat.reduceEqDiff, ne_eq, not_false_eq_true, Nat.reduceLT, he, e0, e1, e5]; try rfl), (by simp only [bE, Nat.reduceEqDiff, ne_eq, not_false_eq_true, Nat.reduceLT, he, e0, e1, e5]; try rfl), pre_next (P := fun k y => vhas b y = true) hx hpre hp⟩
  · obtain rfl : i = a.length := by omega
    have hS : (a.all fun d => vhas b d) = true := all_at hpre
    simp (config := {contextual := true, maxDischargeDepth := 12}) only [tb_at, he, e0, e1, e5, hLa, hlt, hS, ↓bD, bU, forall_const, List.all_cons, List.all_nil, Option.map_some, List.map_cons, List.map_nil, ne_eq, implies_true, isNx, eq_self, ↓wp_cond, ↓wp_loop, ↓reduceIte, reduceCtorEq, Nat.reduceEqDiff, Nat.reduceLT, Nat.reduceAdd, Nat.reduceMul, Int.ofNat_lt, Int.ofNat_le, exists_const, Option.map_none, beq_self_eq_true, decide_true, ↓sg_bsl, ↓st_callf, bX, ap_mkfn, ae_callvV, callvV_fn, List.cons_append, List.nil_append, boxV_i, boxV_dot, sto_dot, ap_conv, convV_int, bslV_0, fstep_d0, fstep_d1, bsl_dot, ae_appz, ap_cap, capV_nils, slcV_nils0, slcV_sl0, wrap_0, ae_clr, boxV_f, fstep_f, lod_new2, ↓st_appf, q_known, ↓sg_callf]
    all_goals first | exact .refl _ | skip
theorem q_RVWithin (cl : Bool) {s : St} {va vb : AV} {a b : List Dot} (hra : read dotC s va = some a) (hrb : read dotC s vb = some b) (hla : a.length ≤ 200000) (hlb : b.length ≤ 200000) : acall R_RVWithin cl [va, vb] s = some (.bool (a.all fun d => vhas b d), s) := run_same n_RVWithin (by simp [a34]) rfl (w_RVWithin (s := lowd s) (read_low' hra) (read_low' hrb) hla hlb)
noncomputable def R_R6Union : Con := runFn (tb [(31, R_RVMerge), (32, R_RUnion), (30, R_RComp)]) a10
theorem s_R6Union : SoundAt Tryz.prog 10 R_R6Union := run_sound (tb_sound (l := [(31, R_RVMerge), (32, R_RUnion), (30, R_RComp)]) (by simpa using ⟨s_RVMerge, s_RUnion, s_RComp⟩)) mixed Tryz.func10 k10 c10
theorem n_R6Union : noNxtC a10.body = true := by kernel_rfl
theorem w_R6Union {s : St} {v w : AV} {X : DCx} (hv : read dotC s v = some X.v) (hw : read dotC s w = some X.c) (hlv : X.v.length ≤ 80000) (hlw : X.c.length ≤ 80000) {v' w' : AV} {Y : DCx} (kv : read dotC s v' = some Y.v) (kw : read dotC s w' = some Y.c) (klv : Y.v.length ≤ 80000) (klw : Y.c.length ≤ 80000) (hcx : cvalid X = true) (hcy : cvalid Y = true) : ∀ env : Env, elen env = a10.ntmps → (∀ i x_, [.agg [v, w], .agg [v', w']][i]? = some x_ → E env i = x_) → awp (tb [(31, R_RVMerge), (32, R_RUnion), (30, R_RComp)]) a10.body (fun x e t => (∀ i, x ≠ .exit i) ∧ ∃ r, aresults e t a10.results = some r ∧ (∃ vv cc, r = .agg [vv, cc] ∧ CR t vv cc (uniC X Y)) ∧ Keep s t) env s := by
  intro env hlen ha
  have h0 : E env 0 = _ := ha 0 _ rfl
  have h1 : E env 1 = _ := ha 1 _ rfl
  have hlen : elen env = _ := hlen
  simp only [a10] at hlen
  unfold a10
  try dsimp only [oO, oG]
  have hbx := boxV_2 (read_oneD hv).2 (read_oneD hw).2
  have hby := boxV_2 (read_oneD kv).2 (read_oneD kw).2
  have hK2 : Keep s ((s.push (.row [v, w] true)).push (.row [v', w'] true)) := ((Keep.refl s).push _).push _
  have hKx : Keep (s.push (.row [v, w] true)) ((s.push (.row [v, w] true)).push (.row [v', w'] true)) := (Keep.refl _).push _
  have hKy : Keep ((s.push (.row [v, w] true)).push (.row [v', w'] true)) (((s.push (.row [v, w] true)).push (.row [v', w'] true)).push (.row [.nils, .nils] true)) := (Keep.refl _).push _
  have hK3 := hK2.trans hKy
  obtain ⟨c1, c2, c3, c4⟩ := box_ctx s v w (hKx.trans hKy)
  obtain ⟨d1, d2, d3, d4⟩ := box_ctx (s.push (.row [v, w] true)) v' w' hKy
  have hst0 := sto_ctx (show sameN ((s.push (.row [v, w] true)).push (.row [v', w'] true)).next ((s.push (.row [v, w] true)).push (.row [v', w'] true)) from rfl) (a := .nils) (b := .nils) rfl rfl
  obtain ⟨m, t1, q3, hr1, hK4⟩ := q_RVMergeF (hK3.read hv) (hK3.read kv) (by omega) (by omega)
  rw [← madeL_merge ((cvalid_iff X).1 hcx).1] at hr1
  obtain ⟨c1', c2', c3', c4'⟩ := box_ctx s v w ((hKx.trans hKy).trans hK4)
  obtain ⟨d1', d2', d3', d4'⟩ := box_ctx (s.push (.row [v, w] true)) v' w' (hKy.trans hK4)
  obtain ⟨w2, t2, q4, hN2, hK5⟩ := q_RUnion ((hK3.trans hK4).read hw) ((hK3.trans hK4).read kw) (by omega) (by omega)
  have hlen1 := madeL_len (X.v ++ Y.v)
  have hlen2 := setL_len (X.c ++ Y.c)
  rw [List.length_append] at hlen1 hlen2
  have hm2 := hK5.read hr1
  obtain ⟨vv, cc, t3, q5, hR, hK6⟩ := q_RComp (X := ⟨madeL (X.v ++ Y.v), setL (X.c ++ Y.c)⟩) hm2 hN2.read (by simp only; omega) (by simp only; omega) (uni_valid hcx hcy)
  have hKr := hK4.trans (hK5.trans hK6)
  have hone := read_oneD hm2
  have hone2 := read_oneD hN2.read
  have hf0 := fstep_s0 hone.1 hone.2 .nils .nils
  have hf1 := fstep_s1 hone2.1 hone2.2 m .nils
  have hrb : t3.get ((s.push (.row [v, w] true)).push (.row [v', w'] true)).next = some (.row [.nils, .nils] true) := hKr.blk (St.get_push_new ((s.push (.row [v, w] true)).push (.row [v', w'] true)) _)
  have hstr := sto_row2 hrb (read_oneD hR.1).2 (read_oneD hR.2).2
  have hlr := St.get_lt hrb
  have hlo : lod (t3.put ((s.push (.row [v, w] true)).push (.row [v', w'] true)).next (.row [vv, cc] true)) 2 (.ptr ((s.push (.row [v, w] true)).push (.row [v', w'] true)).next 0) = some (.agg [vv, cc]) := lod_row2 (St.get_put_same hrb)
  simp (config := {contextual := true, maxDischargeDepth := 12}) only [tb_at, h0, h1, hlen, hbx, hby, c1, c2, c3, c4, d1, d2, d3, d4, c1', c2', c3', c4', d1', d2', d3', d4', q3, q4, q5, ap_build, hf0, hf1, fillP_nil, fillP_cons, hstr, hlo, rc1, reserve0, ↓bD, bU, forall_const, List.all_cons, List.all_nil, Option.map_some, List.map_cons, List.map_nil, ne_eq, implies_true, isNx, eq_self, ↓wp_cond, ↓wp_loop, ↓reduceIte, reduceCtorEq, Nat.reduceEqDiff, Nat.reduceLT, Nat.reduceAdd, Nat.reduceMul, Int.ofNat_lt, Int.ofNat_le, exists_const, Option.map_none, beq_self_eq_true, decide_true, ↓sg_bsl, ↓st_callf, bX, ap_mkfn, ae_callvV, callvV_fn, List.cons_append, List.nil_append, boxV_i, boxV_dot, sto_dot, ap_conv, convV_int, bslV_0, fstep_d0, fstep_d1, bsl_dot, ae_appz, ap_cap, capV_nils, slcV_nils0, slcV_sl0, wrap_0, ae_clr, boxV_f, fstep_f, lod_new2, ↓st_appf, q_known, ↓sg_callf]
  exact ⟨_, rfl, ⟨vv, cc, rfl, cr_put hrb (by intro k n h; cases h) hR⟩, (hK3.trans hKr).put _ (by simp; omega) hlr⟩
theorem q_R6Union {s : St} {v w : AV} {X : DCx} (hv : read dotC s v = some X.v) (hw : read dotC s w = some X.c) (hlv : X.v.length ≤ 80000) (hlw : X.c.length ≤ 80000) {v' w' : AV} {Y : DCx} (kv : read dotC s v' = some Y.v) (kw : read dotC s w' = some Y.c) (klv : Y.v.length ≤ 80000) (klw : Y.c.length ≤ 80000) (hcx : cvalid X = true) (hcy : cvalid Y = true) : ∃ vv cc t, acall R_R6Union false [.agg [v, w], .agg [v', w']] s = some (.agg [vv, cc], t) ∧ CR t vv cc (uniC X Y) ∧ Keep s t := runC n_R6Union (by simp [a10]) (w_R6Union (s := lowd s) (read_low' hv) (read_low' hw) hlv hlw (read_low' kv) (read_low' kw) klv klw hcx hcy)
theorem q_R6UnionF {s : St} {v w : AV} {X : DCx} (hv : read dotC s v = some X.v) (hw : read dotC s w = some X.c) (hlv : X.v.length ≤ 80000) (hlw : X.c.length ≤ 80000) {v' w' : AV} {Y : DCx} (kv : read dotC s v' = some Y.v) (kw : read dotC s w' = some Y.c) (klv : Y.v.length ≤ 80000) (klw : Y.c.length ≤ 80000) (hcx : cvalid X = true) (hcy : cvalid Y = true) : ∃ vv cc t, acallF R_R6Union [.agg [v, w], .agg [v', w']] s = some (.agg [vv, cc], t) ∧ CR t vv cc (uniC X Y) ∧ Keep s t := by
  obtain ⟨vv, cc, t, h1, h2, h3⟩ := q_R6Union (s := lowd s) (read_low' hv) (read_low' hw) hlv hlw (read_low' kv) (read_low' kw) klv klw hcx hcy
  obtain ⟨t', g1, g2, g3, g4⟩ := acallF_keep h1 h3
  exact ⟨vv, cc, t', g1, h2.mono fun id b hb => by rw [g2]; exact hb, g4⟩
noncomputable def R_R6Within : Con := runFn (tb [(30, R_RComp), (33, R_RCHas), (34, R_RVWithin)]) a11
theorem s_R6Within : SoundAt Tryz.prog 11 R_R6Within := run_sound (tb_sound (l := [(30, R_RComp), (33, R_RCHas), (34, R_RVWithin)]) (by simpa using ⟨s_RComp, s_RCHas, s_RVWithin⟩)) mixed Tryz.func11 k11 c11
theorem n_R6Within : noNxtC a11.body = true := by kernel_rfl
theorem w_R6Within {s : St} {v w : AV} {X : DCx} (hv : read dotC s v = some X.v) (hw : read dotC s w = some X.c) (hlv : X.v.length ≤ 80000) (hlw : X.c.length ≤ 80000) {v' w' : AV} {Y : DCx} (kv : read dotC s v' = some Y.v) (kw : read dotC s w' = some Y.c) (klv : Y.v.length ≤ 80000) (klw : Y.c.length ≤ 80000) (hcx : cvalid X = true) (hcy : cvalid Y = true) : ∀ env : Env, elen env = a11.ntmps → (∀ i x_, [.agg [v, w], .agg [v', w']][i]? = some x_ → E env i = x_) → awp (tb [(30, R_RComp), (33, R_RCHas), (34, R_RVWithin)]) a11.body (fun x e t => (∀ i, x ≠ .exit i) ∧ aresults e t a11.results = some (.bool (rwithin X Y)) ∧ Keep s t) env s := by
  intro env hlen ha
  have h0 : E env 0 = _ := ha 0 _ rfl
  have h1 : E env 1 = _ := ha 1 _ rfl
  have hlen : elen env = _ := hlen
  simp only [a11] at hlen
  unfold a11
  try dsimp only [oO, oG]
  have hbx := boxV_2 (read_oneD hv).2 (read_oneD hw).2
  have hby := boxV_2 (read_oneD kv).2 (read_oneD kw).2
  have hK2 : Keep s ((s.push (.row [v, w] true)).push (.row [v', w'] true)) := ((Keep.refl s).push _).push _
  have hKx : Keep (s.push (.row [v, w] true)) ((s.push (.row [v, w] true)).push (.row [v', w'] true)) := (Keep.refl _).push _
  have hKy : Keep ((s.push (.row [v, w] true)).push (.row [v', w'] true)) (((s.push (.row [v, w] true)).push (.row [v', w'] true)).push (.row [.nils, .nils] true)) := (Keep.refl _).push _
  have hK3 := hK2.trans hKy
  obtain ⟨c1, c2, c3, c4⟩ := box_ctx s v w hKx
  obtain ⟨d1, d2, d3, d4⟩ := box_ctx (s.push (.row [v, w] true)) v' w' (.refl _)
  obtain ⟨vr, cr, t3, q1, hR, hKa⟩ := q_RComp (hK2.read kv) (hK2.read kw) (by omega) (by omega) hcy
  have hcl := comp_len Y
  have hb3 : t3.get (s.push (.row [v, w] true)).next = some (.row [v', w'] true) := hKa.blk (St.get_push_new (s.push _) _)
  have hst := sto_row2 hb3 (read_oneD hR.1).2 (read_oneD hR.2).2
  have hlb := St.get_lt hb3
  obtain ⟨t5, ht5⟩ : ∃ t5, t5 = t3.put (s.push (.row [v, w] true)).next (.row [vr, cr] true) := ⟨_, rfl⟩
  have hK5 : Keep s t5 := by rw [ht5]; exact (hK2.trans hKa).put _ (by simp) hlb
  have hb5 : t5.get (s.push (.row [v, w] true)).next = some (.row [vr, cr] true) := by rw [ht5]; exact St.get_put_same hb3
  have hk3 : Keep (s.push (.row [v, w] true)) t5 := by rw [ht5]; exact (hKx.trans hKa).put _ (Nat.le_refl _) hlb
  obtain ⟨c1', c2', c3', c4'⟩ := box_ctx s v w hk3
  have hR5 : CR t5 vr cr (compC Y) := by
    rw [ht5]
    refine cr_put hb3 ?_ hR
    intro k n h
    have := hK2.read kv
    rw [h] at this
    simp [AM.read] at this
  have l1 := lod_row2 hb5
  obtain ⟨l2, l3, l4⟩ := row2_lod hb5
  have hL := lenV_read hw
  have hwR := hK5.read hw
  simp (config := {contextual := true, maxDischargeDepth := 12}) only [tb_at, h0, h1, hlen, hbx, hby, c1, c2, c3, c4, d1, d2, d3, d4, q1, hst, ← ht5, c1', c2', c3', c4', hL, ↓bD, bU, forall_const, List.all_cons, List.all_nil, Option.map_some, List.map_cons, List.map_nil, ne_eq, implies_true, isNx, eq_self, ↓wp_cond, ↓wp_loop, ↓reduceIte, reduceCtorEq, Nat.reduceEqDiff, Nat.reduceLT, Nat.reduceAdd, Nat.reduceMul, Int.ofNat_lt, Int.ofNat_le, exists_const, Option.map_none, beq_self_eq_true, decide_true, ↓sg_bsl, ↓st_callf, bX, ap_mkfn, ae_callvV, callvV_fn, List.cons_append, List.nil_append, boxV_i, boxV_dot, sto_dot, ap_conv, convV_int, bslV_0, fstep_d0, fstep_d1, bsl_dot, ae_appz, ap_cap, capV_nils, slcV_nils0, slcV_sl0, wrap_0, ae_clr, boxV_f, fstep_f, lod_new2, ↓st_appf, q_known, ↓sg_callf]
  obtain ⟨I, hI⟩ : ∃ I : Nat → Env → St → Prop, ∀ n e t, I n e t = (t = t5 ∧ ∃ i : Nat, n + i = X.c.length ∧ elen e = 28 ∧ E e 2 = .ptr s.next 0 ∧ E e 3 = .ptr (s.push (.row [v, w] true)).next 0 ∧ E e 5 = .int .i64 (i : Int) ∧ ∀ k y, k < i → X.c[k]? = some y → chas (compC Y) y = true) := ⟨fun n e t => (t = t5 ∧ ∃ i : Nat, n + i = X.c.length ∧ elen e = 28 ∧ E e 2 = .ptr s.next 0 ∧ E e 3 = .ptr (s.push (.row [v, w] true)).next 0 ∧ E e 5 = .int .i64 (i : Int) ∧ ∀ k y, k < i → X.c[k]? = some y → chas (compC Y) y = true), fun _ _ _ => rfl⟩
  refine lwp_inv I (n := X.c.length) ?_ ?_
  · rw [hI]
    exact ⟨rfl, 0, by omega, (by simp only [bE, Nat.reduceEqDiff, ne_eq, not_false_eq_true, Nat.reduceLT, hlen]; try rfl), (by simp only [bE, Nat.reduceEqDiff, ne_eq, not_false_eq_true, Nat.reduceLT, hlen]; try rfl), (by simp only [bE, Nat.reduceEqDiff, ne_eq, not_false_eq_true, Nat.reduceLT, hlen]; try rfl), (by simp only [bE, Nat.reduceEqDiff, ne_eq, not_false_eq_true, Nat.reduceLT, hlen]; try rfl), fun k y hk => by omega⟩
  intro n e t hi
  rw [hI] at hi
  obtain ⟨hK, i, hni, he, e2, e3, e5, hpre⟩ := hi
  rw [hK]
  by_cases hlt : i < X.c.length
  · obtain ⟨x, hx⟩ := getsome hlt
    have hw2 := wrap_add1 (n := i) (by omega)
    obtain ⟨a1, a2, a3, a4⟩ := dot_lods hw hK5 hx
    have i1 := dot_idx hw hx .i64
    have hq := q_RCHas false hR5.1 hR5.2 (by unfold lim; omega) (by unfold lim; omega) x
    cases hp : chas (compC Y) x
    · rw [hp] at hq
      have hS : rwithin X Y = false := by
        unfold rwithin
        rw [all_false hx hp, Bool.false_and]
      simp (config := {contextual := true, maxDischargeDepth := 12}) only [tb_at, he, e2, e3, e5, c1', c2', c3', c4', l1, l2, l3, l4, hL, hlt, hw2, a1, a4, i1, hq, notV_bool, Bool.not_false, hS, reserve0, ↓bD, bU, forall_const, List.all_cons, List.all_nil, Option.map_some, List.map_cons, List.map_nil, ne_eq, implies_true, isNx, eq_self, ↓wp_cond, ↓wp_loop, ↓reduceIte, reduceCtorEq, Nat.reduceEqDiff, Nat.reduceLT, Nat.reduceAdd, Nat.reduceMul, Int.ofNat_lt, Int.ofNat_le, exists_const, Option.map_none, beq_self_eq_true, decide_true, ↓sg_bsl, ↓st_callf, bX, ap_mkfn, ae_callvV, callvV_fn, List.cons_append, List.nil_append, boxV_i, boxV_dot, sto_dot, ap_conv, convV_int, bslV_0, fstep_d0, fstep_d1, bsl_dot, ae_appz, ap_cap, capV_nils, slcV_nils0, slcV_sl0, wrap_0, ae_clr, boxV_f, fstep_f, lod_new2, ↓st_appf, q_known, ↓sg_callf]
      all_goals first | exact hK5 | skip
    · rw [hp] at hq
      simp (config := {contextual := true, maxDischargeDepth := 12}) only [tb_at, he, e2, e3, e5, c1', c2', c3', c4', l1, l2, l3, l4, hL, hlt, hw2, a1, a4, i1, hq, notV_bool, Bool.not_true, reserve0, ↓bD, bU, forall_const, List.all_cons, List.all_nil, Option.map_some, List.map_cons, List.map_nil, ne_eq, implies_true, isNx, eq_self, ↓wp_cond, ↓wp_loop, ↓reduceIte, reduceCtorEq, Nat.reduceEqDiff, Nat.reduceLT, Nat.reduceAdd, Nat.reduceMul, Int.ofNat_lt, Int.ofNat_le, exists_const, Option.map_none, beq_self_eq_true, decide_true, ↓sg_bsl, ↓st_callf, bX, ap_mkfn, ae_callvV, callvV_fn, List.cons_append, List.nil_append, boxV_i, boxV_dot, sto_dot, ap_conv, convV_int, bslV_0, fstep_d0, fstep_d1, bsl_dot, ae_appz, ap_cap, capV_nils, slcV_nils0, slcV_sl0, wrap_0, ae_clr, boxV_f, fstep_f, lod_new2, ↓st_appf, q_known, ↓sg_callf]
      refine ⟨n - 1, by omega, ?_⟩
      rw [hI]
      exact ⟨rfl, i + 1, by omega, (by simp only [bE, Nat.reduceEqDiff, ne_eq, not_false_eq_true, Nat.reduceLT, he, e2, e3, e5]; try rfl), (by simp only [bE, Nat.reduceEqDiff, ne_eq, not_false_eq_true, Nat.reduceLT, he, e2, e3, e5]; try rfl), (by simp only [bE, Nat.reduceEqDiff, ne_eq, not_false_eq_true, Nat.reduceLT, he, e2, e3, e5]; try rfl), (by simp only [bE, Nat.reduceEqDiff, ne_eq, not_false_eq_true, Nat.reduceLT, he, e2, e3, e5]; try rfl), pre_next (P := fun k y => chas (compC Y) y = true) hx hpre hp⟩
  · obtain rfl : i = X.c.length := by omega
    have hS : (X.v.all fun d => vhas (compC Y).v d) = rwithin X Y := by
      unfold rwithin
      rw [all_at hpre, Bool.true_and]
    have q2 := q_RVWithin false (hK5.read hv) hR5.1 (by omega) (by omega)
    rw [hS] at q2
    simp (config := {contextual := true, maxDischargeDepth := 12}) only [tb_at, he, e2, e3, e5, c1', c2', c3', c4', l1, l2, l3, l4, hL, hlt, q2, ↓bD, bU, forall_const, List.all_cons, List.all_nil, Option.map_some, List.map_cons, List.map_nil, ne_eq, implies_true, isNx, eq_self, ↓wp_cond, ↓wp_loop, ↓reduceIte, reduceCtorEq, Nat.reduceEqDiff, Nat.reduceLT, Nat.reduceAdd, Nat.reduceMul, Int.ofNat_lt, Int.ofNat_le, exists_const, Option.map_none, beq_self_eq_true, decide_true, ↓sg_bsl, ↓st_callf, bX, ap_mkfn, ae_callvV, callvV_fn, List.cons_append, List.nil_append, boxV_i, boxV_dot, sto_dot, ap_conv, convV_int, bslV_0, fstep_d0, fstep_d1, bsl_dot, ae_appz, ap_cap, capV_nils, slcV_nils0, slcV_sl0, wrap_0, ae_clr, boxV_f, fstep_f, lod_new2, ↓st_appf, q_known, ↓sg_callf]
    all_goals first | exact hK5 | skip
theorem q_R6Within (cl : Bool) {s : St} {v w : AV} {X : DCx} (hv : read dotC s v = some X.v) (hw : read dotC s w = some X.c) (hlv : X.v.length ≤ 80000) (hlw : X.c.length ≤ 80000) {v' w' : AV} {Y : DCx} (kv : read dotC s v' = some Y.v) (kw : read dotC s w' = some Y.c) (klv : Y.v.length ≤ 80000) (klw : Y.c.length ≤ 80000) (hcx : cvalid X = true) (hcy : cvalid Y = true) : acall R_R6Within cl [.agg [v, w], .agg [v', w']] s = some (.bool (rwithin X Y), s) := run_same n_R6Within (by simp [a11]) rfl (w_R6Within (s := lowd s) (read_low' hv) (read_low' hw) hlv hlw (read_low' kv) (read_low' kw) klv klw hcx hcy)
theorem q_ownF {s : St} {v w : AV} {X : DCx} (hv : read dotC s v = some X.v) (hw : read dotC s w = some X.c) (hlv : X.v.length ≤ 400000) (hlw : X.c.length ≤ 400000) : ∃ vv cc t, acallF R_own [.agg [v, w]] s = some (.agg [vv, cc], t) ∧ CR t vv cc X ∧ Keep s t := by
  obtain ⟨vv, cc, t, h1, h2, h3⟩ := q_own (s := lowd s) (read_low' hv) (read_low' hw) hlv hlw
  obtain ⟨t', g1, g2, g3, g4⟩ := acallF_keep h1 h3
  exact ⟨vv, cc, t', g1, h2.mono fun id b hb => by rw [g2]; exact hb, g4⟩
theorem born_get {t : St} {id j : Nat} {b0 b c : AB} (h : t.get id = some b0) (hj : t.get j = some c) (hn : j ≠ id) : (t.born id b).get j = some c := by
  rw [St.get_born_ne _ _ (St.get_lt h) hn]
  exact hj
theorem cr_born {t : St} {id : Nat} {b : AB} {vv cc : AV} {X : DCx} (h : t.get id = some .unborn) (hR : CR t vv cc X) : CR (t.born id b) vv cc X := by
  have key : ∀ {v : AV} {l : List Dot}, read dotC t v = some l → read dotC (t.born id b) v = some l := by
    intro v l hr
    cases v with
    | nils => exact hr
    | sl j off n cap z =>
      obtain ⟨rfl, hn, cs, own', hg, h1, h2, _⟩ := read_sl hr
      refine read_of hn (born_get h hg ?_) h1 h2
      intro e
      rw [e, h] at hg
      cases hg
    | _ => simp [AM.read] at hr
  exact ⟨key hR.1, key hR.2⟩
theorem s_ContextUnites : SoundAt Tryz.prog 3 (lawC Tryz.prog 8 [25, 25]) :=
  con_keep (tb_sound (l := [(4, R_light), (5, closed [] (.bool true)), (6, R_RCValid), (7, R_united), (8, R_hwithin), (9, R_own), (10, R_R6Union), (11, R_R6Within), (12, R_RCEqual)]) (by simpa using ⟨s_light, s_known, s_RCValid, s_united, s_hwithin, s_own, s_R6Union, s_R6Within, s_RCEqual⟩)) mixed Tryz.func3 k3 c3 fun args s r s' h => by
    obtain ⟨hh, rfl, rfl⟩ := lawC_some h
    obtain ⟨v0, w0, rfl, hv0, hw0⟩ := rdas_2 hh
    obtain ⟨v, w, X, rfl, hv, hw⟩ := rda_ctx hv0
    obtain ⟨v', w', Y, rfl, kv, kw⟩ := rda_ctx hw0
    refine ⟨rfl, rfl, by simp [a3], fun env hlen ha => ?_⟩
    have h0 : E env 0 = _ := ha 0 _ rfl
    have h1 : E env 1 = _ := ha 1 _ rfl
    have hlen : elen env = _ := hlen
    simp only [a3] at hlen
    unfold a3
    try dsimp only [oO, oG]
    have hbx := boxV_2 (read_oneD hv).2 (read_oneD hw).2
    have hby := boxV_2 (read_oneD kv).2 (read_oneD kw).2
    have hK2 : Keep s ((s.push (.row [v, w] true)).push (.row [v', w'] true)) := ((Keep.refl s).push _).push _
    have hKx : Keep (s.push (.row [v, w] true)) ((s.push (.row [v, w] true)).push (.row [v', w'] true)) := (Keep.refl _).push _
    obtain ⟨c1, c2, c3, c4⟩ := box_ctx s v w hKx
    obtain ⟨d1, d2, d3, d4⟩ := box_ctx (s.push (.row [v, w] true)) v' w' (.refl _)
    have qa := q_light false (hK2.read hv) (hK2.read hw)
    have qb := q_light false (hK2.read kv) (hK2.read kw)
    cases hX : (decide ((X.v.length : Int) ≤ 40) && decide ((X.c.length : Int) ≤ 40))
    · rw [hX] at qa
      simp (config := {contextual := true, maxDischargeDepth := 12}) only [tb_at, h0, h1, hlen, hbx, hby, c1, c2, c3, c4, d1, d2, d3, d4, qa, notV_bool, Bool.not_false, gpure_tf, gcall_tf, pickV_t, ↓bD, bU, forall_const, List.all_cons, List.all_nil, Option.map_some, List.map_cons, List.map_nil, ne_eq, implies_true, isNx, eq_self, ↓wp_cond, ↓wp_loop, ↓reduceIte, reduceCtorEq, Nat.reduceEqDiff, Nat.reduceLT, Nat.reduceAdd, Nat.reduceMul, Int.ofNat_lt, Int.ofNat_le, exists_const, Option.map_none, beq_self_eq_true, decide_true, ↓sg_bsl, ↓st_callf, bX, ap_mkfn, ae_callvV, callvV_fn, List.cons_append, List.nil_append, boxV_i, boxV_dot, sto_dot, ap_conv, convV_int, bslV_0, fstep_d0, fstep_d1, bsl_dot, ae_appz, ap_cap, capV_nils, slcV_nils0, slcV_sl0, wrap_0, ae_clr, boxV_f, fstep_f, lod_new2, ↓st_appf, q_known, ↓sg_callf]
      all_goals exact hK2
    rw [hX] at qa
    cases hY : (decide ((Y.v.length : Int) ≤ 40) && decide ((Y.c.length : Int) ≤ 40))
    · rw [hY] at qb
      simp (config := {contextual := true, maxDischargeDepth := 12}) only [tb_at, h0, h1, hlen, hbx, hby, c1, c2, c3, c4, d1, d2, d3, d4, qa, notV_bool, qb, Bool.not_true, Bool.not_false, ↓bD, bU, forall_const, List.all_cons, List.all_nil, Option.map_some, List.map_cons, List.map_nil, ne_eq, implies_true, isNx, eq_self, ↓wp_cond, ↓wp_loop, ↓reduceIte, reduceCtorEq, Nat.reduceEqDiff, Nat.reduceLT, Nat.reduceAdd, Nat.reduceMul, Int.ofNat_lt, Int.ofNat_le, exists_const, Option.map_none, beq_self_eq_true, decide_true, ↓sg_bsl, ↓st_callf, bX, ap_mkfn, ae_callvV, callvV_fn, List.cons_append, List.nil_append, boxV_i, boxV_dot, sto_dot, ap_conv, convV_int, bslV_0, fstep_d0, fstep_d1, bsl_dot, ae_appz, ap_cap, capV_nils, slcV_nils0, slcV_sl0, wrap_0, ae_clr, boxV_f, fstep_f, lod_new2, ↓st_appf, q_known, ↓sg_callf]
      all_goals exact hK2
    rw [hY] at qb
    simp only [Bool.and_eq_true, decide_eq_true_eq] at hX hY
    have hv2 := hK2.read hv
    have hw2 := hK2.read hw
    have kv2 := hK2.read kv
    have kw2 := hK2.read kw
    have q1 := q_RCValid false hv2 hw2 (by unfold lim; omega) (by unfold lim; omega)
    have q2 := q_RCValid false kv2 kw2 (by unfold lim; omega) (by unfold lim; omega)
    by_cases hbad : (cvalid X && cvalid Y) = false
    · have q3 := q_united_bad false hv2 hw2 (by omega) (by omega) kv2 kw2 (by omega) (by omega) (Z := ⟨[], []⟩) (read_nils dotC _) (read_nils dotC _) (by simp) (by simp) 2 hbad
      have q4 := q_hwithin_bad false hv2 hw2 (by omega) (by omega) kv2 kw2 (by omega) (by omega) false 2 hbad
      have hb : (decide ((⟨[], []⟩ : DCx) = ⟨[], []⟩) && decide ((2 : Int) = 2)) = true := by decide
      have hb2 : ((false == false) && decide ((2 : Int) = 2)) = true := by decide
      rw [hb] at q3
      rw [hb2] at q4
      cases hcx : cvalid X
      · rw [hcx] at q1
        simp (config := {contextual := true, maxDischargeDepth := 12}) only [tb_at, h0, h1, hlen, hbx, hby, c1, c2, c3, c4, d1, d2, d3, d4, qa, notV_bool, qb, Bool.not_true, Bool.not_false, q1, q3, q4, ap_build, fillP_nil, gcall_tt, gcall_tf, gpure_tf, pickV_t, pickV_and, ↓bD, bU, forall_const, List.all_cons, List.all_nil, Option.map_some, List.map_cons, List.map_nil, ne_eq, implies_true, isNx, eq_self, ↓wp_cond, ↓wp_loop, ↓reduceIte, reduceCtorEq, Nat.reduceEqDiff, Nat.reduceLT, Nat.reduceAdd, Nat.reduceMul, Int.ofNat_lt, Int.ofNat_le, exists_const, Option.map_none, beq_self_eq_true, decide_true, ↓sg_bsl, ↓st_callf, bX, ap_mkfn, ae_callvV, callvV_fn, List.cons_append, List.nil_append, boxV_i, boxV_dot, sto_dot, ap_conv, convV_int, bslV_0, fstep_d0, fstep_d1, bsl_dot, ae_appz, ap_cap, capV_nils, slcV_nils0, slcV_sl0, wrap_0, ae_clr, boxV_f, fstep_f, lod_new2, ↓st_appf, q_known, ↓sg_callf]
        all_goals exact hK2
      · rw [hcx] at q1
        rw [hcx, Bool.true_and] at hbad
        rw [hbad] at q2
        simp (config := {contextual := true, maxDischargeDepth := 12}) only [tb_at, h0, h1, hlen, hbx, hby, c1, c2, c3, c4, d1, d2, d3, d4, qa, notV_bool, qb, Bool.not_true, Bool.not_false, q1, q2, q3, q4, ap_build, fillP_nil, gcall_tt, gcall_tf, gpure_tf, pickV_t, pickV_and, ↓bD, bU, forall_const, List.all_cons, List.all_nil, Option.map_some, List.map_cons, List.map_nil, ne_eq, implies_true, isNx, eq_self, ↓wp_cond, ↓wp_loop, ↓reduceIte, reduceCtorEq, Nat.reduceEqDiff, Nat.reduceLT, Nat.reduceAdd, Nat.reduceMul, Int.ofNat_lt, Int.ofNat_le, exists_const, Option.map_none, beq_self_eq_true, decide_true, ↓sg_bsl, ↓st_callf, bX, ap_mkfn, ae_callvV, callvV_fn, List.cons_append, List.nil_append, boxV_i, boxV_dot, sto_dot, ap_conv, convV_int, bslV_0, fstep_d0, fstep_d1, bsl_dot, ae_appz, ap_cap, capV_nils, slcV_nils0, slcV_sl0, wrap_0, ae_clr, boxV_f, fstep_f, lod_new2, ↓st_appf, q_known, ↓sg_callf]
        all_goals exact hK2
    have hgood : cvalid X = true ∧ cvalid Y = true := by simpa using hbad
    obtain ⟨hcx, hcy⟩ := hgood
    rw [hcx] at q1
    rw [hcy] at q2
    have hKR : Keep ((s.push (.row [v, w] true)).push (.row [v', w'] true)) (((s.push (.row [v, w] true)).push (.row [v', w'] true)).reserve 2) := keep_reserve _ 2
    obtain ⟨e1, e2, e3, e4⟩ := box_ctx s v w (hKx.trans hKR)
    obtain ⟨vm, cm, t1, q3, hRm, hKa⟩ := q_ownF ((hK2.trans hKR).read hv) ((hK2.trans hKR).read hw) (by omega) (by omega)
    obtain ⟨f1, f2, f3, f4⟩ := box_ctx (s.push (.row [v, w] true)) v' w' (hKR.trans hKa)
    obtain ⟨vn, cn, t2, q4, hRn, hKb⟩ := q_own (((hK2.trans hKR).trans hKa).read kv) (((hK2.trans hKR).trans hKa).read kw) (by omega) (by omega)
    have hgR : ∀ j, j < 2 → (((s.push (.row [v, w] true)).push (.row [v', w'] true)).reserve 2).get (((s.push (.row [v, w] true)).push (.row [v', w'] true)).next + j) = some .unborn := by
      intro j hj
      rw [St.get_reserve]
      rw [if_neg (by omega), if_pos (by omega)]
    have hnR : (((s.push (.row [v, w] true)).push (.row [v', w'] true)).reserve 2).next = ((s.push (.row [v, w] true)).push (.row [v', w'] true)).next + 2 := by simp
    have hu0 : t2.get ((s.push (.row [v, w] true)).push (.row [v', w'] true)).next = some .unborn := by
      have h1 := hKb.get ((s.push (.row [v, w] true)).push (.row [v', w'] true)).next (by have := hKa.next; omega)
      have h2 := hKa.get ((s.push (.row [v, w] true)).push (.row [v', w'] true)).next (by omega)
      rw [h1, h2]
      exact hgR 0 (by omega)
    have hu1 : t2.get (((s.push (.row [v, w] true)).push (.row [v', w'] true)).next + 1) = some .unborn := by
      have h1 := hKb.get (((s.push (.row [v, w] true)).push (.row [v', w'] true)).next + 1) (by have := hKa.next; omega)
      have h2 := hKa.get (((s.push (.row [v, w] true)).push (.row [v', w'] true)).next + 1) (by omega)
      rw [h1, h2]
      exact hgR 1 (by omega)
    have hRm2 := hRm.keep hKb
    obtain ⟨t3, ht3⟩ : ∃ t3, t3 = t2.born ((s.push (.row [v, w] true)).push (.row [v', w'] true)).next (.row [.nils, .nils] true) := ⟨_, rfl⟩
    have hu1' : t3.get (((s.push (.row [v, w] true)).push (.row [v', w'] true)).next + 1) = some .unborn := by rw [ht3]; exact born_get hu0 hu1 (by omega)
    have hg0 : t3.get ((s.push (.row [v, w] true)).push (.row [v', w'] true)).next = some (.row [.nils, .nils] true) := by rw [ht3]; exact born_self hu0 _
    obtain ⟨t4, ht4⟩ : ∃ t4, t4 = t3.born (((s.push (.row [v, w] true)).push (.row [v', w'] true)).next + 1) (.row [.nils, .nils] true) := ⟨_, rfl⟩
    have hg0' : t4.get ((s.push (.row [v, w] true)).push (.row [v', w'] true)).next = some (.row [.nils, .nils] true) := by rw [ht4]; exact born_get hu1' hg0 (by omega)
    have hg1 : t4.get (((s.push (.row [v, w] true)).push (.row [v', w'] true)).next + 1) = some (.row [.nils, .nils] true) := by rw [ht4]; exact born_self hu1' _
    have hRm4 : CR t4 vm cm X := by rw [ht4]; exact cr_born hu1' (by rw [ht3]; exact cr_born hu0 hRm2)
    have hRn4 : CR t4 vn cn Y := by rw [ht4]; exact cr_born hu1' (by rw [ht3]; exact cr_born hu0 hRn)
    have hK24 : Keep ((s.push (.row [v, w] true)).push (.row [v', w'] true)) t4 := by
      rw [ht4]
      refine Keep.born (by rw [ht3]; exact Keep.born ((hKR.trans hKa).trans hKb) _ (Nat.le_refl _) (St.get_lt hu0)) _ (by omega) (St.get_lt hu1')
    have hs0 := sto_row2 hg0' (read_oneD hRm4.1).2 (read_oneD hRm4.2).2
    obtain ⟨t5, ht5⟩ : ∃ t5, t5 = t4.put ((s.push (.row [v, w] true)).push (.row [v', w'] true)).next (.row [vm, cm] true) := ⟨_, rfl⟩
    have hlt0 := St.get_lt hg0'
    have hg5 : t5.get ((s.push (.row [v, w] true)).push (.row [v', w'] true)).next = some (.row [vm, cm] true) := by rw [ht5]; exact St.get_put_same hg0'
    have hg51 : t5.get (((s.push (.row [v, w] true)).push (.row [v', w'] true)).next + 1) = some (.row [.nils, .nils] true) := by rw [ht5, St.get_put_ne _ _ hlt0 (by omega)]; exact hg1
    have hRm5 : CR t5 vm cm X := by rw [ht5]; exact cr_put hg0' (by intro k n h; cases h) hRm4
    have hRn5 : CR t5 vn cn Y := by rw [ht5]; exact cr_put hg0' (by intro k n h; cases h) hRn4
    have hK25 : Keep ((s.push (.row [v, w] true)).push (.row [v', w'] true)) t5 := by rw [ht5]; exact hK24.put _ (Nat.le_refl _) hlt0
    have hs1 := sto_row2 hg51 (read_oneD hRn5.1).2 (read_oneD hRn5.2).2
    have hlt1 := St.get_lt hg51
    obtain ⟨t6, ht6⟩ : ∃ t6, t6 = t5.put (((s.push (.row [v, w] true)).push (.row [v', w'] true)).next + 1) (.row [vn, cn] true) := ⟨_, rfl⟩
    have hg61 : t6.get (((s.push (.row [v, w] true)).push (.row [v', w'] true)).next + 1) = some (.row [vn, cn] true) := by rw [ht6]; exact St.get_put_same hg51
    have hg6 : t6.get ((s.push (.row [v, w] true)).push (.row [v', w'] true)).next = some (.row [vm, cm] true) := by rw [ht6, St.get_put_ne _ _ hlt1 (by omega)]; exact hg5
    have hRm6 : CR t6 vm cm X := by rw [ht6]; exact cr_put hg51 (by intro k n h; cases h) hRm5
    have hRn6 : CR t6 vn cn Y := by rw [ht6]; exact cr_put hg51 (by intro k n h; cases h) hRn5
    have hK26 : Keep ((s.push (.row [v, w] true)).push (.row [v', w'] true)) t6 := by rw [ht6]; exact hK25.put _ (by omega) hlt1
    have hKs6 := hK2.trans hK26
    obtain ⟨i1, i2, i3, i4⟩ := box_ctx s v w (hKx.trans hK26)
    obtain ⟨j1, j2, j3, j4⟩ := box_ctx (s.push (.row [v, w] true)) v' w' hK26
    have m1 := lod_row2 hg6
    have m2 := lt_of_get hg6
    have m3 := lod_row2 hg61
    have m4 := lt_of_get hg61
    obtain ⟨vu, cu, t7, q5, hRu, hKd⟩ := q_R6UnionF (hKs6.read hv) (hKs6.read hw) (by omega) (by omega) (hKs6.read kv) (hKs6.read kw) (by omega) (by omega) hcx hcy
    have uu := uni_len X Y
    have hRm7 := hRm6.keep hKd
    have hRn7 := hRn6.keep hKd
    have hKs7 := hKs6.trans hKd
    have q6 := q_united false hRm7.1 hRm7.2 (by omega) (by omega) hRn7.1 hRn7.2 (by omega) (by omega) hRu.1 hRu.2 (by omega) (by omega) 0 hcx hcy
    rw [decide_eq_true rfl, decide_eq_true rfl] at q6
    have hg7 := hKd.blk hg6
    have hg71 := hKd.blk hg61
    have n1 := lod_row2 hg7
    have n2 := lt_of_get hg7
    have n3 := lod_row2 hg71
    have n4 := lt_of_get hg71
    obtain ⟨k1, k2, k3, k4⟩ := box_ctx s v w (hKx.trans (hK26.trans hKd))
    obtain ⟨l1, l2, l3, l4⟩ := box_ctx (s.push (.row [v, w] true)) v' w' (hK26.trans hKd)
    have q7 := q_R6Within true (hKs7.read hv) (hKs7.read hw) (by omega) (by omega) (hKs7.read kv) (hKs7.read kw) (by omega) (by omega) hcx hcy
    have q8 := q_hwithin false hRm7.1 hRm7.2 (by omega) (by omega) hRn7.1 hRn7.2 (by omega) (by omega) (rwithin X Y) 0 hcx hcy
    have hwi : (decide (uniC X Y = compC Y) == rwithin X Y) = true := by
      rw [beq_iff_eq, Bool.eq_iff_iff, decide_eq_true_eq, sub_iff hcx hcy, rwithin_iff hcx hcy]
    rw [hwi, decide_eq_true rfl] at q8
    have q9 := q_RCEqual false hRm7.1 hRm7.2 (by unfold lim; omega) (by unfold lim; omega) (hKs7.read hv) (hKs7.read hw) (by unfold lim; omega) (by unfold lim; omega)
    rw [decide_eq_true rfl] at q9
    have q10 := q_RCEqual false hRn7.1 hRn7.2 (by unfold lim; omega) (by unfold lim; omega) (hKs7.read kv) (hKs7.read kw) (by unfold lim; omega) (by unfold lim; omega)
    rw [decide_eq_true rfl] at q10
    simp (config := {contextual := true, maxDischargeDepth := 12}) only [tb_at, h0, h1, hlen, hbx, hby, c1, c2, c3, c4, d1, d2, d3, d4, qa, notV_bool, qb, Bool.not_true, Bool.not_false, q1, q2, e1, e4, q3, f1, f4, q4, Nat.add_zero, hu0, hu1', ← ht3, ← ht4, hs0, ← ht5, hs1, ← ht6, i1, i4, j1, j4, m1, m2, m3, m4, q5, q6, n1, n2, n3, n4, k1, k4, l1, l4, q7, q8, q9, q10, reserve0, gcall_tt, pickV_t, pickV_and, ↓bD, bU, forall_const, List.all_cons, List.all_nil, Option.map_some, List.map_cons, List.map_nil, ne_eq, implies_true, isNx, eq_self, ↓wp_cond, ↓wp_loop, ↓reduceIte, reduceCtorEq, Nat.reduceEqDiff, Nat.reduceLT, Nat.reduceAdd, Nat.reduceMul, Int.ofNat_lt, Int.ofNat_le, exists_const, Option.map_none, beq_self_eq_true, decide_true, ↓sg_bsl, ↓st_callf, bX, ap_mkfn, ae_callvV, callvV_fn, List.cons_append, List.nil_append, boxV_i, boxV_dot, sto_dot, ap_conv, convV_int, bslV_0, fstep_d0, fstep_d1, bsl_dot, ae_appz, ap_cap, capV_nils, slcV_nils0, slcV_sl0, wrap_0, ae_clr, boxV_f, fstep_f, lod_new2, ↓st_appf, q_known, ↓sg_callf]
    all_goals exact hKs7

end Go.AM
end
