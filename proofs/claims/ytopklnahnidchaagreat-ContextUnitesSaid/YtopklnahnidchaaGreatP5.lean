/-
  context.Of, Union, Within, Size. Own work of this project; in part printed by a program of it.
-/
import Derived.Test.YtopklnahnidchaaGreatP4
import Derived.KernelRfl
import Derived.ProofKit
import Derived.Carry
import Derived.Deep.Slices
import Derived.HandedShaped
import Derived.OpenShut
section
set_option linter.unusedVariables false
set_option linter.unusedSimpArgs false
set_option maxRecDepth 100000
set_option maxHeartbeats 8000000
namespace Go.AM
open Go Go.Proofs

variable {s t u : St}

theorem lod_new2 {n : Nat} {s : St} (h : sameN n s) (a b : AV) (own : Bool) : lod (s.push (.row [a, b] own)) 2 (.ptr n 0) = some (.agg [a, b]) := by
  unfold sameN at h
  subst h
  exact lod_row2 (St.get_push_new _ _)
theorem cvalid_nil : cvalid ⟨[], []⟩ = true := rfl
noncomputable def R_COf : Con := runFn (tb [(49, R_CAdd)]) a48
theorem s_COf : SoundAt Tryz.prog 48 R_COf := run_sound (tb_sound (l := [(49, R_CAdd)]) (by simpa using s_CAdd)) mixed Tryz.func48 k48 c48
theorem n_COf : noNxtC a48.body = true := by kernel_rfl
theorem w_COf_bad {s : St} {u1 : AV} {l : List Dot} (hru : read dotC s u1 = some l) (hlu : l.length ≤ 80000) (hbad : l.all Dot.valid = false) : ∀ env : Env, elen env = a48.ntmps → (∀ i x_, [u1][i]? = some x_ → E env i = x_) → awp (tb [(49, R_CAdd)]) a48.body (fun x e t => (∀ i, x ≠ .exit i) ∧ aresults e t a48.results = some (.tup [.agg [.nils, .nils], .int .i64 2]) ∧ Keep s t) env s := by
  intro env hlen ha
  have h0 : E env 0 = _ := ha 0 _ rfl
  have hlen : elen env = _ := hlen
  simp only [a48] at hlen
  unfold a48
  try dsimp only [oO, oG]
  have hK1 : Keep s (s.push (.row [.nils, .nils] true)) := (Keep.refl s).push _
  have q1 := q_CAdd_bad false (s := s.push (.row [.nils, .nils] true)) (X := ⟨[], []⟩) (read_nils dotC _) (read_nils dotC _) (by simp) (by simp) (hK1.read hru) hlu (by rw [hbad, Bool.and_false])
  have hst0 := sto_ctx (show sameN s.next s from rfl) (a := .nils) (b := .nils) rfl rfl
  simp (config := {contextual := true, maxDischargeDepth := 12}) only [tb_at, h0, hlen, q1, ap_build, fillP_nil, rc2, hst0, ↓bD, bU, forall_const, List.all_cons, List.all_nil, Option.map_some, List.map_cons, List.map_nil, ne_eq, implies_true, isNx, eq_self, ↓wp_cond, ↓wp_loop, ↓reduceIte, reduceCtorEq, Nat.reduceEqDiff, Nat.reduceLT, Nat.reduceAdd, Nat.reduceMul, Int.ofNat_lt, Int.ofNat_le, exists_const, Option.map_none, beq_self_eq_true, decide_true, ↓sg_bsl, ↓st_callf, bX, ap_mkfn, ae_callvV, callvV_fn, List.cons_append, List.nil_append, boxV_i, boxV_dot, sto_dot, ap_conv, convV_int, bslV_0, fstep_d0, fstep_d1, bsl_dot, ae_appz, ap_cap, capV_nils, slcV_nils0, slcV_sl0, wrap_0, ae_clr, boxV_f, fstep_f, lod_new2]
  all_goals exact (Keep.refl s).lowed.push _
theorem q_COf_bad (cl : Bool) {s : St} {u1 : AV} {l : List Dot} (hru : read dotC s u1 = some l) (hlu : l.length ≤ 80000) (hbad : l.all Dot.valid = false) : acall R_COf cl [u1] s = some (.tup [.agg [.nils, .nils], .int .i64 2], s) := run_same n_COf (by simp [a48]) rfl (w_COf_bad (s := lowd s) (read_low' hru) hlu hbad)
theorem w_COf {s : St} {u1 : AV} {l : List Dot} (hru : read dotC s u1 = some l) (hlu : l.length ≤ 80000) (hok : l.all Dot.valid = true) : ∀ env : Env, elen env = a48.ntmps → (∀ i x_, [u1][i]? = some x_ → E env i = x_) → awp (tb [(49, R_CAdd)]) a48.body (fun x e t => (∀ i, x ≠ .exit i) ∧ ∃ r, aresults e t a48.results = some r ∧ (∃ vv cc, r = .tup [.agg [vv, cc], .int .i64 0] ∧ CR t vv cc (addC ⟨[], []⟩ l)) ∧ Keep s t) env s := by
  intro env hlen ha
  have h0 : E env 0 = _ := ha 0 _ rfl
  have hlen : elen env = _ := hlen
  simp only [a48] at hlen
  unfold a48
  try dsimp only [oO, oG]
  have hK1 : Keep s (s.push (.row [.nils, .nils] true)) := (Keep.refl s).push _
  obtain ⟨vv, cc, t3, q1, hR, hKr⟩ := q_CAdd (s := s.push (.row [.nils, .nils] true)) (X := ⟨[], []⟩) (read_nils dotC _) (read_nils dotC _) (by simp) (by simp) (hK1.read hru) hlu cvalid_nil hok
  have hrb : t3.get (s).next = some (.row [.nils, .nils] true) := hKr.blk (St.get_push_new (s) _)
  have hstr := sto_row2 hrb (read_oneD hR.1).2 (read_oneD hR.2).2
  have hlr := St.get_lt hrb
  have hlo : lod (t3.put (s).next (.row [vv, cc] true)) 2 (.ptr (s).next 0) = some (.agg [vv, cc]) := lod_row2 (St.get_put_same hrb)
  simp (config := {contextual := true, maxDischargeDepth := 12}) only [tb_at, h0, hlen, q1, ap_build, fillP_nil, rc2, hstr, hlo, ↓bD, bU, forall_const, List.all_cons, List.all_nil, Option.map_some, List.map_cons, List.map_nil, ne_eq, implies_true, isNx, eq_self, ↓wp_cond, ↓wp_loop, ↓reduceIte, reduceCtorEq, Nat.reduceEqDiff, Nat.reduceLT, Nat.reduceAdd, Nat.reduceMul, Int.ofNat_lt, Int.ofNat_le, exists_const, Option.map_none, beq_self_eq_true, decide_true, ↓sg_bsl, ↓st_callf, bX, ap_mkfn, ae_callvV, callvV_fn, List.cons_append, List.nil_append, boxV_i, boxV_dot, sto_dot, ap_conv, convV_int, bslV_0, fstep_d0, fstep_d1, bsl_dot, ae_appz, ap_cap, capV_nils, slcV_nils0, slcV_sl0, wrap_0, ae_clr, boxV_f, fstep_f, lod_new2]
  exact ⟨_, rfl, ⟨vv, cc, rfl, cr_put hrb (by intro k n h; cases h) hR⟩, (hK1.trans hKr).put _ (by simp) hlr⟩
theorem q_COf {s : St} {u1 : AV} {l : List Dot} (hru : read dotC s u1 = some l) (hlu : l.length ≤ 80000) (hok : l.all Dot.valid = true) : ∃ vv cc t, acall R_COf false [u1] s = some (.tup [.agg [vv, cc], .int .i64 0], t) ∧ CR t vv cc (addC ⟨[], []⟩ l) ∧ Keep s t := by
  obtain ⟨r, t, h1, ⟨vv, cc, rfl, h2⟩, h3⟩ := run_any n_COf (args := [u1]) (Q := fun r t => ∃ vv cc, r = .tup [.agg [vv, cc], .int .i64 0] ∧ CR t vv cc (addC ⟨[], []⟩ l)) (by simp [a48]) (fun r t t' hg hn ⟨vv, cc, e, h⟩ => ⟨vv, cc, e, h.mono fun id b hb => by rw [hg]; exact hb⟩) (fun r t hgr hk ⟨vv, cc, e, h⟩ => ⟨vv, cc, e, by
    rw [e] at hgr
    exact h.ground (plain_ground (ground_tup hgr).1) (plain_ground (ground_tup hgr).2)⟩) (w_COf (s := lowd s) (read_low' hru) hlu hok)
  exact ⟨vv, cc, t, h1, h2, h3⟩
noncomputable def R_CUnion : Con := runFn (tb [(16, R_CValid), (52, R_VMerge), (53, R_DUnion), (35, R_CComp)]) a27
theorem s_CUnion : SoundAt Tryz.prog 27 R_CUnion := run_sound (tb_sound (l := [(16, R_CValid), (52, R_VMerge), (53, R_DUnion), (35, R_CComp)]) (by simpa using ⟨s_CValid, s_VMerge, s_DUnion, s_CComp⟩)) mixed Tryz.func27 k27 c27
theorem n_CUnion : noNxtC a27.body = true := by kernel_rfl
theorem w_CUnion_bad {s : St} {v w : AV} {X : DCx} (hv : read dotC s v = some X.v) (hw : read dotC s w = some X.c) (hlv : X.v.length ≤ 80000) (hlw : X.c.length ≤ 80000) {v' w' : AV} {Y : DCx} (kv : read dotC s v' = some Y.v) (kw : read dotC s w' = some Y.c) (klv : Y.v.length ≤ 80000) (klw : Y.c.length ≤ 80000) (hbad : (cvalid X && cvalid Y) = false) : ∀ env : Env, elen env = a27.ntmps → (∀ i x_, [.agg [v, w], .agg [v', w']][i]? = some x_ → E env i = x_) → awp (tb [(16, R_CValid), (52, R_VMerge), (53, R_DUnion), (35, R_CComp)]) a27.body (fun x e t => (∀ i, x ≠ .exit i) ∧ aresults e t a27.results = some (.tup [.agg [.nils, .nils], .int .i64 2]) ∧ Keep s t) env s := by
  intro env hlen ha
  have h0 : E env 0 = _ := ha 0 _ rfl
  have h1 : E env 1 = _ := ha 1 _ rfl
  have hlen : elen env = _ := hlen
  simp only [a27] at hlen
  unfold a27
  try dsimp only [oO, oG]
  have hbx := boxV_2 (read_oneD hv).2 (read_oneD hw).2
  have hby := boxV_2 (read_oneD kv).2 (read_oneD kw).2
  have hK2 : Keep s ((s.push (.row [v, w] true)).push (.row [v', w'] true)) := ((Keep.refl s).push _).push _
  have hKx : Keep (s.push (.row [v, w] true)) ((s.push (.row [v, w] true)).push (.row [v', w'] true)) := (Keep.refl _).push _
  have hKy : Keep ((s.push (.row [v, w] true)).push (.row [v', w'] true)) (((s.push (.row [v, w] true)).push (.row [v', w'] true)).push (.row [.nils, .nils] true)) := (Keep.refl _).push _
  have hK3 := hK2.trans hKy
  obtain ⟨c1, c2, c3, c4⟩ := box_ctx s v w (hKx.trans hKy)
  obtain ⟨d1, d2, d3, d4⟩ := box_ctx (s.push (.row [v, w] true)) v' w' hKy
  have hst0 := sto_ctx (show sameN ((s.push (.row [v, w] true)).push (.row [v', w'] true)).next ((s.push (.row [v, w] true)).push (.row [v', w'] true)) from rfl) (a := .nils) (b := .nils) rfl rfl
  have q1 := q_CValid false (hK3.read hv) (hK3.read hw) (by unfold lim; omega) (by unfold lim; omega)
  have q2 := q_CValid false (hK3.read kv) (hK3.read kw) (by unfold lim; omega) (by unfold lim; omega)
  cases hc : cvalid X
  · rw [hc] at q1
    simp (config := {contextual := true, maxDischargeDepth := 12}) only [tb_at, h0, h1, hlen, hbx, hby, c1, c2, c3, c4, d1, d2, d3, d4, q1, notV_bool, hst0, ap_build, fillP_nil, rc2, Bool.not_false, gpure_tf, gcall_tf, pickV_t, ↓bD, bU, forall_const, List.all_cons, List.all_nil, Option.map_some, List.map_cons, List.map_nil, ne_eq, implies_true, isNx, eq_self, ↓wp_cond, ↓wp_loop, ↓reduceIte, reduceCtorEq, Nat.reduceEqDiff, Nat.reduceLT, Nat.reduceAdd, Nat.reduceMul, Int.ofNat_lt, Int.ofNat_le, exists_const, Option.map_none, beq_self_eq_true, decide_true, ↓sg_bsl, ↓st_callf, bX, ap_mkfn, ae_callvV, callvV_fn, List.cons_append, List.nil_append, boxV_i, boxV_dot, sto_dot, ap_conv, convV_int, bslV_0, fstep_d0, fstep_d1, bsl_dot, ae_appz, ap_cap, capV_nils, slcV_nils0, slcV_sl0, wrap_0, ae_clr, boxV_f, fstep_f, lod_new2]
    all_goals exact hK2.lowed.push _
  · rw [hc, Bool.true_and] at hbad
    rw [hc] at q1
    rw [hbad] at q2
    simp (config := {contextual := true, maxDischargeDepth := 12}) only [tb_at, h0, h1, hlen, hbx, hby, c1, c2, c3, c4, d1, d2, d3, d4, q1, q2, notV_bool, hst0, ap_build, fillP_nil, rc2, Bool.not_true, Bool.not_false, ↓bD, bU, forall_const, List.all_cons, List.all_nil, Option.map_some, List.map_cons, List.map_nil, ne_eq, implies_true, isNx, eq_self, ↓wp_cond, ↓wp_loop, ↓reduceIte, reduceCtorEq, Nat.reduceEqDiff, Nat.reduceLT, Nat.reduceAdd, Nat.reduceMul, Int.ofNat_lt, Int.ofNat_le, exists_const, Option.map_none, beq_self_eq_true, decide_true, ↓sg_bsl, ↓st_callf, bX, ap_mkfn, ae_callvV, callvV_fn, List.cons_append, List.nil_append, boxV_i, boxV_dot, sto_dot, ap_conv, convV_int, bslV_0, fstep_d0, fstep_d1, bsl_dot, ae_appz, ap_cap, capV_nils, slcV_nils0, slcV_sl0, wrap_0, ae_clr, boxV_f, fstep_f, lod_new2]
    all_goals exact hK2.lowed.push _
theorem q_CUnion_bad (cl : Bool) {s : St} {v w : AV} {X : DCx} (hv : read dotC s v = some X.v) (hw : read dotC s w = some X.c) (hlv : X.v.length ≤ 80000) (hlw : X.c.length ≤ 80000) {v' w' : AV} {Y : DCx} (kv : read dotC s v' = some Y.v) (kw : read dotC s w' = some Y.c) (klv : Y.v.length ≤ 80000) (klw : Y.c.length ≤ 80000) (hbad : (cvalid X && cvalid Y) = false) : acall R_CUnion cl [.agg [v, w], .agg [v', w']] s = some (.tup [.agg [.nils, .nils], .int .i64 2], s) := run_same n_CUnion (by simp [a27]) rfl (w_CUnion_bad (s := lowd s) (read_low' hv) (read_low' hw) hlv hlw (read_low' kv) (read_low' kw) klv klw hbad)
theorem w_CUnion {s : St} {v w : AV} {X : DCx} (hv : read dotC s v = some X.v) (hw : read dotC s w = some X.c) (hlv : X.v.length ≤ 80000) (hlw : X.c.length ≤ 80000) {v' w' : AV} {Y : DCx} (kv : read dotC s v' = some Y.v) (kw : read dotC s w' = some Y.c) (klv : Y.v.length ≤ 80000) (klw : Y.c.length ≤ 80000) (hcx : cvalid X = true) (hcy : cvalid Y = true) : ∀ env : Env, elen env = a27.ntmps → (∀ i x_, [.agg [v, w], .agg [v', w']][i]? = some x_ → E env i = x_) → awp (tb [(16, R_CValid), (52, R_VMerge), (53, R_DUnion), (35, R_CComp)]) a27.body (fun x e t => (∀ i, x ≠ .exit i) ∧ ∃ r, aresults e t a27.results = some r ∧ (∃ vv cc, r = .tup [.agg [vv, cc], .int .i64 0] ∧ CR t vv cc (uniC X Y)) ∧ Keep s t) env s := by
  intro env hlen ha
  have h0 : E env 0 = _ := ha 0 _ rfl
  have h1 : E env 1 = _ := ha 1 _ rfl
  have hlen : elen env = _ := hlen
  simp only [a27] at hlen
  unfold a27
  try dsimp only [oO, oG]
  have hbx := boxV_2 (read_oneD hv).2 (read_oneD hw).2
  have hby := boxV_2 (read_oneD kv).2 (read_oneD kw).2
  have hK2 : Keep s ((s.push (.row [v, w] true)).push (.row [v', w'] true)) := ((Keep.refl s).push _).push _
  have hKx : Keep (s.push (.row [v, w] true)) ((s.push (.row [v, w] true)).push (.row [v', w'] true)) := (Keep.refl _).push _
  have hKy : Keep ((s.push (.row [v, w] true)).push (.row [v', w'] true)) (((s.push (.row [v, w] true)).push (.row [v', w'] true)).push (.row [.nils, .nils] true)) := (Keep.refl _).push _
  have hK3 := hK2.trans hKy
  obtain ⟨c1, c2, c3, c4⟩ := box_ctx s v w (hKx.trans hKy)
  obtain ⟨d1, d2, d3, d4⟩ := box_ctx (s.push (.row [v, w] true)) v' w' hKy
  have hst0 := sto_ctx (show sameN ((s.push (.row [v, w] true)).push (.row [v', w'] true)).next ((s.push (.row [v, w] true)).push (.row [v', w'] true)) from rfl) (a := .nils) (b := .nils) rfl rfl
  have q1 := q_CValid false (hK3.read hv) (hK3.read hw) (by unfold lim; omega) (by unfold lim; omega)
  have q2 := q_CValid false (hK3.read kv) (hK3.read kw) (by unfold lim; omega) (by unfold lim; omega)
  rw [hcx] at q1
  rw [hcy] at q2
  obtain ⟨m, t1, q3, hO1, hK4⟩ := q_VMerge (hK3.read hv) (hK3.read kv) (by omega) (by omega) ((cvalid_iff X).1 hcx).1 ((cvalid_iff Y).1 hcy).1
  obtain ⟨c1', c2', c3', c4'⟩ := box_ctx s v w ((hKx.trans hKy).trans hK4)
  obtain ⟨d1', d2', d3', d4'⟩ := box_ctx (s.push (.row [v, w] true)) v' w' (hKy.trans hK4)
  obtain ⟨w2, t2, q4, hN2, hK5⟩ := q_DUnion ((hK3.trans hK4).read hw) ((hK3.trans hK4).read kw) (by omega) (by omega)
  have hlen1 := madeL_len (X.v ++ Y.v)
  have hlen2 := setL_len (X.c ++ Y.c)
  rw [List.length_append] at hlen1 hlen2
  have hm2 := hK5.read hO1.read
  obtain ⟨vv, cc, t3, q5, hV, hC, hK6⟩ := q_CComp (X := ⟨madeL (X.v ++ Y.v), setL (X.c ++ Y.c)⟩) hm2 hN2.read (by simp only; omega) (by simp only; omega) (uni_valid hcx hcy)
  have hR : CR t3 vv cc (uniC X Y) := ⟨hV.read, hC.read⟩
  have hKr := hK4.trans (hK5.trans hK6)
  have hone := read_oneD hm2
  have hone2 := read_oneD hN2.read
  have hf0 := fstep_s0 hone.1 hone.2 .nils .nils
  have hf1 := fstep_s1 hone2.1 hone2.2 m .nils
  have hrb : t3.get ((s.push (.row [v, w] true)).push (.row [v', w'] true)).next = some (.row [.nils, .nils] true) := hKr.blk (St.get_push_new ((s.push (.row [v, w] true)).push (.row [v', w'] true)) _)
  have hstr := sto_row2 hrb (read_oneD hR.1).2 (read_oneD hR.2).2
  have hlr := St.get_lt hrb
  have hlo : lod (t3.put ((s.push (.row [v, w] true)).push (.row [v', w'] true)).next (.row [vv, cc] true)) 2 (.ptr ((s.push (.row [v, w] true)).push (.row [v', w'] true)).next 0) = some (.agg [vv, cc]) := lod_row2 (St.get_put_same hrb)
  simp (config := {contextual := true, maxDischargeDepth := 12}) only [tb_at, h0, h1, hlen, hbx, hby, c1, c2, c3, c4, d1, d2, d3, d4, c1', c2', c3', c4', d1', d2', d3', d4', q1, q2, q3, q4, q5, notV_bool, ap_build, hf0, hf1, fillP_nil, fillP_cons, hstr, hlo, rc2, Bool.not_true, ↓bD, bU, forall_const, List.all_cons, List.all_nil, Option.map_some, List.map_cons, List.map_nil, ne_eq, implies_true, isNx, eq_self, ↓wp_cond, ↓wp_loop, ↓reduceIte, reduceCtorEq, Nat.reduceEqDiff, Nat.reduceLT, Nat.reduceAdd, Nat.reduceMul, Int.ofNat_lt, Int.ofNat_le, exists_const, Option.map_none, beq_self_eq_true, decide_true, ↓sg_bsl, ↓st_callf, bX, ap_mkfn, ae_callvV, callvV_fn, List.cons_append, List.nil_append, boxV_i, boxV_dot, sto_dot, ap_conv, convV_int, bslV_0, fstep_d0, fstep_d1, bsl_dot, ae_appz, ap_cap, capV_nils, slcV_nils0, slcV_sl0, wrap_0, ae_clr, boxV_f, fstep_f, lod_new2]
  exact ⟨_, rfl, ⟨vv, cc, rfl, cr_put hrb (by intro k n h; cases h) hR⟩, (hK3.trans hKr).put _ (by simp; omega) hlr⟩
theorem q_CUnion {s : St} {v w : AV} {X : DCx} (hv : read dotC s v = some X.v) (hw : read dotC s w = some X.c) (hlv : X.v.length ≤ 80000) (hlw : X.c.length ≤ 80000) {v' w' : AV} {Y : DCx} (kv : read dotC s v' = some Y.v) (kw : read dotC s w' = some Y.c) (klv : Y.v.length ≤ 80000) (klw : Y.c.length ≤ 80000) (hcx : cvalid X = true) (hcy : cvalid Y = true) : ∃ vv cc t, acall R_CUnion false [.agg [v, w], .agg [v', w']] s = some (.tup [.agg [vv, cc], .int .i64 0], t) ∧ CR t vv cc (uniC X Y) ∧ Keep s t := by
  obtain ⟨r, t, h1, ⟨vv, cc, rfl, h2⟩, h3⟩ := run_any n_CUnion (args := [.agg [v, w], .agg [v', w']]) (Q := fun r t => ∃ vv cc, r = .tup [.agg [vv, cc], .int .i64 0] ∧ CR t vv cc (uniC X Y)) (by simp [a27]) (fun r t t' hg hn ⟨vv, cc, e, h⟩ => ⟨vv, cc, e, h.mono fun id b hb => by rw [hg]; exact hb⟩) (fun r t hgr hk ⟨vv, cc, e, h⟩ => ⟨vv, cc, e, by
    rw [e] at hgr
    exact h.ground (plain_ground (ground_tup hgr).1) (plain_ground (ground_tup hgr).2)⟩) (w_CUnion (s := lowd s) (read_low' hv) (read_low' hw) hlv hlw (read_low' kv) (read_low' kw) klv klw hcx hcy)
  exact ⟨vv, cc, t, h1, h2, h3⟩
noncomputable def R_CWithin : Con := runFn (tb [(27, R_CUnion), (35, R_CComp), (54, R_CEqual)]) a29
theorem s_CWithin : SoundAt Tryz.prog 29 R_CWithin := run_sound (tb_sound (l := [(27, R_CUnion), (35, R_CComp), (54, R_CEqual)]) (by simpa using ⟨s_CUnion, s_CComp, s_CEqual⟩)) mixed Tryz.func29 k29 c29
theorem n_CWithin : noNxtC a29.body = true := by kernel_rfl
theorem w_CWithin_bad {s : St} {v w : AV} {X : DCx} (hv : read dotC s v = some X.v) (hw : read dotC s w = some X.c) (hlv : X.v.length ≤ 80000) (hlw : X.c.length ≤ 80000) {v' w' : AV} {Y : DCx} (kv : read dotC s v' = some Y.v) (kw : read dotC s w' = some Y.c) (klv : Y.v.length ≤ 80000) (klw : Y.c.length ≤ 80000) (hbad : (cvalid X && cvalid Y) = false) : ∀ env : Env, elen env = a29.ntmps → (∀ i x_, [.agg [v, w], .agg [v', w']][i]? = some x_ → E env i = x_) → awp (tb [(27, R_CUnion), (35, R_CComp), (54, R_CEqual)]) a29.body (fun x e t => (∀ i, x ≠ .exit i) ∧ aresults e t a29.results = some (.tup [.bool false, .int .i64 2]) ∧ Keep s t) env s := by
  intro env hlen ha
  have h0 : E env 0 = _ := ha 0 _ rfl
  have h1 : E env 1 = _ := ha 1 _ rfl
  have hlen : elen env = _ := hlen
  simp only [a29] at hlen
  unfold a29
  try dsimp only [oO, oG]
  have hbx := boxV_2 (read_oneD hv).2 (read_oneD hw).2
  have hby := boxV_2 (read_oneD kv).2 (read_oneD kw).2
  have hK2 : Keep s ((s.push (.row [v, w] true)).push (.row [v', w'] true)) := ((Keep.refl s).push _).push _
  have hKx : Keep (s.push (.row [v, w] true)) ((s.push (.row [v, w] true)).push (.row [v', w'] true)) := (Keep.refl _).push _
  have hKy : Keep ((s.push (.row [v, w] true)).push (.row [v', w'] true)) (((s.push (.row [v, w] true)).push (.row [v', w'] true)).push (.row [.nils, .nils] true)) := (Keep.refl _).push _
  have hK3 := hK2.trans hKy
  obtain ⟨c1, c2, c3, c4⟩ := box_ctx s v w hKx
  obtain ⟨d1, d2, d3, d4⟩ := box_ctx (s.push (.row [v, w] true)) v' w' (.refl _)
  have q1 := q_CUnion_bad false (hK2.read hv) (hK2.read hw) hlv hlw (hK2.read kv) (hK2.read kw) klv klw hbad
  have hst := sto_ctx (show sameN ((s.push (.row [v, w] true)).push (.row [v', w'] true)).next ((s.push (.row [v, w] true)).push (.row [v', w'] true)) from rfl) (a := .nils) (b := .nils) rfl rfl
  simp (config := {contextual := true, maxDischargeDepth := 12}) only [tb_at, h0, h1, hlen, hbx, hby, c1, c2, c3, c4, d1, d2, d3, d4, q1, hst, Int.reduceEq, ↓bD, bU, forall_const, List.all_cons, List.all_nil, Option.map_some, List.map_cons, List.map_nil, ne_eq, implies_true, isNx, eq_self, ↓wp_cond, ↓wp_loop, ↓reduceIte, reduceCtorEq, Nat.reduceEqDiff, Nat.reduceLT, Nat.reduceAdd, Nat.reduceMul, Int.ofNat_lt, Int.ofNat_le, exists_const, Option.map_none, beq_self_eq_true, decide_true, ↓sg_bsl, ↓st_callf, bX, ap_mkfn, ae_callvV, callvV_fn, List.cons_append, List.nil_append, boxV_i, boxV_dot, sto_dot, ap_conv, convV_int, bslV_0, fstep_d0, fstep_d1, bsl_dot, ae_appz, ap_cap, capV_nils, slcV_nils0, slcV_sl0, wrap_0, ae_clr, boxV_f, fstep_f, lod_new2]
  all_goals exact hK2.lowed.push _
theorem q_CWithin_bad (cl : Bool) {s : St} {v w : AV} {X : DCx} (hv : read dotC s v = some X.v) (hw : read dotC s w = some X.c) (hlv : X.v.length ≤ 80000) (hlw : X.c.length ≤ 80000) {v' w' : AV} {Y : DCx} (kv : read dotC s v' = some Y.v) (kw : read dotC s w' = some Y.c) (klv : Y.v.length ≤ 80000) (klw : Y.c.length ≤ 80000) (hbad : (cvalid X && cvalid Y) = false) : acall R_CWithin cl [.agg [v, w], .agg [v', w']] s = some (.tup [.bool false, .int .i64 2], s) := run_same n_CWithin (by simp [a29]) rfl (w_CWithin_bad (s := lowd s) (read_low' hv) (read_low' hw) hlv hlw (read_low' kv) (read_low' kw) klv klw hbad)

theorem uni_len (X Y : DCx) : (uniC X Y).v.length ≤ X.v.length + Y.v.length + (X.c.length + Y.c.length) ∧ (uniC X Y).c.length ≤ X.c.length + Y.c.length := by
  have h := comp_len ⟨madeL (X.v ++ Y.v), setL (X.c ++ Y.c)⟩
  have h1 := madeL_len (X.v ++ Y.v)
  have h2 := setL_len (X.c ++ Y.c)
  rw [List.length_append] at h1 h2
  unfold uniC
  simp only at h
  omega
theorem add_len (X : DCx) (l : List Dot) : (addC X l).v.length ≤ X.v.length + (X.c.length + l.length) ∧ (addC X l).c.length ≤ X.c.length + l.length := by
  have h := comp_len ⟨X.v, setL (X.c ++ l)⟩
  have h2 := setL_len (X.c ++ l)
  rw [List.length_append] at h2
  unfold addC
  simp only at h
  omega
theorem w_CWithin {s : St} {v w : AV} {X : DCx} (hv : read dotC s v = some X.v) (hw : read dotC s w = some X.c) (hlv : X.v.length ≤ 80000) (hlw : X.c.length ≤ 80000) {v' w' : AV} {Y : DCx} (kv : read dotC s v' = some Y.v) (kw : read dotC s w' = some Y.c) (klv : Y.v.length ≤ 80000) (klw : Y.c.length ≤ 80000) (hcx : cvalid X = true) (hcy : cvalid Y = true) : ∀ env : Env, elen env = a29.ntmps → (∀ i x_, [.agg [v, w], .agg [v', w']][i]? = some x_ → E env i = x_) → awp (tb [(27, R_CUnion), (35, R_CComp), (54, R_CEqual)]) a29.body (fun x e t => (∀ i, x ≠ .exit i) ∧ aresults e t a29.results = some (.tup [.bool (decide (uniC X Y = compC Y)), .int .i64 0]) ∧ Keep s t) env s := by
  intro env hlen ha
  have h0 : E env 0 = _ := ha 0 _ rfl
  have h1 : E env 1 = _ := ha 1 _ rfl
  have hlen : elen env = _ := hlen
  simp only [a29] at hlen
  unfold a29
  try dsimp only [oO, oG]
  have hbx := boxV_2 (read_oneD hv).2 (read_oneD hw).2
  have hby := boxV_2 (read_oneD kv).2 (read_oneD kw).2
  have hK2 : Keep s ((s.push (.row [v, w] true)).push (.row [v', w'] true)) := ((Keep.refl s).push _).push _
  have hKx : Keep (s.push (.row [v, w] true)) ((s.push (.row [v, w] true)).push (.row [v', w'] true)) := (Keep.refl _).push _
  have hKy : Keep ((s.push (.row [v, w] true)).push (.row [v', w'] true)) (((s.push (.row [v, w] true)).push (.row [v', w'] true)).push (.row [.nils, .nils] true)) := (Keep.refl _).push _
  have hK3 := hK2.trans hKy
  obtain ⟨c1, c2, c3, c4⟩ := box_ctx s v w hKx
  obtain ⟨d1, d2, d3, d4⟩ := box_ctx (s.push (.row [v, w] true)) v' w' (.refl _)
  obtain ⟨vv, cc, t1, q1, hR1, hK4⟩ := q_CUnion (hK2.read hv) (hK2.read hw) hlv hlw (hK2.read kv) (hK2.read kw) klv klw hcx hcy
  have hst := sto_ctx (show sameN t1.next t1 from rfl) (read_oneD hR1.1).2 (read_oneD hR1.2).2
  have hK5 : Keep t1 (t1.lowed.push (.row [vv, cc] true)) := (Keep.refl t1).lowed.push _
  obtain ⟨d1', d2', d3', d4'⟩ := box_ctx (s.push (.row [v, w] true)) v' w' (hK4.trans hK5)
  have hK25 := hK2.trans (hK4.trans hK5)
  obtain ⟨v2, c2_, t2, q2, hV2, hC2, hK6⟩ := q_CComp (hK25.read kv) (hK25.read kw) (by omega) (by omega) hcy
  have hst2 := sto_ctx (show sameN t2.next t2 from rfl) (read_oneD hV2.read).2 (read_oneD hC2.read).2
  have hK7 : Keep t2 (t2.lowed.push (.row [v2, c2_] true)) := (Keep.refl t2).lowed.push _
  have hbu : (t2.lowed.push (.row [v2, c2_] true)).get t1.next = some (.row [vv, cc] true) := (hK6.trans hK7).blk (St.get_push_new t1.lowed _)
  have hlu := lod_row2 hbu
  have hltu := lt_of_get hbu
  have hul := uni_len X Y
  have hcl := comp_len Y
  have hRu := hR1.keep (hK5.trans (hK6.trans hK7))
  have q3 := q_CEqual false hRu.1 hRu.2 (by unfold lim; omega) (by unfold lim; omega) (hK7.read hV2.read) (hK7.read hC2.read) (by unfold lim; omega) (by unfold lim; omega)
  simp (config := {contextual := true, maxDischargeDepth := 12}) only [tb_at, h0, h1, hlen, hbx, hby, c1, c2, c3, c4, d1, d2, d3, d4, q1, hst, d1', d4', q2, hst2, hlu, hltu, q3, Int.reduceEq, ↓bD, bU, forall_const, List.all_cons, List.all_nil, Option.map_some, List.map_cons, List.map_nil, ne_eq, implies_true, isNx, eq_self, ↓wp_cond, ↓wp_loop, ↓reduceIte, reduceCtorEq, Nat.reduceEqDiff, Nat.reduceLT, Nat.reduceAdd, Nat.reduceMul, Int.ofNat_lt, Int.ofNat_le, exists_const, Option.map_none, beq_self_eq_true, decide_true, ↓sg_bsl, ↓st_callf, bX, ap_mkfn, ae_callvV, callvV_fn, List.cons_append, List.nil_append, boxV_i, boxV_dot, sto_dot, ap_conv, convV_int, bslV_0, fstep_d0, fstep_d1, bsl_dot, ae_appz, ap_cap, capV_nils, slcV_nils0, slcV_sl0, wrap_0, ae_clr, boxV_f, fstep_f, lod_new2]
  all_goals exact hK25.trans (hK6.trans hK7)
theorem q_CWithin (cl : Bool) {s : St} {v w : AV} {X : DCx} (hv : read dotC s v = some X.v) (hw : read dotC s w = some X.c) (hlv : X.v.length ≤ 80000) (hlw : X.c.length ≤ 80000) {v' w' : AV} {Y : DCx} (kv : read dotC s v' = some Y.v) (kw : read dotC s w' = some Y.c) (klv : Y.v.length ≤ 80000) (klw : Y.c.length ≤ 80000) (hcx : cvalid X = true) (hcy : cvalid Y = true) : acall R_CWithin cl [.agg [v, w], .agg [v', w']] s = some (.tup [.bool (decide (uniC X Y = compC Y)), .int .i64 0], s) := run_same n_CWithin (by simp [a29]) rfl (w_CWithin (s := lowd s) (read_low' hv) (read_low' hw) hlv hlw (read_low' kv) (read_low' kw) klv klw hcx hcy)

theorem u64_id {n : Int} (h0 : 0 ≤ n) (h1 : n < 18446744073709551616) : IntKind.u64.wrap n = n := by
  simp [IntKind.wrap, IntKind.signed, IntKind.bits]
  omega
theorem sumC_bd : ∀ {l : List Dot}, (∀ x ∈ l, x.valid = true) → 0 ≤ sumC l ∧ sumC l ≤ l.length * 4294967295
  | [], _ => by simp [sumC]
  | x :: r, h => by
    have h1 := sumC_bd (l := r) fun y hy => h y (by simp [hy])
    have h2 := (valid_iff x).1 (h x (by simp))
    simp only [sumC, List.length_cons]
    omega
theorem sumC_snoc (l : List Dot) (x : Dot) : sumC (l ++ [x]) = sumC l + x.c := by
  rw [sumC_app]
  simp [sumC]
noncomputable def R_CSize : Con := runFn (tb [(35, R_CComp)]) a19
theorem s_CSize : SoundAt Tryz.prog 19 R_CSize := run_sound (tb_sound (l := [(35, R_CComp)]) (by simpa using s_CComp)) mixed Tryz.func19 k19 c19
theorem n_CSize : noNxtC a19.body = true := by kernel_rfl
theorem w_CSize_bad {s : St} {v w : AV} {X : DCx} (hv : read dotC s v = some X.v) (hw : read dotC s w = some X.c) (hlv : X.v.length ≤ 80000) (hlw : X.c.length ≤ 80000) (hbad : cvalid X = false) : ∀ env : Env, elen env = a19.ntmps → (∀ i x_, [.agg [v, w]][i]? = some x_ → E env i = x_) → awp (tb [(35, R_CComp)]) a19.body (fun x e t => (∀ i, x ≠ .exit i) ∧ aresults e t a19.results = some (.int .u64 0) ∧ Keep s t) env s := by
  intro env hlen ha
  have h0 : E env 0 = _ := ha 0 _ rfl
  have hlen : elen env = _ := hlen
  simp only [a19] at hlen
  unfold a19
  try dsimp only [oO, oG]
  have hbx := boxV_2 (read_oneD hv).2 (read_oneD hw).2
  have hK1 : Keep s (s.push (.row [v, w] true)) := (Keep.refl s).push _
  obtain ⟨c1, c2, c3, c4⟩ := box_ctx s v w (.refl _)
  have q1 := q_CComp_bad false (hK1.read hv) (hK1.read hw) (by unfold lim; omega) (by unfold lim; omega) hbad
  have hg := St.get_push_new s (.row [v, w] true)
  have hst := sto_row2 hg (x := .nils) (y := .nils) rfl rfl
  have hlt := St.get_lt hg
  have hg2 : (s.lowed.push (.row [.nils, .nils] true)).get s.next = some (.row [.nils, .nils] true) := St.get_push_new s.lowed _
  obtain ⟨e1, e2, e3⟩ := row2_lod hg2
  have hK2 : Keep s (s.lowed.push (.row [.nils, .nils] true)) := (Keep.refl s).lowed.push _
  have hw0 : IntKind.u64.wrap 0 = 0 := by decide
  simp (config := {contextual := true, maxDischargeDepth := 12}) only [tb_at, h0, hlen, hbx, c1, c2, c3, c4, q1, hst, e1, e2, lenV_nils, hw0, ↓bD, bU, forall_const, List.all_cons, List.all_nil, Option.map_some, List.map_cons, List.map_nil, ne_eq, implies_true, isNx, eq_self, ↓wp_cond, ↓wp_loop, ↓reduceIte, reduceCtorEq, Nat.reduceEqDiff, Nat.reduceLT, Nat.reduceAdd, Nat.reduceMul, Int.ofNat_lt, Int.ofNat_le, exists_const, Option.map_none, beq_self_eq_true, decide_true, ↓sg_bsl, ↓st_callf, bX, ap_mkfn, ae_callvV, callvV_fn, List.cons_append, List.nil_append, boxV_i, boxV_dot, sto_dot, ap_conv, convV_int, bslV_0, fstep_d0, fstep_d1, bsl_dot, ae_appz, ap_cap, capV_nils, slcV_nils0, slcV_sl0, wrap_0, ae_clr, boxV_f, fstep_f, lod_new2]
  obtain ⟨I, hI⟩ : ∃ I : Nat → Env → St → Prop, ∀ n e t, I n e t = (t = s.lowed.push (.row [.nils, .nils] true) ∧ ∃ i : Nat, n + i = 0 ∧ elen e = 29 ∧ E e 17 = .int .i64 0 ∧ E e 18 = .int .i64 0 ∧ E e 3 = .int .u64 0) := ⟨fun n e t => (t = s.lowed.push (.row [.nils, .nils] true) ∧ ∃ i : Nat, n + i = 0 ∧ elen e = 29 ∧ E e 17 = .int .i64 0 ∧ E e 18 = .int .i64 0 ∧ E e 3 = .int .u64 0), fun _ _ _ => rfl⟩
  refine lwp_inv I (n := 0) ?_ ?_
  · rw [hI]
    exact ⟨rfl, 0, by omega, (by simp only [bE, Nat.reduceEqDiff, ne_eq, not_false_eq_true, Nat.reduceLT, hlen]; try rfl), (by simp only [bE, Nat.reduceEqDiff, ne_eq, not_false_eq_true, Nat.reduceLT, hlen]; try rfl), (by simp only [bE, Nat.reduceEqDiff, ne_eq, not_false_eq_true, Nat.reduceLT, hlen]; try rfl), (by simp only [bE, Nat.reduceEqDiff, ne_eq, not_false_eq_true, Nat.reduceLT, hlen]; try rfl)⟩
  intro n e t hi
  rw [hI] at hi
  obtain ⟨hK, i, hni, he, e17, e18, e3⟩ := hi
  subst hK
  simp (config := {contextual := true, maxDischargeDepth := 12}) only [tb_at, he, e17, e18, e3, Int.reduceLT, ↓bD, bU, forall_const, List.all_cons, List.all_nil, Option.map_some, List.map_cons, List.map_nil, ne_eq, implies_true, isNx, eq_self, ↓wp_cond, ↓wp_loop, ↓reduceIte, reduceCtorEq, Nat.reduceEqDiff, Nat.reduceLT, Nat.reduceAdd, Nat.reduceMul, Int.ofNat_lt, Int.ofNat_le, exists_const, Option.map_none, beq_self_eq_true, decide_true, ↓sg_bsl, ↓st_callf, bX, ap_mkfn, ae_callvV, callvV_fn, List.cons_append, List.nil_append, boxV_i, boxV_dot, sto_dot, ap_conv, convV_int, bslV_0, fstep_d0, fstep_d1, bsl_dot, ae_appz, ap_cap, capV_nils, slcV_nils0, slcV_sl0, wrap_0, ae_clr, boxV_f, fstep_f, lod_new2]
  all_goals exact hK2
theorem q_CSize_bad (cl : Bool) {s : St} {v w : AV} {X : DCx} (hv : read dotC s v = some X.v) (hw : read dotC s w = some X.c) (hlv : X.v.length ≤ 80000) (hlw : X.c.length ≤ 80000) (hbad : cvalid X = false) : acall R_CSize cl [.agg [v, w]] s = some (.int .u64 0, s) := run_same n_CSize (by simp [a19]) rfl (w_CSize_bad (s := lowd s) (read_low' hv) (read_low' hw) hlv hlw hbad)
theorem w_CSize {s : St} {v w : AV} {X : DCx} (hv : read dotC s v = some X.v) (hw : read dotC s w = some X.c) (hlv : X.v.length ≤ 80000) (hlw : X.c.length ≤ 80000) (hcv : cvalid X = true) : ∀ env : Env, elen env = a19.ntmps → (∀ i x_, [.agg [v, w]][i]? = some x_ → E env i = x_) → awp (tb [(35, R_CComp)]) a19.body (fun x e t => (∀ i, x ≠ .exit i) ∧ aresults e t a19.results = some (.int .u64 (sizeC X)) ∧ Keep s t) env s := by
  intro env hlen ha
  have h0 : E env 0 = _ := ha 0 _ rfl
  have hlen : elen env = _ := hlen
  simp only [a19] at hlen
  unfold a19
  try dsimp only [oO, oG]
  have hbx := boxV_2 (read_oneD hv).2 (read_oneD hw).2
  have hK1 : Keep s (s.push (.row [v, w] true)) := (Keep.refl s).push _
  obtain ⟨c1, c2, c3, c4⟩ := box_ctx s v w (.refl _)
  obtain ⟨vv, cc, t1, q1, hV, hC, hK2⟩ := q_CComp (hK1.read hv) (hK1.read hw) (by omega) (by omega) hcv
  have hg : t1.get s.next = some (.row [v, w] true) := hK2.blk (St.get_push_new s _)
  have hst := sto_row2 hg (read_oneD hV.read).2 (read_oneD hC.read).2
  have hlt := St.get_lt hg
  obtain ⟨t4, ht4⟩ : ∃ t4, t4 = t1.put s.next (.row [vv, cc] true) := ⟨_, rfl⟩
  rw [← ht4] at hst
  have hg2 : t4.get s.next = some (.row [vv, cc] true) := by rw [ht4]; exact St.get_put_same hg
  obtain ⟨f1, f2, f3⟩ := row2_lod hg2
  have hK4 : Keep s t4 := by rw [ht4]; exact (hK1.trans hK2).put _ (Nat.le_refl _) hlt
  have hCh : Chg [s.next] t1 t4 := by rw [ht4]; exact (Chg.refl _ _).put _ (.inl (by simp)) hlt
  have hV4 : NewX dotC (s.push (.row [v, w] true)) t4 vv (compC X).v := hV.keep hCh fun id hid => by
    have := newX_vids hV id hid
    simp at this ⊢
    omega
  have hC4 : Own dotC (s.push (.row [v, w] true)) t4 cc (compC X).c := hC.keep hCh fun id hid => by
    have := own_vids hC id hid
    simp at this ⊢
    omega
  have hLv := lenV_read hV4.read
  have hLc := lenV_read hC4.read
  have hcl := comp_len X
  have hvv := ((cvalid_iff _).1 (comp_valid hcv)).1
  have hvm := ((vvalid_iff _).1 hvv).2
  have hw0 : IntKind.u64.wrap ((compC X).c.length : Int) = ((compC X).c.length : Int) := u64_id (by omega) (by omega)
  have hs0 : ((compC X).c.length : Int) = ((compC X).c.length : Int) + sumC ((compC X).v.take 0) := by simp [sumC]
  simp (config := {contextual := true, maxDischargeDepth := 12}) only [tb_at, h0, hlen, hbx, c1, c2, c3, c4, q1, hst, f1, f2, f3, hLv, hLc, hw0, ↓bD, bU, forall_const, List.all_cons, List.all_nil, Option.map_some, List.map_cons, List.map_nil, ne_eq, implies_true, isNx, eq_self, ↓wp_cond, ↓wp_loop, ↓reduceIte, reduceCtorEq, Nat.reduceEqDiff, Nat.reduceLT, Nat.reduceAdd, Nat.reduceMul, Int.ofNat_lt, Int.ofNat_le, exists_const, Option.map_none, beq_self_eq_true, decide_true, ↓sg_bsl, ↓st_callf, bX, ap_mkfn, ae_callvV, callvV_fn, List.cons_append, List.nil_append, boxV_i, boxV_dot, sto_dot, ap_conv, convV_int, bslV_0, fstep_d0, fstep_d1, bsl_dot, ae_appz, ap_cap, capV_nils, slcV_nils0, slcV_sl0, wrap_0, ae_clr, boxV_f, fstep_f, lod_new2]
  obtain ⟨I, hI⟩ : ∃ I : Nat → Env → St → Prop, ∀ n e t, I n e t = (Keep t4 t ∧ ∃ i : Nat, n + i = (compC X).v.length ∧ elen e = 29 ∧ E e 16 = vv ∧ E e 17 = .int .i64 ((compC X).v.length : Int) ∧ E e 18 = .int .i64 (i : Int) ∧ E e 3 = .int .u64 (((compC X).c.length : Int) + sumC ((compC X).v.take i))) := ⟨fun n e t => (Keep t4 t ∧ ∃ i : Nat, n + i = (compC X).v.length ∧ elen e = 29 ∧ E e 16 = vv ∧ E e 17 = .int .i64 ((compC X).v.length : Int) ∧ E e 18 = .int .i64 (i : Int) ∧ E e 3 = .int .u64 (((compC X).c.length : Int) + sumC ((compC X).v.take i))), fun _ _ _ => rfl⟩
  refine lwp_inv I (n := (compC X).v.length) ?_ ?_
  · rw [hI]
    exact ⟨.refl _, 0, by omega, (by simp only [bE, Nat.reduceEqDiff, ne_eq, not_false_eq_true, Nat.reduceLT, hlen]; try rfl), (by simp only [bE, Nat.reduceEqDiff, ne_eq, not_false_eq_true, Nat.reduceLT, hlen]; try rfl), (by simp only [bE, Nat.reduceEqDiff, ne_eq, not_false_eq_true, Nat.reduceLT, hlen]; try rfl), (by simp only [bE, Nat.reduceEqDiff, ne_eq, not_false_eq_true, Nat.reduceLT, hlen]; try rfl), by simp only [bE, Nat.reduceEqDiff, ne_eq, not_false_eq_true, Nat.reduceLT, hlen]; rw [← hs0]⟩
  clear q1 hst c1 c2 c3 c4 f1 f2 f3
  intro n e t hi
  rw [hI] at hi
  obtain ⟨hK, i, hni, he, e16, e17, e18, e3⟩ := hi
  by_cases hlt : i < (compC X).v.length
  · obtain ⟨x, hx⟩ := getsome hlt
    have hw2 := wrap_add1 (n := i) (by omega)
    obtain ⟨a1, a2, a3, a4⟩ := dot_lods hV4.read hK hx
    have i1 := dot_idx hV4.read hx .i64
    have hxv := (valid_iff x).1 (hvm x (mem_at hx))
    have hwc : IntKind.u64.wrap x.c = x.c := u64_id (by omega) (by omega)
    have hsb := sumC_bd (l := (compC X).v.take i) fun y hy => hvm y (List.mem_of_mem_take hy)
    rw [List.length_take] at hsb
    have hws : IntKind.u64.wrap (((compC X).c.length : Int) + sumC ((compC X).v.take i) + x.c) = ((compC X).c.length : Int) + sumC ((compC X).v.take (i + 1)) := by
      rw [take_snoc hx, sumC_snoc, u64_id (by omega) (by omega)]
      omega
    simp (config := {contextual := true, maxDischargeDepth := 12}) only [tb_at, he, e16, e17, e18, e3, hLv, hlt, hw2, a1, a4, i1, hwc, hws, ↓bD, bU, forall_const, List.all_cons, List.all_nil, Option.map_some, List.map_cons, List.map_nil, ne_eq, implies_true, isNx, eq_self, ↓wp_cond, ↓wp_loop, ↓reduceIte, reduceCtorEq, Nat.reduceEqDiff, Nat.reduceLT, Nat.reduceAdd, Nat.reduceMul, Int.ofNat_lt, Int.ofNat_le, exists_const, Option.map_none, beq_self_eq_true, decide_true, ↓sg_bsl, ↓st_callf, bX, ap_mkfn, ae_callvV, callvV_fn, List.cons_append, List.nil_append, boxV_i, boxV_dot, sto_dot, ap_conv, convV_int, bslV_0, fstep_d0, fstep_d1, bsl_dot, ae_appz, ap_cap, capV_nils, slcV_nils0, slcV_sl0, wrap_0, ae_clr, boxV_f, fstep_f, lod_new2]
    refine ⟨n - 1, by omega, ?_⟩
    rw [hI]
    exact ⟨hK.lowed.push _, i + 1, by omega, (by simp only [bE, Nat.reduceEqDiff, ne_eq, not_false_eq_true, Nat.reduceLT, he, e16, e17, e18, e3]; try rfl), (by simp only [bE, Nat.reduceEqDiff, ne_eq, not_false_eq_true, Nat.reduceLT, he, e16, e17, e18, e3]; try rfl), (by simp only [bE, Nat.reduceEqDiff, ne_eq, not_false_eq_true, Nat.reduceLT, he, e16, e17, e18, e3]; try rfl), (by simp only [bE, Nat.reduceEqDiff, ne_eq, not_false_eq_true, Nat.reduceLT, he, e16, e17, e18, e3]; try rfl), (by simp only [bE, Nat.reduceEqDiff, ne_eq, not_false_eq_true, Nat.reduceLT, he, e16, e17, e18, e3]; try rfl)⟩
  · obtain rfl : i = (compC X).v.length := by omega
    have hsz := comp_size hcv
    rw [List.take_length] at e3
    rw [show ((compC X).c.length : Int) + sumC (compC X).v = sizeC X by omega] at e3
    simp (config := {contextual := true, maxDischargeDepth := 12}) only [tb_at, he, e16, e17, e18, e3, hLv, hlt, ↓bD, bU, forall_const, List.all_cons, List.all_nil, Option.map_some, List.map_cons, List.map_nil, ne_eq, implies_true, isNx, eq_self, ↓wp_cond, ↓wp_loop, ↓reduceIte, reduceCtorEq, Nat.reduceEqDiff, Nat.reduceLT, Nat.reduceAdd, Nat.reduceMul, Int.ofNat_lt, Int.ofNat_le, exists_const, Option.map_none, beq_self_eq_true, decide_true, ↓sg_bsl, ↓st_callf, bX, ap_mkfn, ae_callvV, callvV_fn, List.cons_append, List.nil_append, boxV_i, boxV_dot, sto_dot, ap_conv, convV_int, bslV_0, fstep_d0, fstep_d1, bsl_dot, ae_appz, ap_cap, capV_nils, slcV_nils0, slcV_sl0, wrap_0, ae_clr, boxV_f, fstep_f, lod_new2]
    all_goals exact hK4.trans hK
theorem q_CSize (cl : Bool) {s : St} {v w : AV} {X : DCx} (hv : read dotC s v = some X.v) (hw : read dotC s w = some X.c) (hlv : X.v.length ≤ 80000) (hlw : X.c.length ≤ 80000) (hcv : cvalid X = true) : acall R_CSize cl [.agg [v, w]] s = some (.int .u64 (sizeC X), s) := run_same n_CSize (by simp [a19]) rfl (w_CSize (s := lowd s) (read_low' hv) (read_low' hw) hlv hlw hcv)

end Go.AM
end
/-
  slices.DeleteFunc at dots; context.Missing. Own work of this project; in part printed by a program of it.
-/
section
set_option linter.unusedVariables false
set_option linter.unusedSimpArgs false
set_option maxRecDepth 100000
set_option maxHeartbeats 8000000
namespace Go.AM
open Go Go.Proofs

variable {s t u : St}

theorem setAt_cells' (l r : List Dot) (k : Nat) (h : k + r.length ≤ l.length) : setAt (dotC.cells l) (k * 2) (dotC.cells r) = dotC.cells (l.take k ++ (r ++ l.drop (k + r.length))) := by
  have hk : (dotC.cells (l.take k)).length = k * 2 := by
    rw [cells_len, List.length_take]
    have : dotC.sz = 2 := rfl
    rw [this, Nat.min_eq_left (by omega)]
  have hr : (dotC.cells r).length = r.length * 2 := by rw [cells_len]; rfl
  have hl : dotC.cells l = dotC.cells (l.take k) ++ dotC.cells (l.drop k) := by rw [← cells_append, List.take_append_drop]
  have hd : l.drop k = (l.drop k).take r.length ++ l.drop (k + r.length) := by
    rw [← List.drop_drop, List.take_append_drop]
  have hd2 : (dotC.cells ((l.drop k).take r.length)).length = r.length * 2 := by
    rw [cells_len, List.length_take, List.length_drop]
    have : dotC.sz = 2 := rfl
    rw [this, Nat.min_eq_left (by omega)]
  unfold setAt
  rw [cells_append, cells_append, hr]
  have e1 : (dotC.cells l).take (k * 2) = dotC.cells (l.take k) := by rw [hl, ← hk, List.take_left]
  have e2 : (dotC.cells l).drop (k * 2 + r.length * 2) = dotC.cells (l.drop (k + r.length)) := by
    rw [hl, ← hk, ← List.drop_drop, List.drop_left, hd, cells_append, ← hd2, List.drop_left]
  rw [e1, e2, List.append_assoc]
theorem idxD_cases (l : List Dot) (p : Dot → Bool) : (idxD l p = -1 ∧ ∀ x ∈ l, p x = false) ∨ ∃ (i : Nat) (x : Dot), idxD l p = (i : Int) ∧ l[i]? = some x ∧ p x = true ∧ ∀ k y, k < i → l[k]? = some y → p y = false := by
  unfold idxD
  cases h : l.findIdx? p with
  | none =>
    rw [List.findIdx?_eq_none_iff] at h
    exact .inl ⟨rfl, fun x hx => by simpa using h x hx⟩
  | some i =>
    rw [List.findIdx?_eq_some_iff_getElem] at h
    obtain ⟨h1, h2, h3⟩ := h
    refine .inr ⟨i, l[i], rfl, List.getElem?_eq_getElem h1, h2, fun k y hk hy => ?_⟩
    have := h3 k hk
    rw [List.getElem?_eq_getElem (by omega)] at hy
    injection hy with hy
    rw [hy] at this
    simpa using this
theorem filter_take {l : List Dot} {p : Dot → Bool} {i : Nat} (h : ∀ k y, k < i → l[k]? = some y → p y = false) (hi : i ≤ l.length) : (l.take i).filter (fun d => !p d) = l.take i := by
  rw [List.filter_eq_self]
  intro x hx
  obtain ⟨k, hk⟩ := List.getElem?_of_mem hx
  have hkl := getlt hk
  rw [List.length_take] at hkl
  rw [List.getElem?_take, if_pos (by omega)] at hk
  rw [h k x (by omega) hk]
  rfl
noncomputable def R_DelF : Con := runFn (tb [(65, R_IdxD), (47, R_MisF)]) a45
theorem s_DelF : SoundAt Tryz.prog 45 R_DelF := run_sound (tb_sound (l := [(65, R_IdxD), (47, R_MisF)]) (by simpa using ⟨s_IdxD, s_MisF⟩)) mixed Tryz.func45 k45 c45
theorem n_DelF : noNxtC a45.body = true := by kernel_rfl
theorem w_DelF {s : St} {T : List (Nat × Con)} (hT : ∀ xs : List AV, tb T 65 xs = R_IdxD xs) {s0 : St} {v : AV} {l : List Dot} (hN : NewR dotC s0 s v l) (hc : CapOK v) (hl : l.length ≤ lim) {g : Nat} {caps : List AV} (p : Dot → Bool) (hf0 : ∀ (t : St) (d : Dot), Keep s t → acall (tb [(69, R_CInv), (36, R_IsC1), (47, R_MisF)] g) false (.agg (Dot.av d) :: caps) t = some (.bool (p d), t)) (hf : ∀ (t : St) (d : Dot), Chg (vids v) s t → acall (tb T g) false (.agg (Dot.av d) :: caps) t = some (.bool (p d), t)) : ∀ env : Env, elen env = a45.ntmps → (∀ i x_, [v, .fn g caps][i]? = some x_ → E env i = x_) → awp (tb T) a45.body (fun x e t => (∀ i, x ≠ .exit i) ∧ ∃ r, aresults e t a45.results = some r ∧ NewR dotC s0 t r (l.filter fun d => !p d) ∧ Chg (vids v) s t ∧ (v = .nils → r = .nils ∧ Keep s t) ∧ (v ≠ .nils → r.ground = false)) env s := by
  intro env hlen ha
  have h0 : E env 0 = _ := ha 0 _ rfl
  have h1 : E env 1 = _ := ha 1 _ rfl
  have hlen : elen env = _ := hlen
  simp only [a45] at hlen
  unfold a45
  try dsimp only [oO, oG]
  have q0 : ∀ cl, acall (tb T 65) cl [v, .fn g caps] s = some (.int .i64 (idxD l p), s) := fun cl => by
    have e : tb T 65 = R_IdxD := funext hT
    rw [e]
    exact q_IdxD cl hN.read hl p hf0
  have q0 := q0 false
  rcases hN with ⟨rfl, rfl⟩ | ⟨j, cap, rest, rfl, hj0, hg⟩
  · have hi : idxD [] p = -1 := rfl
    rw [hi] at q0
    simp (config := {contextual := true, maxDischargeDepth := 12}) only [tb_at, h0, h1, hlen, q0, ↓bD, bU, forall_const, List.all_cons, List.all_nil, Option.map_some, List.map_cons, List.map_nil, ne_eq, implies_true, isNx, eq_self, ↓wp_cond, ↓wp_loop, ↓reduceIte, reduceCtorEq, Nat.reduceEqDiff, Nat.reduceLT, Nat.reduceAdd, Nat.reduceMul, Int.ofNat_lt, Int.ofNat_le, exists_const, Option.map_none, beq_self_eq_true, decide_true, ↓sg_bsl, ↓st_callf, bX, ap_mkfn, ae_callvV, callvV_fn, List.cons_append, List.nil_append, boxV_i, boxV_dot, sto_dot, ap_conv, convV_int, bslV_0, fstep_d0, fstep_d1, bsl_dot, ae_appz, ap_cap, capV_nils, slcV_nils0, slcV_sl0, wrap_0, ae_clr, boxV_f, fstep_f, lod_new2]
    exact ⟨_, rfl, .nil _ _ _, (Keep.refl s).chg _, rfl, fun h => absurd trivial h⟩
  have hN : NewR dotC s0 s (.sl j 0 l.length cap 2) l := .inr ⟨j, cap, rest, rfl, hj0, hg⟩
  have hjl := St.get_lt hg
  have h2 : dotC.sz = 2 := rfl
  rw [h2] at h0 hc q0
  rcases idxD_cases l p with ⟨hi, hall⟩ | ⟨i, x, hi, hx, hpx, hpre⟩
  · rw [hi] at q0
    have hd : l.filter (fun d => !p d) = l := by
      rw [List.filter_eq_self]
      intro x hx
      rw [hall x hx]; rfl
    simp (config := {contextual := true, maxDischargeDepth := 12}) only [tb_at, h0, h1, hlen, q0, ↓bD, bU, forall_const, List.all_cons, List.all_nil, Option.map_some, List.map_cons, List.map_nil, ne_eq, implies_true, isNx, eq_self, ↓wp_cond, ↓wp_loop, ↓reduceIte, reduceCtorEq, Nat.reduceEqDiff, Nat.reduceLT, Nat.reduceAdd, Nat.reduceMul, Int.ofNat_lt, Int.ofNat_le, exists_const, Option.map_none, beq_self_eq_true, decide_true, ↓sg_bsl, ↓st_callf, bX, ap_mkfn, ae_callvV, callvV_fn, List.cons_append, List.nil_append, boxV_i, boxV_dot, sto_dot, ap_conv, convV_int, bslV_0, fstep_d0, fstep_d1, bsl_dot, ae_appz, ap_cap, capV_nils, slcV_nils0, slcV_sl0, wrap_0, ae_clr, boxV_f, fstep_f, lod_new2]
    exact ⟨_, rfl, by rw [hd]; exact hN, (Keep.refl s).chg _, fun h => h.elim, rfl⟩
  · rw [hi] at q0
    have hil := getlt hx
    have hz : ((i : Int) = -1) = False := eq_false (by omega)
    have hwi := wrap_add1 (n := i) (by unfold lim at hl; omega)
    simp (config := {contextual := true, maxDischargeDepth := 12}) only [tb_at, h0, h1, hlen, q0, hz, hwi, ↓bD, bU, forall_const, List.all_cons, List.all_nil, Option.map_some, List.map_cons, List.map_nil, ne_eq, implies_true, isNx, eq_self, ↓wp_cond, ↓wp_loop, ↓reduceIte, reduceCtorEq, Nat.reduceEqDiff, Nat.reduceLT, Nat.reduceAdd, Nat.reduceMul, Int.ofNat_lt, Int.ofNat_le, exists_const, Option.map_none, beq_self_eq_true, decide_true, ↓sg_bsl, ↓st_callf, bX, ap_mkfn, ae_callvV, callvV_fn, List.cons_append, List.nil_append, boxV_i, boxV_dot, sto_dot, ap_conv, convV_int, bslV_0, fstep_d0, fstep_d1, bsl_dot, ae_appz, ap_cap, capV_nils, slcV_nils0, slcV_sl0, wrap_0, ae_clr, boxV_f, fstep_f, lod_new2]
    obtain ⟨I, hI⟩ : ∃ I : Nat → Env → St → Prop, ∀ n e t, I n e t = (Chg [j] s t ∧ ∃ (q k : Nat) (L : List Dot), n + q = l.length ∧ elen e = 42 ∧ E e 0 = .sl j 0 l.length cap 2 ∧ E e 1 = .fn g caps ∧ E e 5 = .int .i64 (k : Int) ∧ E e 6 = .int .i64 (q : Int) ∧ q ≤ l.length ∧ k < q ∧ L.length = (l ++ rest).length ∧ t.get j = some (.row (dotC.cells L) true) ∧ L.take k = ((l.take q).filter fun d => !p d) ∧ k = ((l.take q).filter fun d => !p d).length ∧ ∀ x, q ≤ x → L[x]? = (l ++ rest)[x]?) := ⟨fun n e t => (Chg [j] s t ∧ ∃ (q k : Nat) (L : List Dot), n + q = l.length ∧ elen e = 42 ∧ E e 0 = .sl j 0 l.length cap 2 ∧ E e 1 = .fn g caps ∧ E e 5 = .int .i64 (k : Int) ∧ E e 6 = .int .i64 (q : Int) ∧ q ≤ l.length ∧ k < q ∧ L.length = (l ++ rest).length ∧ t.get j = some (.row (dotC.cells L) true) ∧ L.take k = ((l.take q).filter fun d => !p d) ∧ k = ((l.take q).filter fun d => !p d).length ∧ ∀ x, q ≤ x → L[x]? = (l ++ rest)[x]?), fun _ _ _ => rfl⟩
    have hf1 : (l.take (i + 1)).filter (fun d => !p d) = l.take i := by
      rw [take_snoc hx, List.filter_append, filter_take hpre (by omega)]
      simp [hpx]
    refine lwp_inv I (n := l.length - (i + 1)) ?_ ?_
    · rw [hI]
      refine ⟨(Keep.refl s).chg _, i + 1, i, l ++ rest, by omega, (by simp only [bE, Nat.reduceEqDiff, ne_eq, not_false_eq_true, Nat.reduceLT, hlen]; try rfl), (by simp only [bE, Nat.reduceEqDiff, ne_eq, not_false_eq_true, Nat.reduceLT, hlen, h0]; try rfl), (by simp only [bE, Nat.reduceEqDiff, ne_eq, not_false_eq_true, Nat.reduceLT, hlen, h1]; try rfl), (by simp only [bE, Nat.reduceEqDiff, ne_eq, not_false_eq_true, Nat.reduceLT, hlen]; try rfl), (by simp only [bE, Nat.reduceEqDiff, ne_eq, not_false_eq_true, Nat.reduceLT, hlen]; try rfl), by omega, by omega, rfl, hg, ?_, ?_, fun _ _ => rfl⟩
      · rw [hf1, List.take_append_of_le_length (by omega)]
      · rw [hf1, List.length_take, Nat.min_eq_left (by omega)]
    clear hlen h0 h1 q0 hz hwi
    intro n e t hi
    rw [hI] at hi
    obtain ⟨hC, q, k, L, hni, he, e0, e1, e5, e6, hq, hkq, hLl, hgt, hLk, hkd, hrest⟩ := hi
    rw [List.length_append] at hLl
    have hjt := St.get_lt hgt
    have hltj : ltN j t := hjt
    by_cases hlt : q < l.length
    · obtain ⟨d, hd⟩ := getsome hlt
      have i1 := iad_own (j := j) (cap := cap) 0 hlt
      rw [Nat.zero_add] at i1
      have a1 := lod_own hgt (show L[q]? = some d by rw [hrest _ (Nat.le_refl _), List.getElem?_append_left hlt]; exact hd)
      have hw2 := wrap_add1 (n := q) (by unfold lim at hl; omega)
      have hCp : Chg [j] s (t.lowed.push (.row (Dot.av d) true)) := hC.trans ((Keep.refl t).lowed.push _ |>.chg []) (by simp)
      have hq := hf (t.lowed.push (.row (Dot.av d) true)) d hCp
      have hsn : l.take (q + 1) = l.take q ++ [d] := take_snoc hd
      cases hpd : p d
      · rw [hpd] at hq
        have i2 := iad_own (j := j) (cap := cap) 0 (show k < l.length by omega)
        rw [Nat.zero_add] at i2
        have st1 := sto_own hgt (show k < L.length by omega) d
        have hw3 := wrap_add1 (n := k) (by unfold lim at hl; omega)
        have hf2 : (l.take (q + 1)).filter (fun d => !p d) = (l.take q).filter (fun d => !p d) ++ [d] := by rw [hsn, List.filter_append]; simp [hpd]
        simp (config := {contextual := true, maxDischargeDepth := 12}) only [tb_at, he, e0, e1, e5, e6, lenV_sl, hlt, i1, i2, a1, hltj, hq, hw2, hw3, st1, notV_bool, sto_push_lt, lt_lowed, Bool.not_false, ↓bD, bU, forall_const, List.all_cons, List.all_nil, Option.map_some, List.map_cons, List.map_nil, ne_eq, implies_true, isNx, eq_self, ↓wp_cond, ↓wp_loop, ↓reduceIte, reduceCtorEq, Nat.reduceEqDiff, Nat.reduceLT, Nat.reduceAdd, Nat.reduceMul, Int.ofNat_lt, Int.ofNat_le, exists_const, Option.map_none, beq_self_eq_true, decide_true, ↓sg_bsl, ↓st_callf, bX, ap_mkfn, ae_callvV, callvV_fn, List.cons_append, List.nil_append, boxV_i, boxV_dot, sto_dot, ap_conv, convV_int, bslV_0, fstep_d0, fstep_d1, bsl_dot, ae_appz, ap_cap, capV_nils, slcV_nils0, slcV_sl0, wrap_0, ae_clr, boxV_f, fstep_f, lod_new2]
        refine ⟨n - 1, by omega, ?_⟩
        rw [hI]
        refine ⟨(hC.put _ (.inl (by simp)) hjt).trans ((Keep.refl _).lowed.push _ |>.chg []) (by simp), q + 1, k + 1, L.set k d, by omega, (by simp only [bE, Nat.reduceEqDiff, ne_eq, not_false_eq_true, Nat.reduceLT, he]; try rfl), (by simp only [bE, Nat.reduceEqDiff, ne_eq, not_false_eq_true, Nat.reduceLT, he, e0]; try rfl), (by simp only [bE, Nat.reduceEqDiff, ne_eq, not_false_eq_true, Nat.reduceLT, he, e1]; try rfl), (by simp only [bE, Nat.reduceEqDiff, ne_eq, not_false_eq_true, Nat.reduceLT, he, e5]; try rfl), (by simp only [bE, Nat.reduceEqDiff, ne_eq, not_false_eq_true, Nat.reduceLT, he]; try rfl), by omega, by omega, by rw [List.length_set, List.length_append]; exact hLl, get_push_some _ (St.get_put_same hgt), ?_, by rw [hf2, List.length_append, ← hkd]; rfl, fun z hz => ?_⟩
        · rw [hf2, ← hLk, List.take_add_one, List.getElem?_set_self (by omega), List.take_set_of_le (Nat.le_refl _)]
          rfl
        · rw [List.getElem?_set_ne (by omega)]
          exact hrest z (by omega)
      · rw [hpd] at hq
        have hf2 : (l.take (q + 1)).filter (fun d => !p d) = (l.take q).filter (fun d => !p d) := by rw [hsn, List.filter_append]; simp [hpd]
        simp (config := {contextual := true, maxDischargeDepth := 12}) only [tb_at, he, e0, e1, e5, e6, lenV_sl, hlt, i1, a1, hltj, hq, hw2, notV_bool, Bool.not_true, ↓bD, bU, forall_const, List.all_cons, List.all_nil, Option.map_some, List.map_cons, List.map_nil, ne_eq, implies_true, isNx, eq_self, ↓wp_cond, ↓wp_loop, ↓reduceIte, reduceCtorEq, Nat.reduceEqDiff, Nat.reduceLT, Nat.reduceAdd, Nat.reduceMul, Int.ofNat_lt, Int.ofNat_le, exists_const, Option.map_none, beq_self_eq_true, decide_true, ↓sg_bsl, ↓st_callf, bX, ap_mkfn, ae_callvV, callvV_fn, List.cons_append, List.nil_append, boxV_i, boxV_dot, sto_dot, ap_conv, convV_int, bslV_0, fstep_d0, fstep_d1, bsl_dot, ae_appz, ap_cap, capV_nils, slcV_nils0, slcV_sl0, wrap_0, ae_clr, boxV_f, fstep_f, lod_new2]
        refine ⟨n - 1, by omega, ?_⟩
        rw [hI]
        exact ⟨hCp, q + 1, k, L, by omega, (by simp only [bE, Nat.reduceEqDiff, ne_eq, not_false_eq_true, Nat.reduceLT, he]; try rfl), (by simp only [bE, Nat.reduceEqDiff, ne_eq, not_false_eq_true, Nat.reduceLT, he, e0]; try rfl), (by simp only [bE, Nat.reduceEqDiff, ne_eq, not_false_eq_true, Nat.reduceLT, he, e1]; try rfl), (by simp only [bE, Nat.reduceEqDiff, ne_eq, not_false_eq_true, Nat.reduceLT, he, e5]; try rfl), (by simp only [bE, Nat.reduceEqDiff, ne_eq, not_false_eq_true, Nat.reduceLT, he]; try rfl), by omega, by omega, by rw [List.length_append]; exact hLl, get_push_some _ hgt, by rw [hf2]; exact hLk, by rw [hf2]; exact hkd, fun z hz => hrest z (by omega)⟩
    · have hql : q = l.length := by omega
      subst hql
      rw [List.take_length] at hLk hkd
      obtain ⟨sl2, sl3⟩ := slc_own j l.length k cap (by omega) hc
      have hcl := clr_own (cap := cap.map (· - k)) hgt (n := l.length) (k := k) (by omega) (by omega)
      rw [setAt_cells' L _ k (by rw [List.length_replicate]; omega), hLk] at hcl
      simp (config := {contextual := true, maxDischargeDepth := 12}) only [tb_at, he, e0, e1, e5, e6, lenV_sl, hlt, sl2, sl3, hcl, ↓bD, bU, forall_const, List.all_cons, List.all_nil, Option.map_some, List.map_cons, List.map_nil, ne_eq, implies_true, isNx, eq_self, ↓wp_cond, ↓wp_loop, ↓reduceIte, reduceCtorEq, Nat.reduceEqDiff, Nat.reduceLT, Nat.reduceAdd, Nat.reduceMul, Int.ofNat_lt, Int.ofNat_le, exists_const, Option.map_none, beq_self_eq_true, decide_true, ↓sg_bsl, ↓st_callf, bX, ap_mkfn, ae_callvV, callvV_fn, List.cons_append, List.nil_append, boxV_i, boxV_dot, sto_dot, ap_conv, convV_int, bslV_0, fstep_d0, fstep_d1, bsl_dot, ae_appz, ap_cap, capV_nils, slcV_nils0, slcV_sl0, wrap_0, ae_clr, boxV_f, fstep_f, lod_new2]
      exact ⟨_, rfl, .inr ⟨j, cap, _, by rw [← hkd]; rfl, hj0, St.get_put_same hgt⟩, hC.put _ (.inl (by simp [vids])) hjt, fun h => h.elim, rfl⟩
theorem q_DelF {s : St} {s0 : St} {v : AV} {l : List Dot} (hN : NewR dotC s0 s v l) (hc : CapOK v) (hl : l.length ≤ lim) {g : Nat} {caps : List AV} (p : Dot → Bool) (hf0 : ∀ (t : St) (d : Dot), Keep s t → acall (tb [(69, R_CInv), (36, R_IsC1), (47, R_MisF)] g) false (.agg (Dot.av d) :: caps) t = some (.bool (p d), t)) (hf : ∀ (t : St) (d : Dot), Chg (vids v) s t → acall (tb [(65, R_IdxD), (47, R_MisF)] g) false (.agg (Dot.av d) :: caps) t = some (.bool (p d), t)) : ∃ w t, acall R_DelF false [v, .fn g caps] s = some (w, t) ∧ NewR dotC s0 t w (l.filter fun d => !p d) ∧ Chg (vids v) s t := by
  obtain ⟨r, t, h1, h2, h3, h4, h5⟩ := run_awp n_DelF (args := [v, .fn g caps]) (by simp [a45]) (Q := fun r t => NewR dotC s0 t r (l.filter fun d => !p d) ∧ Chg (vids v) (lowd s) t ∧ (v = .nils → r = .nils ∧ Keep (lowd s) t) ∧ (v ≠ .nils → r.ground = false)) (w_DelF (s := lowd s) (fun xs => rfl) (hN.mono fun _ _ h => h) hc hl p (fun t d h => hf0 t d ((keep_lowd s).trans h)) fun t d h => hf t d ((keep_lowd s).chg _ |>.trans h fun id hid => .inl hid))
  by_cases hv : v = .nils
  · obtain ⟨rfl, hk⟩ := h4 hv
    rcases hN with ⟨_, rfl⟩ | ⟨j, cap, rest, e, _⟩
    · exact ⟨.nils, s, acall_same h1 hk rfl, .nil _ _ _, (Keep.refl s).chg _⟩
    · rw [e] at hv; cases hv
  · obtain ⟨t', g1, g2, g3, g4⟩ := acall_new h1 h3 (.inl (h5 hv))
    exact ⟨r, t', g1, h2.mono fun id b hb => by rw [g2]; exact hb, g4⟩

theorem read_chg {M : List Nat} {v : AV} {l : List Dot} (h : read dotC s v = some l) (hc : Chg M s t) (hm : ∀ id ∈ vids v, id ∉ M) : read dotC t v = some l := by
  cases v with
  | nils => exact h
  | sl id off n cap z =>
    obtain ⟨rfl, hn, cs, own, hg, h1, h2, _⟩ := read_sl h
    exact read_of hn (hc.blk hg (hm id (by simp [vids]))) h1 h2
  | _ => simp [read] at h
theorem read_vidl {v : AV} {l : List Dot} (h : read dotC s v = some l) : ∀ id ∈ vids v, id < s.next := by
  cases v with
  | sl id off n cap z =>
    obtain ⟨rfl, hn, cs, own, hg, _⟩ := read_sl h
    intro i hi
    simp [vids] at hi
    subst hi
    exact St.get_lt hg
  | _ => simp [vids]
noncomputable def R_CMiss : Con := runFn (tb [(46, R_DSet), (45, R_DelF)]) a21
theorem s_CMiss : SoundAt Tryz.prog 21 R_CMiss := run_sound (tb_sound (l := [(46, R_DSet), (45, R_DelF)]) (by simpa using ⟨s_DSet, s_DelF⟩)) mixed Tryz.func21 k21 c21
theorem n_CMiss : noNxtC a21.body = true := by kernel_rfl
theorem w_CMiss {s : St} {v w : AV} {X : DCx} (hv : read dotC s v = some X.v) (hw : read dotC s w = some X.c) (hlv : X.v.length ≤ lim) (hlw : X.c.length ≤ lim) {u1 : AV} {l : List Dot} (hru : read dotC s u1 = some l) (hlu : l.length ≤ lim) : ∀ env : Env, elen env = a21.ntmps → (∀ i x_, [.agg [v, w], u1][i]? = some x_ → E env i = x_) → awp (tb [(46, R_DSet), (45, R_DelF)]) a21.body (fun x e t => (∀ i, x ≠ .exit i) ∧ ∃ r, aresults e t a21.results = some r ∧ NewR dotC s t r ((setL l).filter fun d => !chas X d) ∧ Keep s t) env s := by
  intro env hlen ha
  have h0 : E env 0 = _ := ha 0 _ rfl
  have h1 : E env 1 = _ := ha 1 _ rfl
  have hlen : elen env = _ := hlen
  simp only [a21] at hlen
  unfold a21
  try dsimp only [oO, oG]
  have hbx := boxV_2 (read_oneD hv).2 (read_oneD hw).2
  have hK1 : Keep s (s.push (.row [v, w] true)) := (Keep.refl s).push _
  obtain ⟨c1, c2, c3, c4⟩ := box_ctx s v w (.refl _)
  have hv1 := hK1.read hv
  have hw1 := hK1.read hw
  obtain ⟨w1, t1, q1, ⟨hN1, hc1⟩, hK2⟩ := q_DSet (hK1.read hru) hlu
  have hb1 := hK2.blk (St.get_push_new s (.row [v, w] true))
  have hv2 := hK2.read hv1
  have hw2 := hK2.read hw1
  have key : ∀ (t : St) (d : Dot), Chg (vids w1) t1 t → acall R_MisF false [.agg (Dot.av d), .ptr s.next 0] t = some (.bool (chas X d), t) := by
    intro t d hch
    have hge := newR_vids hN1
    have hb2 : t.get s.next = some (.row [v, w] true) := hch.blk hb1 fun q => by
      have := hge _ q
      simp at this
      omega
    obtain ⟨e1, e2, e3⟩ := row2_lod hb2
    have hvs := read_vidl hv
    have hws := read_vidl hw
    exact q_MisF false e1 e2 (lod_row2 hb2) e3 (read_chg hv2 hch fun id hid q => by
      have h1 := hge _ q
      have h2 := hvs id hid
      simp at h1
      omega) (read_chg hw2 hch fun id hid q => by
      have h1 := hge _ q
      have h2 := hws id hid
      simp at h1
      omega) hlv hlw d
  obtain ⟨w2, t2, q2, hN2, hC2⟩ := q_DelF hN1 hc1 (Nat.le_trans (setL_len l) hlu) (g := 47) (caps := [.ptr s.next 0]) (chas X) (fun t d h => key t d (h.chg _)) key
  simp (config := {contextual := true, maxDischargeDepth := 12}) only [tb_at, h0, h1, hlen, hbx, q1, q2, ↓bD, bU, forall_const, List.all_cons, List.all_nil, Option.map_some, List.map_cons, List.map_nil, ne_eq, implies_true, isNx, eq_self, ↓wp_cond, ↓wp_loop, ↓reduceIte, reduceCtorEq, Nat.reduceEqDiff, Nat.reduceLT, Nat.reduceAdd, Nat.reduceMul, Int.ofNat_lt, Int.ofNat_le, exists_const, Option.map_none, beq_self_eq_true, decide_true, ↓sg_bsl, ↓st_callf, bX, ap_mkfn, ae_callvV, callvV_fn, List.cons_append, List.nil_append, boxV_i, boxV_dot, sto_dot, ap_conv, convV_int, bslV_0, fstep_d0, fstep_d1, bsl_dot, ae_appz, ap_cap, capV_nils, slcV_nils0, slcV_sl0, wrap_0, ae_clr, boxV_f, fstep_f, lod_new2]
  have hK3 : Keep s t2 := (hK1.trans hK2).chgn hC2 fun id hid => by
    have := newR_vids hN1 id hid
    simp at this
    omega
  exact ⟨_, rfl, hN2.from (by simp), hK3⟩
theorem q_CMiss {s : St} {v w : AV} {X : DCx} (hv : read dotC s v = some X.v) (hw : read dotC s w = some X.c) (hlv : X.v.length ≤ lim) (hlw : X.c.length ≤ lim) {u1 : AV} {l : List Dot} (hru : read dotC s u1 = some l) (hlu : l.length ≤ lim) : ∃ w3 t, acall R_CMiss false [.agg [v, w], u1] s = some (w3, t) ∧ NewR dotC s t w3 ((setL l).filter fun d => !chas X d) ∧ Keep s t :=
  run_any n_CMiss (by simp [a21]) (fun r t t' hg hn hq => hq.mono fun id b hb => by rw [hg]; exact hb) (fun r t hgr hk hq => by
    obtain ⟨rfl, h⟩ := hq.ground hgr
    rw [h]
    exact .nil _ _ _) (w_CMiss (s := lowd s) (read_low' hv) (read_low' hw) hlv hlw (read_low' hru) hlu)

end Go.AM
end
/-
  The references: With, Union, Raise. Own work of this project; in part printed by a program of it.
-/
section
set_option linter.unusedVariables false
set_option linter.unusedSimpArgs false
set_option maxRecDepth 100000
set_option maxHeartbeats 8000000
namespace Go.AM
open Go Go.Proofs

variable {s t u : St}

def appF (s : St) (sz bytes : Nat) (a x : AV) : Option (AV × St) := match appV (lowd s) sz bytes a x with
  | some (v, t) => if s.next ≤ t.low then some (v, { heap := t.heap, next := t.next, low := min s.low t.low }) else none
  | none => none
theorem st_appf {call : Nat → List AV → St → Option (AV × St)} {base : Nat} {d : Option Nat} {r : Option Nat} {rest : List AOper} {Q : Env → St → Prop} {env : Env} {s : St} (sz b : Nat) (z : List AV) (a x : AO) : awops call base (⟨d, .app sz b z a x, none, r, true⟩ :: rest) Q env s = estep (appF s sz b (aev env a) (aev env x)) fun v t => awops call base rest Q (pE env d v) t := by
  rw [st_efff (op := .app sz b z a x) (by simp) rfl rfl rfl]
  simp only [ae_app, appF, AOp.floor, AOp.isStore, Bool.false_eq_true, if_false]
  show estep (appV (lowd s) sz b (aev env a) (aev env x)) _ = _
  cases appV (lowd s) sz b (aev env a) (aev env x) with
  | none => rfl
  | some q =>
    obtain ⟨v, t⟩ := q
    simp only [estep]
    by_cases h : s.next ≤ t.low
    · rw [if_pos h, if_pos h]
    · rw [if_neg h, if_neg h]
theorem appF_nil {x : AV} {m : List Dot} (hr : read dotC s x = some m) (hm : m.length ≤ 4000000) : ∃ v t, appF s 2 16 .nils x = some (v, t) ∧ Own dotC s t v m ∧ Keep s t := by
  obtain ⟨v, t, h1, h2, h3⟩ := appV_list (C := dotC) (Keep.refl (lowd s)) (.nil dotC (lowd s) (lowd s)) (read_low' hr) 16 (by simp; unfold roomBytes; omega)
  rw [List.nil_append] at h3
  have h1 : appV (lowd s) 2 16 .nils x = some (v, t) := h1
  have hl : s.next ≤ t.low := by
    have := h2.low
    have : min s.next s.next ≤ t.low := this
    omega
  refine ⟨v, { heap := t.heap, next := t.next, low := min s.low t.low }, by simp only [appF, h1, if_pos hl], ?_, h2.next, h2.get, ?_⟩
  · rcases h3 with h3 | ⟨j, e, a1, a2, a3⟩
    · exact .inl h3
    · exact .inr ⟨j, e, a1, a2, a3⟩
  · show min s.low s.next ≤ min s.low t.low
    omega
theorem insD_split (d : Dot) : ∀ (l : List Dot) (i : Nat), i ≤ l.length → (∀ k y, k < i → l[k]? = some y → y.before d = true) → (∀ y, l[i]? = some y → y.before d = false) → insD d l = l.take i ++ d :: l.drop i
  | [], i, hi, _, _ => by simp at hi; subst hi; rfl
  | x :: r, 0, _, _, h => by
    rw [insD, if_neg (by simp [h x rfl])]
    rfl
  | x :: r, i + 1, hi, hp, h => by
    rw [insD, if_pos (hp 0 x (by omega) rfl), insD_split d r i (by simpa using hi) (fun k y hk hy => hp (k + 1) y (by omega) (by simpa using hy)) fun y hy => h y (by simpa using hy)]
    rfl
theorem born_keep {t : St} {id : Nat} {b0 : AB} (h : t.get id = some b0) (b : AB) (hs : s.next ≤ id) (hK : Keep s t) : Keep s (t.born id b) := hK.born b hs (St.get_lt h)
theorem own_born {v : AV} {l : List Dot} {id : Nat} {b0 b : AB} (h : Own dotC s t v l) (hg : t.get id = some b0) (hn : ∀ i ∈ vids v, i ≠ id) : Own dotC s (t.born id b) v l := by
  rcases h with h | ⟨j, rfl, h0, h1, h2⟩
  · exact .inl h
  · refine .inr ⟨j, rfl, h0, h1, ?_⟩
    rw [St.get_born_ne _ _ (St.get_lt hg) (hn j (by simp [vids]))]
    exact h2
noncomputable def R_RWith : Con := runFn (tb [(60, R_RHas), (51, R_RLess)]) a59
theorem s_RWith : SoundAt Tryz.prog 59 R_RWith := run_sound (tb_sound (l := [(60, R_RHas), (51, R_RLess)]) (by simpa using ⟨s_RHas, s_RLess⟩)) mixed Tryz.func59 k59 c59
theorem n_RWith : noNxtC a59.body = true := by kernel_rfl
theorem w_RWith {s : St} {s0 : St} {v : AV} {l : List Dot} (hO : Own dotC s0 s v l) (hn0 : s0.next ≤ s.next) (hl : l.length ≤ lim) (d : Dot) : ∀ env : Env, elen env = a59.ntmps → (∀ i x_, [v, .agg (Dot.av d)][i]? = some x_ → E env i = x_) → awp (tb [(60, R_RHas), (51, R_RLess)]) a59.body (fun x e t => (∀ i, x ≠ .exit i) ∧ ∃ r, aresults e t a59.results = some r ∧ Own dotC s0 t r (withL l d) ∧ Keep s t) env s := by
  intro env hlen ha
  have h0 : E env 0 = _ := ha 0 _ rfl
  have h1 : E env 1 = _ := ha 1 _ rfl
  have hlen : elen env = _ := hlen
  simp only [a59] at hlen
  unfold a59
  try dsimp only [oO, oG]
  have hr := hO.read
  have hL := lenV_read hr
  have hK1 : Keep s (s.push (.row (Dot.av d) true)) := (Keep.refl s).push _
  have qh := q_RHas false (hK1.read hr) hl d
  obtain ⟨b1, b2, b3, b4⟩ := box_dot s d (.refl _)
  by_cases hmem : d ∈ l
  · rw [decide_eq_true hmem] at qh
    have hw : withL l d = l := by unfold withL; rw [if_pos hmem]
    simp (config := {contextual := true, maxDischargeDepth := 12}) only [tb_at, h0, h1, hlen, qh, b1, b4, ↓bD, bU, forall_const, List.all_cons, List.all_nil, Option.map_some, List.map_cons, List.map_nil, ne_eq, implies_true, isNx, eq_self, ↓wp_cond, ↓wp_loop, ↓reduceIte, reduceCtorEq, Nat.reduceEqDiff, Nat.reduceLT, Nat.reduceAdd, Nat.reduceMul, Int.ofNat_lt, Int.ofNat_le, exists_const, Option.map_none, beq_self_eq_true, decide_true, ↓sg_bsl, ↓st_callf, bX, ap_mkfn, ae_callvV, callvV_fn, List.cons_append, List.nil_append, boxV_i, boxV_dot, sto_dot, ap_conv, convV_int, bslV_0, fstep_d0, fstep_d1, bsl_dot, ae_appz, ap_cap, capV_nils, slcV_nils0, slcV_sl0, wrap_0, ae_clr, boxV_f, fstep_f, lod_new2, ↓st_appf]
    first | exact ⟨_, rfl, (by rw [hw]; exact hO.mono fun _ _ k => get_push_some _ k), hK1⟩ | exact ⟨_, rfl, (by rw [hw]; exact hO.mono fun _ _ k => get_push_some _ k)⟩ | exact ⟨(by rw [hw]; exact hO.mono fun _ _ k => get_push_some _ k), hK1⟩ | exact (by rw [hw]; exact hO.mono fun _ _ k => get_push_some _ k)
  · rw [decide_eq_false hmem] at qh
    simp (config := {contextual := true, maxDischargeDepth := 12}) only [tb_at, h0, h1, hlen, qh, b1, b4, ↓bD, bU, forall_const, List.all_cons, List.all_nil, Option.map_some, List.map_cons, List.map_nil, ne_eq, implies_true, isNx, eq_self, ↓wp_cond, ↓wp_loop, ↓reduceIte, reduceCtorEq, Nat.reduceEqDiff, Nat.reduceLT, Nat.reduceAdd, Nat.reduceMul, Int.ofNat_lt, Int.ofNat_le, exists_const, Option.map_none, beq_self_eq_true, decide_true, ↓sg_bsl, ↓st_callf, bX, ap_mkfn, ae_callvV, callvV_fn, List.cons_append, List.nil_append, boxV_i, boxV_dot, sto_dot, ap_conv, convV_int, bslV_0, fstep_d0, fstep_d1, bsl_dot, ae_appz, ap_cap, capV_nils, slcV_nils0, slcV_sl0, wrap_0, ae_clr, boxV_f, fstep_f, lod_new2, ↓st_appf]
    obtain ⟨I, hI⟩ : ∃ I : Nat → Env → St → Prop, ∀ n e t, I n e t = (t = s.push (.row (Dot.av d) true) ∧ ∃ i : Nat, n + i = l.length ∧ elen e = 35 ∧ E e 0 = v ∧ E e 3 = .ptr s.next 0 ∧ E e 5 = .int .i64 (i : Int) ∧ i ≤ l.length ∧ ∀ k y, k < i → l[k]? = some y → y.before d = true) := ⟨fun n e t => (t = s.push (.row (Dot.av d) true) ∧ ∃ i : Nat, n + i = l.length ∧ elen e = 35 ∧ E e 0 = v ∧ E e 3 = .ptr s.next 0 ∧ E e 5 = .int .i64 (i : Int) ∧ i ≤ l.length ∧ ∀ k y, k < i → l[k]? = some y → y.before d = true), fun _ _ _ => rfl⟩
    refine lwp_inv I (n := l.length) ?_ ?_
    · rw [hI]
      exact ⟨rfl, 0, by omega, (by simp only [bE, Nat.reduceEqDiff, ne_eq, not_false_eq_true, Nat.reduceLT, hlen]; try rfl), (by simp only [bE, Nat.reduceEqDiff, ne_eq, not_false_eq_true, Nat.reduceLT, hlen, h0]; try rfl), (by simp only [bE, Nat.reduceEqDiff, ne_eq, not_false_eq_true, Nat.reduceLT, hlen]; try rfl), (by simp only [bE, Nat.reduceEqDiff, ne_eq, not_false_eq_true, Nat.reduceLT, hlen]; try rfl), by omega, fun k y hk => by omega⟩
    intro n e t hi
    rw [hI] at hi
    obtain ⟨hK, i, hni, he, e0, e3, e5, hil, hpre⟩ := hi
    subst hK
    by_cases hlt : i < l.length
    · obtain ⟨x, hx⟩ := getsome hlt
      have hw2 := wrap_add1 (n := i) (by unfold lim at hl; omega)
      obtain ⟨a1, a2, a3, a4⟩ := dot_lods hr hK1 hx
      have i1 := dot_idx hr hx .i64
      have hq := q_RLess false x d (s := s.push (.row (Dot.av d) true))
      cases hb : x.before d
      · rw [hb] at hq
        have hstop : ∀ y, l[i]? = some y → y.before d = false := fun y hy => by
          rw [hx] at hy
          injection hy with hy
          rw [← hy]; exact hb
        obtain ⟨v1, sl1, rd1⟩ := slc_hi (C := dotC) hr (fun _ _ _ _ _ h => hO.capOK _ _ _ _ _ h) (k := .i64) (i := (i : Int)) rfl hil
        obtain ⟨v2, sl2, rd2⟩ := slc_lo (C := dotC) hr (k := .i64) (i := (i : Int)) rfl hil
        have sl1 : slcV 2 v none (some (.int .i64 (i : Int))) = some v1 := sl1
        have sl2 : slcV 2 v (some (.int .i64 (i : Int))) none = some v2 := sl2
        have hKR : Keep s ((s.push (.row (Dot.av d) true)).reserve 1) := hK1.trans (keep_reserve _ 1)
        have hKR1 : Keep (s.push (.row (Dot.av d) true)) ((s.push (.row (Dot.av d) true)).reserve 1) := keep_reserve _ 1
        obtain ⟨w1, t1, ap1, hO1, hKt1⟩ := appF_nil (rd1 _ hKR) (by rw [List.length_take]; unfold lim at hl; omega)
        have hun : t1.get (s.push (.row (Dot.av d) true)).next = some .unborn := by rw [hKt1.get _ (by simp), St.get_reserve]; simp
        obtain ⟨b1', b2', b3', b4'⟩ := box_dot s d (hKR1.trans hKt1)
        have hK2 : Keep s (t1.born (s.push (.row (Dot.av d) true)).next (.row (Dot.av d) true)) := born_keep hun _ (by simp) (hKR.trans hKt1)
        have hO2 : Own dotC s (t1.born (s.push (.row (Dot.av d) true)).next (.row (Dot.av d) true)) w1 (l.take i) := (own_born hO1 hun fun j hj => by
          have := own_vids hO1 j hj
          simp at this ⊢
          omega).from (by simp; omega)
        have hrd : read dotC (t1.born (s.push (.row (Dot.av d) true)).next (.row (Dot.av d) true)) (.sl (s.push (.row (Dot.av d) true)).next 0 1 (some 1) 2) = some [d] := by
          refine read_of (C := dotC) (n := 1) rfl (born_self hun _) (by simp [Dot.av, dotC]) ?_
          rw [cells_one]
          rfl
        obtain ⟨w2, t2, ap2, hK3, hO3⟩ := appV_list (C := dotC) hK2 hO2 hrd 16 (by rw [List.length_take]; simp; unfold lim at hl; unfold roomBytes; omega)
        obtain ⟨w3, t3, ap3, hK4, hO4⟩ := appV_list (C := dotC) hK3 hO3 (rd2 _ hK3) 16 (by rw [List.length_append, List.length_take, List.length_drop]; simp; unfold lim at hl; unfold roomBytes; omega)
        have ap2 : appV (t1.born (s.push (.row (Dot.av d) true)).next (.row (Dot.av d) true)) 2 16 w1 (.sl (s.push (.row (Dot.av d) true)).next 0 1 (some 1) 2) = some (w2, t2) := ap2
        have ap3 : appV t2 2 16 w2 v2 = some (w3, t3) := ap3
        have hw : withL l d = l.take i ++ [d] ++ l.drop i := by
          unfold withL
          rw [if_neg hmem, insD_split d l i hil hpre hstop]
          simp
        simp (config := {contextual := true, maxDischargeDepth := 12}) only [tb_at, he, e0, e3, e5, hL, b1, b4, reserve0, sl1, sl2, ap1, hun, b1', b4', bsl_dot, ap2, ap3, hlt, a1, a4, i1, hq, ↓bD, bU, forall_const, List.all_cons, List.all_nil, Option.map_some, List.map_cons, List.map_nil, ne_eq, implies_true, isNx, eq_self, ↓wp_cond, ↓wp_loop, ↓reduceIte, reduceCtorEq, Nat.reduceEqDiff, Nat.reduceLT, Nat.reduceAdd, Nat.reduceMul, Int.ofNat_lt, Int.ofNat_le, exists_const, Option.map_none, beq_self_eq_true, decide_true, ↓sg_bsl, ↓st_callf, bX, ap_mkfn, ae_callvV, callvV_fn, List.cons_append, List.nil_append, boxV_i, boxV_dot, sto_dot, ap_conv, convV_int, bslV_0, fstep_d0, fstep_d1, bsl_dot, ae_appz, ap_cap, capV_nils, slcV_nils0, slcV_sl0, wrap_0, ae_clr, boxV_f, fstep_f, lod_new2, ↓st_appf]
        exact ⟨_, rfl, by rw [hw]; exact hO4.from hn0, hK4⟩
      · rw [hb] at hq
        simp (config := {contextual := true, maxDischargeDepth := 12}) only [tb_at, he, e0, e3, e5, hL, hlt, b1, b4, reserve0, a1, a4, i1, hq, hw2, ↓bD, bU, forall_const, List.all_cons, List.all_nil, Option.map_some, List.map_cons, List.map_nil, ne_eq, implies_true, isNx, eq_self, ↓wp_cond, ↓wp_loop, ↓reduceIte, reduceCtorEq, Nat.reduceEqDiff, Nat.reduceLT, Nat.reduceAdd, Nat.reduceMul, Int.ofNat_lt, Int.ofNat_le, exists_const, Option.map_none, beq_self_eq_true, decide_true, ↓sg_bsl, ↓st_callf, bX, ap_mkfn, ae_callvV, callvV_fn, List.cons_append, List.nil_append, boxV_i, boxV_dot, sto_dot, ap_conv, convV_int, bslV_0, fstep_d0, fstep_d1, bsl_dot, ae_appz, ap_cap, capV_nils, slcV_nils0, slcV_sl0, wrap_0, ae_clr, boxV_f, fstep_f, lod_new2, ↓st_appf]
        refine ⟨n - 1, by omega, ?_⟩
        rw [hI]
        exact ⟨rfl, i + 1, by omega, (by simp only [bE, Nat.reduceEqDiff, ne_eq, not_false_eq_true, Nat.reduceLT, he, e0, e3, e5]; try rfl), (by simp only [bE, Nat.reduceEqDiff, ne_eq, not_false_eq_true, Nat.reduceLT, he, e0, e3, e5]; try rfl), (by simp only [bE, Nat.reduceEqDiff, ne_eq, not_false_eq_true, Nat.reduceLT, he, e0, e3, e5]; try rfl), (by simp only [bE, Nat.reduceEqDiff, ne_eq, not_false_eq_true, Nat.reduceLT, he, e0, e3, e5]; try rfl), by omega, pre_next (P := fun k y => y.before d = true) hx hpre hb⟩
    · have hstop : ∀ y, l[i]? = some y → y.before d = false := fun y hy => absurd (getlt hy) hlt
      obtain ⟨v1, sl1, rd1⟩ := slc_hi (C := dotC) hr (fun _ _ _ _ _ h => hO.capOK _ _ _ _ _ h) (k := .i64) (i := (i : Int)) rfl hil
      obtain ⟨v2, sl2, rd2⟩ := slc_lo (C := dotC) hr (k := .i64) (i := (i : Int)) rfl hil
      have sl1 : slcV 2 v none (some (.int .i64 (i : Int))) = some v1 := sl1
      have sl2 : slcV 2 v (some (.int .i64 (i : Int))) none = some v2 := sl2
      have hKR : Keep s ((s.push (.row (Dot.av d) true)).reserve 1) := hK1.trans (keep_reserve _ 1)
      have hKR1 : Keep (s.push (.row (Dot.av d) true)) ((s.push (.row (Dot.av d) true)).reserve 1) := keep_reserve _ 1
      obtain ⟨w1, t1, ap1, hO1, hKt1⟩ := appF_nil (rd1 _ hKR) (by rw [List.length_take]; unfold lim at hl; omega)
      have hun : t1.get (s.push (.row (Dot.av d) true)).next = some .unborn := by rw [hKt1.get _ (by simp), St.get_reserve]; simp
      obtain ⟨b1', b2', b3', b4'⟩ := box_dot s d (hKR1.trans hKt1)
      have hK2 : Keep s (t1.born (s.push (.row (Dot.av d) true)).next (.row (Dot.av d) true)) := born_keep hun _ (by simp) (hKR.trans hKt1)
      have hO2 : Own dotC s (t1.born (s.push (.row (Dot.av d) true)).next (.row (Dot.av d) true)) w1 (l.take i) := (own_born hO1 hun fun j hj => by
        have := own_vids hO1 j hj
        simp at this ⊢
        omega).from (by simp; omega)
      have hrd : read dotC (t1.born (s.push (.row (Dot.av d) true)).next (.row (Dot.av d) true)) (.sl (s.push (.row (Dot.av d) true)).next 0 1 (some 1) 2) = some [d] := by
        refine read_of (C := dotC) (n := 1) rfl (born_self hun _) (by simp [Dot.av, dotC]) ?_
        rw [cells_one]
        rfl
      obtain ⟨w2, t2, ap2, hK3, hO3⟩ := appV_list (C := dotC) hK2 hO2 hrd 16 (by rw [List.length_take]; simp; unfold lim at hl; unfold roomBytes; omega)
      obtain ⟨w3, t3, ap3, hK4, hO4⟩ := appV_list (C := dotC) hK3 hO3 (rd2 _ hK3) 16 (by rw [List.length_append, List.length_take, List.length_drop]; simp; unfold lim at hl; unfold roomBytes; omega)
      have ap2 : appV (t1.born (s.push (.row (Dot.av d) true)).next (.row (Dot.av d) true)) 2 16 w1 (.sl (s.push (.row (Dot.av d) true)).next 0 1 (some 1) 2) = some (w2, t2) := ap2
      have ap3 : appV t2 2 16 w2 v2 = some (w3, t3) := ap3
      have hw : withL l d = l.take i ++ [d] ++ l.drop i := by
        unfold withL
        rw [if_neg hmem, insD_split d l i hil hpre hstop]
        simp
      simp (config := {contextual := true, maxDischargeDepth := 12}) only [tb_at, he, e0, e3, e5, hL, b1, b4, reserve0, sl1, sl2, ap1, hun, b1', b4', bsl_dot, ap2, ap3, hlt, ↓bD, bU, forall_const, List.all_cons, List.all_nil, Option.map_some, List.map_cons, List.map_nil, ne_eq, implies_true, isNx, eq_self, ↓wp_cond, ↓wp_loop, ↓reduceIte, reduceCtorEq, Nat.reduceEqDiff, Nat.reduceLT, Nat.reduceAdd, Nat.reduceMul, Int.ofNat_lt, Int.ofNat_le, exists_const, Option.map_none, beq_self_eq_true, decide_true, ↓sg_bsl, ↓st_callf, bX, ap_mkfn, ae_callvV, callvV_fn, List.cons_append, List.nil_append, boxV_i, boxV_dot, sto_dot, ap_conv, convV_int, bslV_0, fstep_d0, fstep_d1, bsl_dot, ae_appz, ap_cap, capV_nils, slcV_nils0, slcV_sl0, wrap_0, ae_clr, boxV_f, fstep_f, lod_new2, ↓st_appf]
      exact ⟨_, rfl, by rw [hw]; exact hO4.from hn0, hK4⟩
theorem q_RWith {s : St} {s0 : St} {v : AV} {l : List Dot} (hO : Own dotC s0 s v l) (hn0 : s0.next ≤ s.next) (hl : l.length ≤ lim) (d : Dot) : ∃ w t, acall R_RWith false [v, .agg (Dot.av d)] s = some (w, t) ∧ Own dotC s0 t w (withL l d) ∧ Keep s t :=
  run_any n_RWith (by simp [a59]) (fun r t t' hg hn hq => hq.mono fun id b hb => by rw [hg]; exact hb) (fun r t hgr hk hq => by
    obtain ⟨rfl, h⟩ := hq.ground hgr
    rw [h]
    exact .nil _ _ _) (w_RWith (s := lowd s) (hO.mono fun _ _ h => h) hn0 hl d)
noncomputable def R_RUnion : Con := runFn (tb [(59, R_RWith)]) a32
theorem s_RUnion : SoundAt Tryz.prog 32 R_RUnion := run_sound (tb_sound (l := [(59, R_RWith)]) (by simpa using s_RWith)) mixed Tryz.func32 k32 c32
theorem n_RUnion : noNxtC a32.body = true := by kernel_rfl
theorem w_RUnion {s : St} {va vb : AV} {a b : List Dot} (hra : read dotC s va = some a) (hrb : read dotC s vb = some b) (hla : a.length ≤ 400000) (hlb : b.length ≤ 400000) : ∀ env : Env, elen env = a32.ntmps → (∀ i x_, [va, vb][i]? = some x_ → E env i = x_) → awp (tb [(59, R_RWith)]) a32.body (fun x e t => (∀ i, x ≠ .exit i) ∧ ∃ r, aresults e t a32.results = some r ∧ Own dotC s t r (setL (a ++ b)) ∧ Keep s t) env s := by
  intro env hlen ha
  have h0 : E env 0 = _ := ha 0 _ rfl
  have h1 : E env 1 = _ := ha 1 _ rfl
  have hlen : elen env = _ := hlen
  simp only [a32] at hlen
  unfold a32
  try dsimp only [oO, oG]
  have hLa := lenV_read hra
  have hLb := lenV_read hrb
  simp (config := {contextual := true, maxDischargeDepth := 12}) only [tb_at, h0, h1, hlen, hLa, ↓bD, bU, forall_const, List.all_cons, List.all_nil, Option.map_some, List.map_cons, List.map_nil, ne_eq, implies_true, isNx, eq_self, ↓wp_cond, ↓wp_loop, ↓reduceIte, reduceCtorEq, Nat.reduceEqDiff, Nat.reduceLT, Nat.reduceAdd, Nat.reduceMul, Int.ofNat_lt, Int.ofNat_le, exists_const, Option.map_none, beq_self_eq_true, decide_true, ↓sg_bsl, ↓st_callf, bX, ap_mkfn, ae_callvV, callvV_fn, List.cons_append, List.nil_append, boxV_i, boxV_dot, sto_dot, ap_conv, convV_int, bslV_0, fstep_d0, fstep_d1, bsl_dot, ae_appz, ap_cap, capV_nils, slcV_nils0, slcV_sl0, wrap_0, ae_clr, boxV_f, fstep_f, lod_new2, ↓st_appf]
  obtain ⟨I, hI⟩ : ∃ I : Nat → Env → St → Prop, ∀ n e t, I n e t = (Keep s t ∧ ∃ i : Nat, n + i = a.length ∧ elen e = 33 ∧ E e 0 = va ∧ E e 1 = vb ∧ E e 6 = .int .i64 (i : Int) ∧ Own dotC s t (E e 5) ((a.take i).foldl withL [])) := ⟨fun n e t => (Keep s t ∧ ∃ i : Nat, n + i = a.length ∧ elen e = 33 ∧ E e 0 = va ∧ E e 1 = vb ∧ E e 6 = .int .i64 (i : Int) ∧ Own dotC s t (E e 5) ((a.take i).foldl withL [])), fun _ _ _ => rfl⟩
  refine lwp_inv I (n := a.length) ?_ ?_
  · rw [hI]
    exact ⟨.refl s, 0, by omega, (by simp only [bE, Nat.reduceEqDiff, ne_eq, not_false_eq_true, Nat.reduceLT, hlen]; try rfl), (by simp only [bE, Nat.reduceEqDiff, ne_eq, not_false_eq_true, Nat.reduceLT, hlen, h0]; try rfl), (by simp only [bE, Nat.reduceEqDiff, ne_eq, not_false_eq_true, Nat.reduceLT, hlen, h1]; try rfl), (by simp only [bE, Nat.reduceEqDiff, ne_eq, not_false_eq_true, Nat.reduceLT, hlen]; try rfl), by simp only [bE, Nat.reduceEqDiff, ne_eq, not_false_eq_true, Nat.reduceLT, hlen]; exact .nil _ _ _⟩
  intro n e t hi
  rw [hI] at hi
  obtain ⟨hK, i, hni, he, e0, e1, e6, hO⟩ := hi
  by_cases hlt : i < a.length
  · obtain ⟨x, hx⟩ := getsome hlt
    have hw2 := wrap_add1 (n := i) (by omega)
    obtain ⟨a1, a2, a3, a4⟩ := dot_lods hra hK hx
    have i1 := dot_idx hra hx .i64
    have hln := foldWith_len (a.take i) []
    rw [List.length_take] at hln
    obtain ⟨w, t', q1, hO', hK'⟩ := q_RWith hO hK.next (by simp at hln; unfold lim; omega) x
    simp (config := {contextual := true, maxDischargeDepth := 12}) only [tb_at, he, e0, e1, e6, hLa, hlt, hw2, a1, a4, i1, q1, ↓bD, bU, forall_const, List.all_cons, List.all_nil, Option.map_some, List.map_cons, List.map_nil, ne_eq, implies_true, isNx, eq_self, ↓wp_cond, ↓wp_loop, ↓reduceIte, reduceCtorEq, Nat.reduceEqDiff, Nat.reduceLT, Nat.reduceAdd, Nat.reduceMul, Int.ofNat_lt, Int.ofNat_le, exists_const, Option.map_none, beq_self_eq_true, decide_true, ↓sg_bsl, ↓st_callf, bX, ap_mkfn, ae_callvV, callvV_fn, List.cons_append, List.nil_append, boxV_i, boxV_dot, sto_dot, ap_conv, convV_int, bslV_0, fstep_d0, fstep_d1, bsl_dot, ae_appz, ap_cap, capV_nils, slcV_nils0, slcV_sl0, wrap_0, ae_clr, boxV_f, fstep_f, lod_new2, ↓st_appf]
    refine ⟨n - 1, by omega, ?_⟩
    rw [hI]
    exact ⟨hK.trans hK', i + 1, by omega, (by simp only [bE, Nat.reduceEqDiff, ne_eq, not_false_eq_true, Nat.reduceLT, he, e0, e1, e6]; try rfl), (by simp only [bE, Nat.reduceEqDiff, ne_eq, not_false_eq_true, Nat.reduceLT, he, e0, e1, e6]; try rfl), (by simp only [bE, Nat.reduceEqDiff, ne_eq, not_false_eq_true, Nat.reduceLT, he, e0, e1, e6]; try rfl), (by simp only [bE, Nat.reduceEqDiff, ne_eq, not_false_eq_true, Nat.reduceLT, he, e0, e1, e6]; try rfl), by simp only [bE, Nat.reduceEqDiff, ne_eq, not_false_eq_true, Nat.reduceLT, he]; rw [take_snoc hx, List.foldl_append]; exact hO'⟩
  · obtain rfl : i = a.length := by omega
    rw [List.take_length] at hO
    simp (config := {contextual := true, maxDischargeDepth := 12}) only [tb_at, he, e0, e1, e6, hLa, hLb, hlt, ↓bD, bU, forall_const, List.all_cons, List.all_nil, Option.map_some, List.map_cons, List.map_nil, ne_eq, implies_true, isNx, eq_self, ↓wp_cond, ↓wp_loop, ↓reduceIte, reduceCtorEq, Nat.reduceEqDiff, Nat.reduceLT, Nat.reduceAdd, Nat.reduceMul, Int.ofNat_lt, Int.ofNat_le, exists_const, Option.map_none, beq_self_eq_true, decide_true, ↓sg_bsl, ↓st_callf, bX, ap_mkfn, ae_callvV, callvV_fn, List.cons_append, List.nil_append, boxV_i, boxV_dot, sto_dot, ap_conv, convV_int, bslV_0, fstep_d0, fstep_d1, bsl_dot, ae_appz, ap_cap, capV_nils, slcV_nils0, slcV_sl0, wrap_0, ae_clr, boxV_f, fstep_f, lod_new2, ↓st_appf]
    obtain ⟨I2, hI2⟩ : ∃ I : Nat → Env → St → Prop, ∀ n e t, I n e t = (Keep s t ∧ ∃ i : Nat, n + i = b.length ∧ elen e = 33 ∧ E e 1 = vb ∧ E e 7 = .int .i64 (i : Int) ∧ Own dotC s t (E e 5) (((b.take i).foldl withL (a.foldl withL [])))) := ⟨fun n e t => (Keep s t ∧ ∃ i : Nat, n + i = b.length ∧ elen e = 33 ∧ E e 1 = vb ∧ E e 7 = .int .i64 (i : Int) ∧ Own dotC s t (E e 5) (((b.take i).foldl withL (a.foldl withL [])))), fun _ _ _ => rfl⟩
    refine lwp_inv I2 (n := b.length) ?_ ?_
    · rw [hI2]
      exact ⟨hK, 0, by omega, (by simp only [bE, Nat.reduceEqDiff, ne_eq, not_false_eq_true, Nat.reduceLT, he]; try rfl), (by simp only [bE, Nat.reduceEqDiff, ne_eq, not_false_eq_true, Nat.reduceLT, he, e1]; try rfl), (by simp only [bE, Nat.reduceEqDiff, ne_eq, not_false_eq_true, Nat.reduceLT, he]; try rfl), by simp only [bE, Nat.reduceEqDiff, ne_eq, not_false_eq_true, Nat.reduceLT, he]; exact hO⟩
    intro n e t hi
    rw [hI2] at hi
    obtain ⟨hK, i, hni, he, e1, e7, hO⟩ := hi
    by_cases hlt : i < b.length
    · obtain ⟨x, hx⟩ := getsome hlt
      have hw2 := wrap_add1 (n := i) (by omega)
      obtain ⟨a1, a2, a3, a4⟩ := dot_lods hrb hK hx
      have i1 := dot_idx hrb hx .i64
      have hln := foldWith_len (b.take i) (a.foldl withL [])
      have hln2 := foldWith_len a []
      rw [List.length_take] at hln
      obtain ⟨w, t', q1, hO', hK'⟩ := q_RWith hO hK.next (by simp at hln2; unfold lim; omega) x
      simp (config := {contextual := true, maxDischargeDepth := 12}) only [tb_at, he, e1, e7, hLb, hlt, hw2, a1, a4, i1, q1, ↓bD, bU, forall_const, List.all_cons, List.all_nil, Option.map_some, List.map_cons, List.map_nil, ne_eq, implies_true, isNx, eq_self, ↓wp_cond, ↓wp_loop, ↓reduceIte, reduceCtorEq, Nat.reduceEqDiff, Nat.reduceLT, Nat.reduceAdd, Nat.reduceMul, Int.ofNat_lt, Int.ofNat_le, exists_const, Option.map_none, beq_self_eq_true, decide_true, ↓sg_bsl, ↓st_callf, bX, ap_mkfn, ae_callvV, callvV_fn, List.cons_append, List.nil_append, boxV_i, boxV_dot, sto_dot, ap_conv, convV_int, bslV_0, fstep_d0, fstep_d1, bsl_dot, ae_appz, ap_cap, capV_nils, slcV_nils0, slcV_sl0, wrap_0, ae_clr, boxV_f, fstep_f, lod_new2, ↓st_appf]
      refine ⟨n - 1, by omega, ?_⟩
      rw [hI2]
      exact ⟨hK.trans hK', i + 1, by omega, (by simp only [bE, Nat.reduceEqDiff, ne_eq, not_false_eq_true, Nat.reduceLT, he, e1, e7]; try rfl), (by simp only [bE, Nat.reduceEqDiff, ne_eq, not_false_eq_true, Nat.reduceLT, he, e1, e7]; try rfl), (by simp only [bE, Nat.reduceEqDiff, ne_eq, not_false_eq_true, Nat.reduceLT, he, e1, e7]; try rfl), by simp only [bE, Nat.reduceEqDiff, ne_eq, not_false_eq_true, Nat.reduceLT, he]; rw [take_snoc hx, List.foldl_append]; exact hO'⟩
    · obtain rfl : i = b.length := by omega
      rw [List.take_length, foldWith_set] at hO
      simp (config := {contextual := true, maxDischargeDepth := 12}) only [tb_at, he, e1, e7, hLb, hlt, ↓bD, bU, forall_const, List.all_cons, List.all_nil, Option.map_some, List.map_cons, List.map_nil, ne_eq, implies_true, isNx, eq_self, ↓wp_cond, ↓wp_loop, ↓reduceIte, reduceCtorEq, Nat.reduceEqDiff, Nat.reduceLT, Nat.reduceAdd, Nat.reduceMul, Int.ofNat_lt, Int.ofNat_le, exists_const, Option.map_none, beq_self_eq_true, decide_true, ↓sg_bsl, ↓st_callf, bX, ap_mkfn, ae_callvV, callvV_fn, List.cons_append, List.nil_append, boxV_i, boxV_dot, sto_dot, ap_conv, convV_int, bslV_0, fstep_d0, fstep_d1, bsl_dot, ae_appz, ap_cap, capV_nils, slcV_nils0, slcV_sl0, wrap_0, ae_clr, boxV_f, fstep_f, lod_new2, ↓st_appf]
      exact ⟨_, rfl, hO, hK⟩
theorem q_RUnion {s : St} {va vb : AV} {a b : List Dot} (hra : read dotC s va = some a) (hrb : read dotC s vb = some b) (hla : a.length ≤ 400000) (hlb : b.length ≤ 400000) : ∃ w t, acall R_RUnion false [va, vb] s = some (w, t) ∧ Own dotC s t w (setL (a ++ b)) ∧ Keep s t :=
  run_any n_RUnion (by simp [a32]) (fun r t t' hg hn hq => hq.mono fun id b hb => by rw [hg]; exact hb) (fun r t hgr hk hq => by
    obtain ⟨rfl, h⟩ := hq.ground hgr
    rw [h]
    exact .nil _ _ _) (w_RUnion (s := lowd s) (read_low' hra) (read_low' hrb) hla hlb)

end Go.AM
end
/-
  The references: Raise and Compact. Own work of this project; in part printed by a program of it.
-/
section
set_option linter.unusedVariables false
set_option linter.unusedSimpArgs false
set_option maxRecDepth 100000
set_option maxHeartbeats 8000000
namespace Go.AM
open Go Go.Proofs

variable {s t u : St}

def raistep (d : Dot) (p : List Dot × Bool) (x : Dot) : List Dot × Bool := ((p.1 ++ (if p.2 = false ∧ d.r ≤ x.r then [d] else [])) ++ (if x.r = d.r then [] else [x]), p.2 || decide (d.r ≤ x.r))
theorem rfold_eq (d : Dot) : ∀ (l out : List Dot) (b : Bool), (l.foldl (raistep d) (out, b)).1 ++ (if (l.foldl (raistep d) (out, b)).2 = true then [] else [d]) = out ++ raiseGo d b l
  | [], out, b => by cases b <;> simp [raiseGo]
  | x :: r, out, b => by
    rw [List.foldl_cons]
    show ((r.foldl (raistep d) (raistep d (out, b) x)).1 ++ _) = _
    have := rfold_eq d r (raistep d (out, b) x).1 (raistep d (out, b) x).2
    rw [this]
    simp only [raistep, raiseGo, List.append_assoc]
theorem rfold_len (d : Dot) : ∀ (l out : List Dot) (b : Bool), (l.foldl (raistep d) (out, b)).1.length ≤ out.length + 2 * l.length
  | [], out, b => by simp
  | x :: r, out, b => by
    rw [List.foldl_cons]
    have := rfold_len d r (raistep d (out, b) x).1 (raistep d (out, b) x).2
    have h1 : (raistep d (out, b) x).1.length ≤ out.length + 2 := by
      simp only [raistep, List.length_append]
      have : (if b = false ∧ d.r ≤ x.r then [d] else []).length ≤ 1 := by split <;> simp
      have : (if x.r = d.r then ([] : List Dot) else [x]).length ≤ 1 := by split <;> simp
      omega
    simp only [List.length_cons]
    have e : (raistep d (out, b) x) = ((raistep d (out, b) x).1, (raistep d (out, b) x).2) := rfl
    rw [e]
    omega
theorem runR {fn : AFn} {call : Nat → List AV → St → Option (AV × St)} (hn : noNxtC fn.body = true) {args : List AV} (hl : args.length ≤ fn.ntmps) {s : St} {l : List Dot}
    (h : ∀ env : Env, elen env = fn.ntmps → (∀ i v, args[i]? = some v → E env i = v) → awp call fn.body (fun x e t => (∀ i, x ≠ .exit i) ∧ ∃ r, aresults e t fn.results = some r ∧ read dotC t r = some l ∧ Keep (lowd s) t) env (lowd s)) :
    ∃ w t, acall (runFn call fn) false args s = some (w, t) ∧ read dotC t w = some l ∧ Keep s t :=
  run_any hn hl (fun r t t' hg hn hq => read_mono hq fun id b hb => by rw [hg]; exact hb) (fun r t hgr hk hq => by
    obtain ⟨rfl, h⟩ := read_ground hq hgr
    rw [h]
    rfl) h
noncomputable def R_RRaise : Con := runFn (tb [(56, R_RVHas)]) a58
theorem s_RRaise : SoundAt Tryz.prog 58 R_RRaise := run_sound (tb_sound (l := [(56, R_RVHas)]) (by simpa using s_RVHas)) mixed Tryz.func58 k58 c58
theorem n_RRaise : noNxtC a58.body = true := by kernel_rfl
theorem w_RRaise {s : St} {v : AV} {l : List Dot} (hr : read dotC s v = some l) (hl : l.length ≤ 400000) (d : Dot) : ∀ env : Env, elen env = a58.ntmps → (∀ i x_, [v, .agg (Dot.av d)][i]? = some x_ → E env i = x_) → awp (tb [(56, R_RVHas)]) a58.body (fun x e t => (∀ i, x ≠ .exit i) ∧ ∃ r, aresults e t a58.results = some r ∧ (read dotC t r = some (raiseL l d) ∧ (r = v ∨ ∀ id ∈ vids r, s.next ≤ id)) ∧ Keep s t) env s := by
  intro env hlen ha
  have h0 : E env 0 = _ := ha 0 _ rfl
  have h1 : E env 1 = _ := ha 1 _ rfl
  have hlen : elen env = _ := hlen
  simp only [a58] at hlen
  unfold a58
  try dsimp only [oO, oG]
  have hL := lenV_read hr
  have hK1 : Keep s (s.push (.row (Dot.av d) true)) := (Keep.refl s).push _
  have qh := q_RVHas false (hK1.read hr) (by unfold lim; omega) d
  obtain ⟨b1, b2, b3, b4⟩ := box_dot s d (.refl _)
  cases hh : vhas l d
  · rw [hh] at qh
    have hR : raiseL l d = raiseGo d false l := by unfold raiseL; rw [if_neg (by simp [hh])]
    have hfin := rfold_eq d l [] false
    rw [List.nil_append] at hfin
    simp (config := {contextual := true, maxDischargeDepth := 12}) only [tb_at, h0, h1, hlen, qh, b1, b4, hL, ↓bD, bU, forall_const, List.all_cons, List.all_nil, Option.map_some, List.map_cons, List.map_nil, ne_eq, implies_true, isNx, eq_self, ↓wp_cond, ↓wp_loop, ↓reduceIte, reduceCtorEq, Nat.reduceEqDiff, Nat.reduceLT, Nat.reduceAdd, Nat.reduceMul, Int.ofNat_lt, Int.ofNat_le, exists_const, Option.map_none, beq_self_eq_true, decide_true, ↓sg_bsl, ↓st_callf, bX, ap_mkfn, ae_callvV, callvV_fn, List.cons_append, List.nil_append, boxV_i, boxV_dot, sto_dot, ap_conv, convV_int, bslV_0, fstep_d0, fstep_d1, bsl_dot, ae_appz, ap_cap, capV_nils, slcV_nils0, slcV_sl0, wrap_0, ae_clr, boxV_f, fstep_f, lod_new2, ↓st_appf]
    obtain ⟨I, hI⟩ : ∃ I : Nat → Env → St → Prop, ∀ n e t, I n e t = (Keep (s.push (.row (Dot.av d) true)) t ∧ ∃ i : Nat, n + i = l.length ∧ elen e = 56 ∧ E e 0 = v ∧ E e 3 = .ptr s.next 0 ∧ E e 7 = .int .i64 (i : Int) ∧ E e 6 = .bool ((l.take i).foldl (raistep d) ([], false)).2 ∧ Own dotC (s.push (.row (Dot.av d) true)) t (E e 5) ((l.take i).foldl (raistep d) ([], false)).1) := ⟨fun n e t => (Keep (s.push (.row (Dot.av d) true)) t ∧ ∃ i : Nat, n + i = l.length ∧ elen e = 56 ∧ E e 0 = v ∧ E e 3 = .ptr s.next 0 ∧ E e 7 = .int .i64 (i : Int) ∧ E e 6 = .bool ((l.take i).foldl (raistep d) ([], false)).2 ∧ Own dotC (s.push (.row (Dot.av d) true)) t (E e 5) ((l.take i).foldl (raistep d) ([], false)).1), fun _ _ _ => rfl⟩
    refine lwp_inv I (n := l.length) ?_ ?_
    · rw [hI]
      exact ⟨.refl _, 0, by omega, (by simp only [bE, Nat.reduceEqDiff, ne_eq, not_false_eq_true, Nat.reduceLT, hlen]; try rfl), (by simp only [bE, Nat.reduceEqDiff, ne_eq, not_false_eq_true, Nat.reduceLT, hlen, h0]; try rfl), (by simp only [bE, Nat.reduceEqDiff, ne_eq, not_false_eq_true, Nat.reduceLT, hlen]; try rfl), (by simp only [bE, Nat.reduceEqDiff, ne_eq, not_false_eq_true, Nat.reduceLT, hlen]; try rfl), (by simp only [bE, Nat.reduceEqDiff, ne_eq, not_false_eq_true, Nat.reduceLT, hlen]; try rfl), by simp only [bE, Nat.reduceEqDiff, ne_eq, not_false_eq_true, Nat.reduceLT, hlen]; exact .nil _ _ _⟩
    clear b1 b2 b3 b4
    intro n e t hi
    rw [hI] at hi
    obtain ⟨hK, i, hni, he, e0, e3, e7, e6, hO⟩ := hi
    have hKs : Keep s t := hK1.trans hK
    obtain ⟨b1, b2, b3, b4⟩ := box_dot s d hK
    have hlen1 := rfold_len d (l.take i) [] false
    rw [List.length_take] at hlen1
    simp only [List.length_nil, Nat.zero_add] at hlen1
    generalize hP : (l.take i).foldl (raistep d) ([], false) = P at e6 hO hlen1
    by_cases hlt : i < l.length
    · obtain ⟨x, hx⟩ := getsome hlt
      have hw2 := wrap_add1 (n := i) (by omega)
      obtain ⟨a1, a2, a3, a4⟩ := dot_lods hr hKs hx
      have i1 := dot_idx hr hx .i64
      have hsn : (l.take (i + 1)).foldl (raistep d) ([], false) = raistep d P x := by rw [take_snoc hx, List.foldl_append, hP]; rfl
      have hPl : P.1.length ≤ 800000 := by omega
      obtain ⟨P1, P2⟩ := P
      simp only at e6 hO hPl
      cases P2
      · by_cases hA : d.r ≤ x.r
        · have hz := eq_true hA
          have hdn : True := trivial
          by_cases hB : x.r = d.r
          · have hzb := eq_true hB
            have hstep : (l.take (i + 1)).foldl (raistep d) ([], false) = (P1 ++ [d], true) := by rw [hsn]; simp [raistep, hA, hB]
            obtain ⟨u1, t1, ap1, hK1', hO1⟩ := appV_one (C := dotC) hK hO d 16 (by simp only [roomBytes]; omega)
            have ap1 : appV (t.push (.row (Dot.av d) true)) 2 16 (E e 5) (.sl t.next 0 1 (some 1) 2) = some (u1, t1) := ap1
            obtain ⟨a1', a2', a3', a4'⟩ := dot_lods hr (hK1.trans hK1') hx
            obtain ⟨b1', b2', b3', b4'⟩ := box_dot s d hK1'
            simp (config := {contextual := true, maxDischargeDepth := 12}) only [tb_at, he, e0, e3, e7, e6, hL, hlt, hw2, a1, a2, a4, i1, b1, b2, b4, bsl_dot, reserve0, notV_bool, Bool.not_true, Bool.not_false, ap1, a1', a2', a4', b1', b2', b4', hdn, hz, hzb, ↓bD, bU, forall_const, List.all_cons, List.all_nil, Option.map_some, List.map_cons, List.map_nil, ne_eq, implies_true, isNx, eq_self, ↓wp_cond, ↓wp_loop, ↓reduceIte, reduceCtorEq, Nat.reduceEqDiff, Nat.reduceLT, Nat.reduceAdd, Nat.reduceMul, Int.ofNat_lt, Int.ofNat_le, exists_const, Option.map_none, beq_self_eq_true, decide_true, ↓sg_bsl, ↓st_callf, bX, ap_mkfn, ae_callvV, callvV_fn, List.cons_append, List.nil_append, boxV_i, boxV_dot, sto_dot, ap_conv, convV_int, bslV_0, fstep_d0, fstep_d1, bsl_dot, ae_appz, ap_cap, capV_nils, slcV_nils0, slcV_sl0, wrap_0, ae_clr, boxV_f, fstep_f, lod_new2, ↓st_appf]
            refine ⟨n - 1, by omega, ?_⟩
            rw [hI]
            exact ⟨hK1', i + 1, by omega, (by simp only [bE, Nat.reduceEqDiff, ne_eq, not_false_eq_true, Nat.reduceLT, he]; try rfl), (by simp only [bE, Nat.reduceEqDiff, ne_eq, not_false_eq_true, Nat.reduceLT, he, e0]; try rfl), (by simp only [bE, Nat.reduceEqDiff, ne_eq, not_false_eq_true, Nat.reduceLT, he, e3]; try rfl), (by simp only [bE, Nat.reduceEqDiff, ne_eq, not_false_eq_true, Nat.reduceLT, he]; try rfl), (by rw [hstep]; simp only [bE, Nat.reduceEqDiff, ne_eq, not_false_eq_true, Nat.reduceLT, he, e6]), by simp only [bE, Nat.reduceEqDiff, ne_eq, not_false_eq_true, Nat.reduceLT, he]; rw [hstep]; exact hO1⟩
          · have hzb := eq_false hB
            have hstep : (l.take (i + 1)).foldl (raistep d) ([], false) = (P1 ++ [d] ++ [x], true) := by rw [hsn]; simp [raistep, hA, hB]
            obtain ⟨u1, t1, ap1, hK1', hO1⟩ := appV_one (C := dotC) hK hO d 16 (by simp only [roomBytes]; omega)
            have ap1 : appV (t.push (.row (Dot.av d) true)) 2 16 (E e 5) (.sl t.next 0 1 (some 1) 2) = some (u1, t1) := ap1
            obtain ⟨a1', a2', a3', a4'⟩ := dot_lods hr (hK1.trans hK1') hx
            obtain ⟨b1', b2', b3', b4'⟩ := box_dot s d hK1'
            obtain ⟨u2, t2, ap2, hK2', hO2⟩ := appV_one (C := dotC) hK1' hO1 x 16 (by simp only [roomBytes, List.length_append, List.length_cons, List.length_nil]; omega)
            have ap2 : appV (t1.push (.row (Dot.av x) true)) 2 16 u1 (.sl t1.next 0 1 (some 1) 2) = some (u2, t2) := ap2
            simp (config := {contextual := true, maxDischargeDepth := 12}) only [tb_at, he, e0, e3, e7, e6, hL, hlt, hw2, a1, a2, a4, i1, b1, b2, b4, bsl_dot, reserve0, notV_bool, Bool.not_true, Bool.not_false, ap1, a1', a2', a4', b1', b2', b4', ap2, hdn, hz, hzb, ↓bD, bU, forall_const, List.all_cons, List.all_nil, Option.map_some, List.map_cons, List.map_nil, ne_eq, implies_true, isNx, eq_self, ↓wp_cond, ↓wp_loop, ↓reduceIte, reduceCtorEq, Nat.reduceEqDiff, Nat.reduceLT, Nat.reduceAdd, Nat.reduceMul, Int.ofNat_lt, Int.ofNat_le, exists_const, Option.map_none, beq_self_eq_true, decide_true, ↓sg_bsl, ↓st_callf, bX, ap_mkfn, ae_callvV, callvV_fn, List.cons_append, List.nil_append, boxV_i, boxV_dot, sto_dot, ap_conv, convV_int, bslV_0, fstep_d0, fstep_d1, bsl_dot, ae_appz, ap_cap, capV_nils, slcV_nils0, slcV_sl0, wrap_0, ae_clr, boxV_f, fstep_f, lod_new2, ↓st_appf]
            refine ⟨n - 1, by omega, ?_⟩
            rw [hI]
            exact ⟨hK2', i + 1, by omega, (by simp only [bE, Nat.reduceEqDiff, ne_eq, not_false_eq_true, Nat.reduceLT, he]; try rfl), (by simp only [bE, Nat.reduceEqDiff, ne_eq, not_false_eq_true, Nat.reduceLT, he, e0]; try rfl), (by simp only [bE, Nat.reduceEqDiff, ne_eq, not_false_eq_true, Nat.reduceLT, he, e3]; try rfl), (by simp only [bE, Nat.reduceEqDiff, ne_eq, not_false_eq_true, Nat.reduceLT, he]; try rfl), (by rw [hstep]; simp only [bE, Nat.reduceEqDiff, ne_eq, not_false_eq_true, Nat.reduceLT, he, e6]), by simp only [bE, Nat.reduceEqDiff, ne_eq, not_false_eq_true, Nat.reduceLT, he]; rw [hstep]; exact hO2⟩
        · have hz := eq_false hA
          have hdn : True := trivial
          have hB : x.r ≠ d.r := by omega
          have hzb := eq_false hB
          have hstep : (l.take (i + 1)).foldl (raistep d) ([], false) = (P1 ++ [x], false) := by rw [hsn]; simp [raistep, hA, hB]
          obtain ⟨u2, t2, ap2, hK2', hO2⟩ := appV_one (C := dotC) hK hO x 16 (by simp only [roomBytes]; omega)
          have ap2 : appV (t.push (.row (Dot.av x) true)) 2 16 (E e 5) (.sl t.next 0 1 (some 1) 2) = some (u2, t2) := ap2
          simp (config := {contextual := true, maxDischargeDepth := 12}) only [tb_at, he, e0, e3, e7, e6, hL, hlt, hw2, a1, a2, a4, i1, b1, b2, b4, bsl_dot, reserve0, notV_bool, Bool.not_true, Bool.not_false, ap2, hdn, hz, hzb, ↓bD, bU, forall_const, List.all_cons, List.all_nil, Option.map_some, List.map_cons, List.map_nil, ne_eq, implies_true, isNx, eq_self, ↓wp_cond, ↓wp_loop, ↓reduceIte, reduceCtorEq, Nat.reduceEqDiff, Nat.reduceLT, Nat.reduceAdd, Nat.reduceMul, Int.ofNat_lt, Int.ofNat_le, exists_const, Option.map_none, beq_self_eq_true, decide_true, ↓sg_bsl, ↓st_callf, bX, ap_mkfn, ae_callvV, callvV_fn, List.cons_append, List.nil_append, boxV_i, boxV_dot, sto_dot, ap_conv, convV_int, bslV_0, fstep_d0, fstep_d1, bsl_dot, ae_appz, ap_cap, capV_nils, slcV_nils0, slcV_sl0, wrap_0, ae_clr, boxV_f, fstep_f, lod_new2, ↓st_appf]
          refine ⟨n - 1, by omega, ?_⟩
          rw [hI]
          exact ⟨hK2', i + 1, by omega, (by simp only [bE, Nat.reduceEqDiff, ne_eq, not_false_eq_true, Nat.reduceLT, he]; try rfl), (by simp only [bE, Nat.reduceEqDiff, ne_eq, not_false_eq_true, Nat.reduceLT, he, e0]; try rfl), (by simp only [bE, Nat.reduceEqDiff, ne_eq, not_false_eq_true, Nat.reduceLT, he, e3]; try rfl), (by simp only [bE, Nat.reduceEqDiff, ne_eq, not_false_eq_true, Nat.reduceLT, he]; try rfl), (by rw [hstep]; simp only [bE, Nat.reduceEqDiff, ne_eq, not_false_eq_true, Nat.reduceLT, he, e6]), by simp only [bE, Nat.reduceEqDiff, ne_eq, not_false_eq_true, Nat.reduceLT, he]; rw [hstep]; exact hO2⟩
      · have hz : True := trivial
        have hdn : True := trivial
        by_cases hB : x.r = d.r
        · have hzb := eq_true hB
          have hstep : (l.take (i + 1)).foldl (raistep d) ([], false) = (P1, true) := by rw [hsn]; simp [raistep, hB]
          simp (config := {contextual := true, maxDischargeDepth := 12}) only [tb_at, he, e0, e3, e7, e6, hL, hlt, hw2, a1, a2, a4, i1, b1, b2, b4, bsl_dot, reserve0, notV_bool, Bool.not_true, Bool.not_false, hdn, hz, hzb, ↓bD, bU, forall_const, List.all_cons, List.all_nil, Option.map_some, List.map_cons, List.map_nil, ne_eq, implies_true, isNx, eq_self, ↓wp_cond, ↓wp_loop, ↓reduceIte, reduceCtorEq, Nat.reduceEqDiff, Nat.reduceLT, Nat.reduceAdd, Nat.reduceMul, Int.ofNat_lt, Int.ofNat_le, exists_const, Option.map_none, beq_self_eq_true, decide_true, ↓sg_bsl, ↓st_callf, bX, ap_mkfn, ae_callvV, callvV_fn, List.cons_append, List.nil_append, boxV_i, boxV_dot, sto_dot, ap_conv, convV_int, bslV_0, fstep_d0, fstep_d1, bsl_dot, ae_appz, ap_cap, capV_nils, slcV_nils0, slcV_sl0, wrap_0, ae_clr, boxV_f, fstep_f, lod_new2, ↓st_appf]
          refine ⟨n - 1, by omega, ?_⟩
          rw [hI]
          exact ⟨hK, i + 1, by omega, (by simp only [bE, Nat.reduceEqDiff, ne_eq, not_false_eq_true, Nat.reduceLT, he]; try rfl), (by simp only [bE, Nat.reduceEqDiff, ne_eq, not_false_eq_true, Nat.reduceLT, he, e0]; try rfl), (by simp only [bE, Nat.reduceEqDiff, ne_eq, not_false_eq_true, Nat.reduceLT, he, e3]; try rfl), (by simp only [bE, Nat.reduceEqDiff, ne_eq, not_false_eq_true, Nat.reduceLT, he]; try rfl), (by rw [hstep]; simp only [bE, Nat.reduceEqDiff, ne_eq, not_false_eq_true, Nat.reduceLT, he, e6]), by simp only [bE, Nat.reduceEqDiff, ne_eq, not_false_eq_true, Nat.reduceLT, he]; rw [hstep]; exact hO⟩
        · have hzb := eq_false hB
          have hstep : (l.take (i + 1)).foldl (raistep d) ([], false) = (P1 ++ [x], true) := by rw [hsn]; simp [raistep, hB]
          obtain ⟨u2, t2, ap2, hK2', hO2⟩ := appV_one (C := dotC) hK hO x 16 (by simp only [roomBytes]; omega)
          have ap2 : appV (t.push (.row (Dot.av x) true)) 2 16 (E e 5) (.sl t.next 0 1 (some 1) 2) = some (u2, t2) := ap2
          simp (config := {contextual := true, maxDischargeDepth := 12}) only [tb_at, he, e0, e3, e7, e6, hL, hlt, hw2, a1, a2, a4, i1, b1, b2, b4, bsl_dot, reserve0, notV_bool, Bool.not_true, Bool.not_false, ap2, hdn, hz, hzb, ↓bD, bU, forall_const, List.all_cons, List.all_nil, Option.map_some, List.map_cons, List.map_nil, ne_eq, implies_true, isNx, eq_self, ↓wp_cond, ↓wp_loop, ↓reduceIte, reduceCtorEq, Nat.reduceEqDiff, Nat.reduceLT, Nat.reduceAdd, Nat.reduceMul, Int.ofNat_lt, Int.ofNat_le, exists_const, Option.map_none, beq_self_eq_true, decide_true, ↓sg_bsl, ↓st_callf, bX, ap_mkfn, ae_callvV, callvV_fn, List.cons_append, List.nil_append, boxV_i, boxV_dot, sto_dot, ap_conv, convV_int, bslV_0, fstep_d0, fstep_d1, bsl_dot, ae_appz, ap_cap, capV_nils, slcV_nils0, slcV_sl0, wrap_0, ae_clr, boxV_f, fstep_f, lod_new2, ↓st_appf]
          refine ⟨n - 1, by omega, ?_⟩
          rw [hI]
          exact ⟨hK2', i + 1, by omega, (by simp only [bE, Nat.reduceEqDiff, ne_eq, not_false_eq_true, Nat.reduceLT, he]; try rfl), (by simp only [bE, Nat.reduceEqDiff, ne_eq, not_false_eq_true, Nat.reduceLT, he, e0]; try rfl), (by simp only [bE, Nat.reduceEqDiff, ne_eq, not_false_eq_true, Nat.reduceLT, he, e3]; try rfl), (by simp only [bE, Nat.reduceEqDiff, ne_eq, not_false_eq_true, Nat.reduceLT, he]; try rfl), (by rw [hstep]; simp only [bE, Nat.reduceEqDiff, ne_eq, not_false_eq_true, Nat.reduceLT, he, e6]), by simp only [bE, Nat.reduceEqDiff, ne_eq, not_false_eq_true, Nat.reduceLT, he]; rw [hstep]; exact hO2⟩
    · obtain rfl : i = l.length := by omega
      rw [List.take_length] at hP
      rw [hP] at hfin
      obtain ⟨P1, P2⟩ := P
      simp only at e6 hO hfin hlen1
      cases P2
      · obtain ⟨u1, t1, ap1, hK1', hO1⟩ := appV_one (C := dotC) hK hO d 16 (by simp only [roomBytes]; omega)
        have ap1 : appV (t.push (.row (Dot.av d) true)) 2 16 (E e 5) (.sl t.next 0 1 (some 1) 2) = some (u1, t1) := ap1
        have hR2 : raiseL l d = P1 ++ [d] := by rw [hR, ← hfin]; rfl
        simp (config := {contextual := true, maxDischargeDepth := 12}) only [tb_at, he, e0, e3, e7, e6, hL, hlt, b1, b4, bsl_dot, ap1, notV_bool, Bool.not_false, ↓bD, bU, forall_const, List.all_cons, List.all_nil, Option.map_some, List.map_cons, List.map_nil, ne_eq, implies_true, isNx, eq_self, ↓wp_cond, ↓wp_loop, ↓reduceIte, reduceCtorEq, Nat.reduceEqDiff, Nat.reduceLT, Nat.reduceAdd, Nat.reduceMul, Int.ofNat_lt, Int.ofNat_le, exists_const, Option.map_none, beq_self_eq_true, decide_true, ↓sg_bsl, ↓st_callf, bX, ap_mkfn, ae_callvV, callvV_fn, List.cons_append, List.nil_append, boxV_i, boxV_dot, sto_dot, ap_conv, convV_int, bslV_0, fstep_d0, fstep_d1, bsl_dot, ae_appz, ap_cap, capV_nils, slcV_nils0, slcV_sl0, wrap_0, ae_clr, boxV_f, fstep_f, lod_new2, ↓st_appf]
        exact ⟨_, rfl, ⟨by rw [hR2]; exact hO1.read, .inr fun id hid => by have := own_vids hO1 id hid; simp at this; omega⟩, hK1.trans hK1'⟩
      · have hR2 : raiseL l d = P1 := by rw [hR, ← hfin]; simp
        simp (config := {contextual := true, maxDischargeDepth := 12}) only [tb_at, he, e0, e3, e7, e6, hL, hlt, b1, b4, notV_bool, Bool.not_true, ↓bD, bU, forall_const, List.all_cons, List.all_nil, Option.map_some, List.map_cons, List.map_nil, ne_eq, implies_true, isNx, eq_self, ↓wp_cond, ↓wp_loop, ↓reduceIte, reduceCtorEq, Nat.reduceEqDiff, Nat.reduceLT, Nat.reduceAdd, Nat.reduceMul, Int.ofNat_lt, Int.ofNat_le, exists_const, Option.map_none, beq_self_eq_true, decide_true, ↓sg_bsl, ↓st_callf, bX, ap_mkfn, ae_callvV, callvV_fn, List.cons_append, List.nil_append, boxV_i, boxV_dot, sto_dot, ap_conv, convV_int, bslV_0, fstep_d0, fstep_d1, bsl_dot, ae_appz, ap_cap, capV_nils, slcV_nils0, slcV_sl0, wrap_0, ae_clr, boxV_f, fstep_f, lod_new2, ↓st_appf]
        exact ⟨_, rfl, ⟨by rw [hR2]; exact hO.read, .inr fun id hid => by have := own_vids hO id hid; simp at this; omega⟩, hKs⟩
  · rw [hh] at qh
    have hR : raiseL l d = l := by unfold raiseL; rw [if_pos hh]
    simp (config := {contextual := true, maxDischargeDepth := 12}) only [tb_at, h0, h1, hlen, qh, b1, b4, ↓bD, bU, forall_const, List.all_cons, List.all_nil, Option.map_some, List.map_cons, List.map_nil, ne_eq, implies_true, isNx, eq_self, ↓wp_cond, ↓wp_loop, ↓reduceIte, reduceCtorEq, Nat.reduceEqDiff, Nat.reduceLT, Nat.reduceAdd, Nat.reduceMul, Int.ofNat_lt, Int.ofNat_le, exists_const, Option.map_none, beq_self_eq_true, decide_true, ↓sg_bsl, ↓st_callf, bX, ap_mkfn, ae_callvV, callvV_fn, List.cons_append, List.nil_append, boxV_i, boxV_dot, sto_dot, ap_conv, convV_int, bslV_0, fstep_d0, fstep_d1, bsl_dot, ae_appz, ap_cap, capV_nils, slcV_nils0, slcV_sl0, wrap_0, ae_clr, boxV_f, fstep_f, lod_new2, ↓st_appf]
    first | exact ⟨_, rfl, (by rw [hR]; exact hK1.read hr), .inl rfl⟩ | exact ⟨by rw [hR]; exact hK1.read hr, .inl rfl⟩ | exact ⟨_, rfl, ⟨(by rw [hR]; exact hK1.read hr), .inl rfl⟩, hK1⟩ | exact ⟨_, rfl, ⟨(by rw [hR]; exact hK1.read hr), .inl rfl⟩⟩ | exact ⟨⟨(by rw [hR]; exact hK1.read hr), .inl rfl⟩, hK1⟩ | exact ⟨(by rw [hR]; exact hK1.read hr), .inl rfl⟩
theorem q_RRaise {s : St} {v : AV} {l : List Dot} (hr : read dotC s v = some l) (hl : l.length ≤ 400000) (d : Dot) : ∃ w t, acall R_RRaise false [v, .agg (Dot.av d)] s = some (w, t) ∧ (read dotC t w = some (raiseL l d) ∧ (w = v ∨ ∀ id ∈ vids w, s.next ≤ id)) ∧ Keep s t :=
  run_any n_RRaise (by simp [a58]) (fun r t t' hg hn hq => ⟨read_mono hq.1 fun id b hb => by rw [hg]; exact hb, hq.2⟩) (fun r t hgr hk hq => by
    obtain ⟨rfl, h⟩ := read_ground hq.1 hgr
    rw [h]
    exact ⟨rfl, .inr (by simp [vids])⟩) (w_RRaise (s := lowd s) (read_low' hr) hl d)

end Go.AM
end
/-
  The reference: Compact, Add, Missing, Size. Own work of this project; in part printed by a program of it.
-/
section
set_option linter.unusedVariables false
set_option linter.unusedSimpArgs false
set_option maxRecDepth 100000
set_option maxHeartbeats 8000000
namespace Go.AM
open Go Go.Proofs

variable {s t u : St}

theorem runC {fn : AFn} {call : Nat → List AV → St → Option (AV × St)} (hn : noNxtC fn.body = true) {args : List AV} (hl : args.length ≤ fn.ntmps) {s : St} {X : DCx}
    (h : ∀ env : Env, elen env = fn.ntmps → (∀ i v, args[i]? = some v → E env i = v) → awp call fn.body (fun x e t => (∀ i, x ≠ .exit i) ∧ ∃ r, aresults e t fn.results = some r ∧ (∃ vv cc, r = .agg [vv, cc] ∧ CR t vv cc X) ∧ Keep (lowd s) t) env (lowd s)) :
    ∃ vv cc t, acall (runFn call fn) false args s = some (.agg [vv, cc], t) ∧ CR t vv cc X ∧ Keep s t := by
  obtain ⟨r, t, h1, ⟨vv, cc, rfl, h2⟩, h3⟩ := run_any hn hl (Q := fun r t => ∃ vv cc, r = .agg [vv, cc] ∧ CR t vv cc X) (fun r t t' hg hn ⟨vv, cc, e, h⟩ => ⟨vv, cc, e, h.mono fun id b hb => by rw [hg]; exact hb⟩) (fun r t hgr hk ⟨vv, cc, e, h⟩ => ⟨vv, cc, e, by
    rw [e] at hgr
    exact h.ground (plain_ground (ground_agg hgr).1) (plain_ground (ground_agg hgr).2)⟩) h
  exact ⟨vv, cc, t, h1, h2, h3⟩
noncomputable def R_RComp : Con := runFn (tb [(55, R_RIsC), (56, R_RVHas), (57, R_RVGet), (58, R_RRaise)]) a30
theorem s_RComp : SoundAt Tryz.prog 30 R_RComp := run_sound (tb_sound (l := [(55, R_RIsC), (56, R_RVHas), (57, R_RVGet), (58, R_RRaise)]) (by simpa using ⟨s_RIsC, s_RVHas, s_RVGet, s_RRaise⟩)) mixed Tryz.func30 k30 c30
theorem n_RComp : noNxtC a30.body = true := by kernel_rfl
theorem w_RComp {s : St} {v w : AV} {X : DCx} (hv : read dotC s v = some X.v) (hw : read dotC s w = some X.c) (hlv : X.v.length ≤ 200000) (hlw : X.c.length ≤ 200000) (hcv : cvalid X = true) : ∀ env : Env, elen env = a30.ntmps → (∀ i x_, [.agg [v, w]][i]? = some x_ → E env i = x_) → awp (tb [(55, R_RIsC), (56, R_RVHas), (57, R_RVGet), (58, R_RRaise)]) a30.body (fun x e t => (∀ i, x ≠ .exit i) ∧ ∃ r, aresults e t a30.results = some r ∧ (∃ vv cc, r = .agg [vv, cc] ∧ CR t vv cc (compC X)) ∧ Keep s t) env s := by
  intro env hlen ha
  have h0 : E env 0 = _ := ha 0 _ rfl
  have hlen : elen env = _ := hlen
  simp only [a30] at hlen
  unfold a30
  try dsimp only [oO, oG]
  have hbx := boxV_2 (read_oneD hv).2 (read_oneD hw).2
  have hK1 : Keep s ((s.push (.row [v, w] true)).push (.row [.nils, .nils] true)) := ((Keep.refl s).push _).push _
  simp (config := {contextual := true, maxDischargeDepth := 12}) only [tb_at, h0, hlen, hbx, ↓bD, bU, forall_const, List.all_cons, List.all_nil, Option.map_some, List.map_cons, List.map_nil, ne_eq, implies_true, isNx, eq_self, ↓wp_cond, ↓wp_loop, ↓reduceIte, reduceCtorEq, Nat.reduceEqDiff, Nat.reduceLT, Nat.reduceAdd, Nat.reduceMul, Int.ofNat_lt, Int.ofNat_le, exists_const, Option.map_none, beq_self_eq_true, decide_true, ↓sg_bsl, ↓st_callf, bX, ap_mkfn, ae_callvV, callvV_fn, List.cons_append, List.nil_append, boxV_i, boxV_dot, sto_dot, ap_conv, convV_int, bslV_0, fstep_d0, fstep_d1, bsl_dot, ae_appz, ap_cap, capV_nils, slcV_nils0, slcV_sl0, wrap_0, ae_clr, boxV_f, fstep_f, lod_new2, ↓st_appf]
  obtain ⟨I, hI⟩ : ∃ I : Nat → Env → St → Prop, ∀ n e t, I n e t = (Keep s t ∧ ∃ vv cc Y, t.get s.next = some (.row [vv, cc] true) ∧ t.get (s.next + 1) = some (.row [.nils, .nils] true) ∧ CR t vv cc Y ∧ elen e = 48 ∧ E e 1 = .ptr s.next 0 ∧ E e 2 = .ptr (s.next + 1) 0 ∧ (n = 1 ∧ Y = X ∨ n = 0 ∧ Y = compC X)) := ⟨fun n e t => (Keep s t ∧ ∃ vv cc Y, t.get s.next = some (.row [vv, cc] true) ∧ t.get (s.next + 1) = some (.row [.nils, .nils] true) ∧ CR t vv cc Y ∧ elen e = 48 ∧ E e 1 = .ptr s.next 0 ∧ E e 2 = .ptr (s.next + 1) 0 ∧ (n = 1 ∧ Y = X ∨ n = 0 ∧ Y = compC X)), fun _ _ _ => rfl⟩
  refine lwp_inv I (n := 1) ?_ ?_
  · rw [hI]
    exact ⟨hK1, v, w, X, get_push_some _ (St.get_push_new s _), St.get_push_new (s.push _) _, ⟨hK1.read hv, hK1.read hw⟩, (by simp only [bE, Nat.reduceEqDiff, ne_eq, not_false_eq_true, Nat.reduceLT, hlen]; try rfl), (by simp only [bE, Nat.reduceEqDiff, ne_eq, not_false_eq_true, Nat.reduceLT, hlen]; try rfl), (by simp only [bE, Nat.reduceEqDiff, ne_eq, not_false_eq_true, Nat.reduceLT, hlen]; try rfl), .inl ⟨rfl, rfl⟩⟩
  clear h0 hlen hbx
  intro n e t0 hi
  rw [hI] at hi
  obtain ⟨hK0, v0, c0, Y, hb1, hb2, hR, he, e1, e2, hcase⟩ := hi
  have hYv : cvalid Y = true := by
    rcases hcase with ⟨_, rfl⟩ | ⟨_, rfl⟩
    · exact hcv
    · exact comp_valid hcv
  have hcl := comp_len X
  have hYl : Y.v.length ≤ 400000 ∧ Y.c.length ≤ 200000 := by
    rcases hcase with ⟨_, rfl⟩ | ⟨_, rfl⟩ <;> omega
  have hl1 := lod_row2 hb1
  obtain ⟨f1, f2, flt⟩ := row2_lod hb1
  have qi := q_RIsC false hR.1 hR.2 (by unfold lim; omega) (by unfold lim; omega)
  cases hc : isC Y
  · have hn1 : n = 1 ∧ Y = X := by
      rcases hcase with h | ⟨_, rfl⟩
      · exact h
      · rw [comp_isC hcv] at hc; cases hc
    obtain ⟨rfl, rfl⟩ := hn1
    rw [hc] at qi
    have hL := lenV_read hR.2
    simp (config := {contextual := true, maxDischargeDepth := 12}) only [tb_at, he, e1, e2, hl1, f1, f2, flt, qi, notV_bool, Bool.not_false, ↓bD, bU, forall_const, List.all_cons, List.all_nil, Option.map_some, List.map_cons, List.map_nil, ne_eq, implies_true, isNx, eq_self, ↓wp_cond, ↓wp_loop, ↓reduceIte, reduceCtorEq, Nat.reduceEqDiff, Nat.reduceLT, Nat.reduceAdd, Nat.reduceMul, Int.ofNat_lt, Int.ofNat_le, exists_const, Option.map_none, beq_self_eq_true, decide_true, ↓sg_bsl, ↓st_callf, bX, ap_mkfn, ae_callvV, callvV_fn, List.cons_append, List.nil_append, boxV_i, boxV_dot, sto_dot, ap_conv, convV_int, bslV_0, fstep_d0, fstep_d1, bsl_dot, ae_appz, ap_cap, capV_nils, slcV_nils0, slcV_sl0, wrap_0, ae_clr, boxV_f, fstep_f, lod_new2, ↓st_appf]
    obtain ⟨I2, hI2⟩ : ∃ I : Nat → Env → St → Prop, ∀ n e t, I n e t = (Keep t0 t ∧ ∃ i : Nat, n + i = Y.c.length ∧ elen e = 48 ∧ E e 1 = .ptr s.next 0 ∧ E e 2 = .ptr (s.next + 1) 0 ∧ E e 5 = .int .i64 (i : Int) ∧ Own dotC t0 t (E e 3) ((Y.c.take i).foldl kstep (Y.v, [])).2 ∧ read dotC t (E e 4) = some ((Y.c.take i).foldl kstep (Y.v, [])).1 ∧ ∀ id ∈ vids (E e 4), id ∉ vids (E e 3)) := ⟨fun n e t => (Keep t0 t ∧ ∃ i : Nat, n + i = Y.c.length ∧ elen e = 48 ∧ E e 1 = .ptr s.next 0 ∧ E e 2 = .ptr (s.next + 1) 0 ∧ E e 5 = .int .i64 (i : Int) ∧ Own dotC t0 t (E e 3) ((Y.c.take i).foldl kstep (Y.v, [])).2 ∧ read dotC t (E e 4) = some ((Y.c.take i).foldl kstep (Y.v, [])).1 ∧ ∀ id ∈ vids (E e 4), id ∉ vids (E e 3)), fun _ _ _ => rfl⟩
    refine lwp_inv I2 (n := Y.c.length) ?_ ?_
    · rw [hI2]
      exact ⟨.refl _, 0, by omega, (by simp only [bE, Nat.reduceEqDiff, ne_eq, not_false_eq_true, Nat.reduceLT, he]; try rfl), (by simp only [bE, Nat.reduceEqDiff, ne_eq, not_false_eq_true, Nat.reduceLT, he, e1]; try rfl), (by simp only [bE, Nat.reduceEqDiff, ne_eq, not_false_eq_true, Nat.reduceLT, he, e2]; try rfl), (by simp only [bE, Nat.reduceEqDiff, ne_eq, not_false_eq_true, Nat.reduceLT, he]; try rfl), by simp only [bE, Nat.reduceEqDiff, ne_eq, not_false_eq_true, Nat.reduceLT, he]; exact .nil _ _ _, by simp only [bE, Nat.reduceEqDiff, ne_eq, not_false_eq_true, Nat.reduceLT, he]; exact hR.1, by simp only [bE, Nat.reduceEqDiff, ne_eq, not_false_eq_true, Nat.reduceLT, he]; simp [vids]⟩
    intro n e t hi
    rw [hI2] at hi
    obtain ⟨hK, i, hni, he, e1, e2, e5, hO, hV, hdis⟩ := hi
    have hb1' := hK.blk hb1
    obtain ⟨g1, g2, glt⟩ := row2_lod hb1'
    have hvi := kfold_valid hcv i (by omega)
    have hkl := kfold_len (Y.c.take i) (Y.v, [])
    rw [List.length_take] at hkl
    simp only [List.length_nil, Nat.zero_add] at hkl
    generalize hP : (Y.c.take i).foldl kstep (Y.v, []) = P at hO hV hvi hkl
    have hRc := hK.read hR.2
    by_cases hlt : i < Y.c.length
    · obtain ⟨d, hx⟩ := getsome hlt
      have hd := ((cvalid_iff Y).1 hcv).2.2 d (mem_at hx)
      have hw2 := wrap_add1 (n := i) (by omega)
      obtain ⟨a1, a2, a3, a4⟩ := dot_lods hR.2 hK hx
      have i1 := dot_idx hR.2 hx .i64
      have hKA : Keep t (t.lowed.push (.row (Dot.av d) true)) := (Keep.refl t).lowed.push _
      have hOA : Own dotC t0 (t.lowed.push (.row (Dot.av d) true)) (E e 3) P.2 := Own.push hO.lowed _
      have hVA := hKA.read hV
      have q1 := q_RVHas false hVA (by unfold lim; omega) d
      have q2 := q_RVGet true hVA (by unfold lim; omega) d.r
      have hwr := wrap_vget hvi d.r
      have hfs : (Y.c.take (i + 1)).foldl kstep (Y.v, []) = kstep P d := by rw [take_snoc hx, List.foldl_append, hP]; rfl
      have hvh : vhas P.1 d = decide (d.c ≤ vget P.1 d.r) := by unfold vhas; rw [hd]; rfl
      by_cases hle : d.c ≤ vget P.1 d.r
      · rw [hvh, decide_eq_true hle] at q1
        rw [kstep_le hle] at hfs
        simp (config := {contextual := true, maxDischargeDepth := 12}) only [tb_at, he, e1, e2, e5, hL, hlt, hw2, a1, a4, i1, g1, g2, glt, q1, ↓bD, bU, forall_const, List.all_cons, List.all_nil, Option.map_some, List.map_cons, List.map_nil, ne_eq, implies_true, isNx, eq_self, ↓wp_cond, ↓wp_loop, ↓reduceIte, reduceCtorEq, Nat.reduceEqDiff, Nat.reduceLT, Nat.reduceAdd, Nat.reduceMul, Int.ofNat_lt, Int.ofNat_le, exists_const, Option.map_none, beq_self_eq_true, decide_true, ↓sg_bsl, ↓st_callf, bX, ap_mkfn, ae_callvV, callvV_fn, List.cons_append, List.nil_append, boxV_i, boxV_dot, sto_dot, ap_conv, convV_int, bslV_0, fstep_d0, fstep_d1, bsl_dot, ae_appz, ap_cap, capV_nils, slcV_nils0, slcV_sl0, wrap_0, ae_clr, boxV_f, fstep_f, lod_new2, ↓st_appf]
        refine ⟨n - 1, by omega, ?_⟩
        rw [hI2]
        exact ⟨hK.trans hKA, i + 1, by omega, (by simp only [bE, Nat.reduceEqDiff, ne_eq, not_false_eq_true, Nat.reduceLT, he, e1, e2, e5]; try rfl), (by simp only [bE, Nat.reduceEqDiff, ne_eq, not_false_eq_true, Nat.reduceLT, he, e1, e2, e5]; try rfl), (by simp only [bE, Nat.reduceEqDiff, ne_eq, not_false_eq_true, Nat.reduceLT, he, e1, e2, e5]; try rfl), (by simp only [bE, Nat.reduceEqDiff, ne_eq, not_false_eq_true, Nat.reduceLT, he, e1, e2, e5]; try rfl), by simp only [bE, Nat.reduceEqDiff, ne_eq, not_false_eq_true, Nat.reduceLT, he]; rw [hfs]; exact hOA, by simp only [bE, Nat.reduceEqDiff, ne_eq, not_false_eq_true, Nat.reduceLT, he]; rw [hfs]; exact hVA, by simp only [bE, Nat.reduceEqDiff, ne_eq, not_false_eq_true, Nat.reduceLT, he]; exact hdis⟩
      · rw [hvh, decide_eq_false hle] at q1
        by_cases hc2 : d.c = vget P.1 d.r + 1
        · have z2 := eq_true hc2
          obtain ⟨w2, t2, q3, ⟨hV2, hvn⟩, hK2⟩ := q_RRaise hVA (by omega) d
          rw [kstep_eq hc2] at hfs
          have hd2 : ∀ id ∈ vids w2, id ∉ vids (E e 3) := by
            rcases hvn with rfl | hvn
            · exact hdis
            · intro id hid q
              have h1 := hvn id hid
              have h2 := own_vidl hO id q
              simp at h1
              have : t.lowed.next = t.next := rfl
              omega
          simp (config := {contextual := true, maxDischargeDepth := 12}) only [tb_at, he, e1, e2, e5, hL, hlt, hw2, a1, a4, i1, g1, g2, glt, q1, q2, q3, hwr, z2, reserve0, ↓bD, bU, forall_const, List.all_cons, List.all_nil, Option.map_some, List.map_cons, List.map_nil, ne_eq, implies_true, isNx, eq_self, ↓wp_cond, ↓wp_loop, ↓reduceIte, reduceCtorEq, Nat.reduceEqDiff, Nat.reduceLT, Nat.reduceAdd, Nat.reduceMul, Int.ofNat_lt, Int.ofNat_le, exists_const, Option.map_none, beq_self_eq_true, decide_true, ↓sg_bsl, ↓st_callf, bX, ap_mkfn, ae_callvV, callvV_fn, List.cons_append, List.nil_append, boxV_i, boxV_dot, sto_dot, ap_conv, convV_int, bslV_0, fstep_d0, fstep_d1, bsl_dot, ae_appz, ap_cap, capV_nils, slcV_nils0, slcV_sl0, wrap_0, ae_clr, boxV_f, fstep_f, lod_new2, ↓st_appf]
          refine ⟨n - 1, by omega, ?_⟩
          rw [hI2]
          exact ⟨hK.trans (hKA.trans hK2), i + 1, by omega, (by simp only [bE, Nat.reduceEqDiff, ne_eq, not_false_eq_true, Nat.reduceLT, he, e1, e2, e5]; try rfl), (by simp only [bE, Nat.reduceEqDiff, ne_eq, not_false_eq_true, Nat.reduceLT, he, e1, e2, e5]; try rfl), (by simp only [bE, Nat.reduceEqDiff, ne_eq, not_false_eq_true, Nat.reduceLT, he, e1, e2, e5]; try rfl), (by simp only [bE, Nat.reduceEqDiff, ne_eq, not_false_eq_true, Nat.reduceLT, he, e1, e2, e5]; try rfl), by simp only [bE, Nat.reduceEqDiff, ne_eq, not_false_eq_true, Nat.reduceLT, he]; rw [hfs]; exact hOA.mono fun _ _ k => hK2.blk k, by simp only [bE, Nat.reduceEqDiff, ne_eq, not_false_eq_true, Nat.reduceLT, he]; rw [hfs]; exact hV2, by simp only [bE, Nat.reduceEqDiff, ne_eq, not_false_eq_true, Nat.reduceLT, he]; exact hd2⟩
        · have z2 := eq_false hc2
          obtain ⟨t2, ap, hg2, hC2, hn2⟩ := app1D hOA d (by omega)
          have hK2 : Keep t0 t2 := (hK.trans hKA).chgn hC2 (own_vids hOA)
          have hV2 : read dotC t2 (E e 4) = some P.1 := read_chg hVA hC2 hdis
          have hn0 := hK.next
          have hnA : (t.lowed.push (.row (Dot.av d) true)).next = t.next + 1 := rfl
          have hO2 : Own dotC t0 t2 (.sl ((t.lowed.push (.row (Dot.av d) true)).next + 1) 0 (P.2.length + 1) none 2) (P.2 ++ [d]) := .inr ⟨_, by rw [List.length_append]; rfl, by simp, by omega, hg2⟩
          have hd2 : ∀ id ∈ vids (E e 4), id ∉ vids (AV.sl ((t.lowed.push (.row (Dot.av d) true)).next + 1) 0 (P.2.length + 1) none 2) := by
            intro id hid q
            have h1 := read_vidl hVA id hid
            simp only [vids, List.mem_singleton] at q
            omega
          rw [kstep_gt (by omega)] at hfs
          simp (config := {contextual := true, maxDischargeDepth := 12}) only [tb_at, he, e1, e2, e5, hL, hlt, hw2, a1, a4, i1, g1, g2, glt, q1, q2, hwr, z2, reserve0, ap, bsl_dot, ↓bD, bU, forall_const, List.all_cons, List.all_nil, Option.map_some, List.map_cons, List.map_nil, ne_eq, implies_true, isNx, eq_self, ↓wp_cond, ↓wp_loop, ↓reduceIte, reduceCtorEq, Nat.reduceEqDiff, Nat.reduceLT, Nat.reduceAdd, Nat.reduceMul, Int.ofNat_lt, Int.ofNat_le, exists_const, Option.map_none, beq_self_eq_true, decide_true, ↓sg_bsl, ↓st_callf, bX, ap_mkfn, ae_callvV, callvV_fn, List.cons_append, List.nil_append, boxV_i, boxV_dot, sto_dot, ap_conv, convV_int, bslV_0, fstep_d0, fstep_d1, bsl_dot, ae_appz, ap_cap, capV_nils, slcV_nils0, slcV_sl0, wrap_0, ae_clr, boxV_f, fstep_f, lod_new2, ↓st_appf]
          refine ⟨n - 1, by omega, ?_⟩
          rw [hI2]
          exact ⟨hK2, i + 1, by omega, (by simp only [bE, Nat.reduceEqDiff, ne_eq, not_false_eq_true, Nat.reduceLT, he]; try rfl), (by simp only [bE, Nat.reduceEqDiff, ne_eq, not_false_eq_true, Nat.reduceLT, he, e1]; try rfl), (by simp only [bE, Nat.reduceEqDiff, ne_eq, not_false_eq_true, Nat.reduceLT, he, e2]; try rfl), (by simp only [bE, Nat.reduceEqDiff, ne_eq, not_false_eq_true, Nat.reduceLT, he]; try rfl), by simp only [bE, Nat.reduceEqDiff, ne_eq, not_false_eq_true, Nat.reduceLT, he]; rw [hfs]; exact hO2, by simp only [bE, Nat.reduceEqDiff, ne_eq, not_false_eq_true, Nat.reduceLT, he]; rw [hfs]; exact hV2, by simp only [bE, Nat.reduceEqDiff, ne_eq, not_false_eq_true, Nat.reduceLT, he]; exact hd2⟩
    · obtain rfl : i = Y.c.length := by omega
      rw [List.take_length] at hP
      have hRo := read_oneD hV
      have hRo2 := read_oneD hO.read
      have hf0 := fstep_s0 hRo.1 hRo.2 .nils .nils
      have hf1 := fstep_s1 hRo2.1 hRo2.2 (E e 4) .nils
      have hstb := sto_row2 hb1' hRo.2 hRo2.2
      have hlb := St.get_lt hb1'
      have hk1 : P.1 = (compC Y).v := by unfold compC; rw [hP]
      have hk2 : P.2 = (compC Y).c := by unfold compC; rw [hP]
      simp (config := {contextual := true, maxDischargeDepth := 12}) only [tb_at, hlt, he, e1, e2, e5, hL, g1, g2, glt, ap_build, fillP_nil, fillP_cons, hf0, hf1, hstb, ↓bD, bU, forall_const, List.all_cons, List.all_nil, Option.map_some, List.map_cons, List.map_nil, ne_eq, implies_true, isNx, eq_self, ↓wp_cond, ↓wp_loop, ↓reduceIte, reduceCtorEq, Nat.reduceEqDiff, Nat.reduceLT, Nat.reduceAdd, Nat.reduceMul, Int.ofNat_lt, Int.ofNat_le, exists_const, Option.map_none, beq_self_eq_true, decide_true, ↓sg_bsl, ↓st_callf, bX, ap_mkfn, ae_callvV, callvV_fn, List.cons_append, List.nil_append, boxV_i, boxV_dot, sto_dot, ap_conv, convV_int, bslV_0, fstep_d0, fstep_d1, bsl_dot, ae_appz, ap_cap, capV_nils, slcV_nils0, slcV_sl0, wrap_0, ae_clr, boxV_f, fstep_f, lod_new2, ↓st_appf]
      refine ⟨0, by omega, ?_⟩
      rw [hI]
      refine ⟨(hK0.trans hK).put _ (Nat.le_refl _) hlb, E e 4, E e 3, compC Y, St.get_put_same hb1', ?_, cr_put hb1' ?_ ⟨by rw [← hk1]; exact hV, by rw [← hk2]; exact hO.read⟩, (by simp only [bE, Nat.reduceEqDiff, ne_eq, not_false_eq_true, Nat.reduceLT, he]; try rfl), (by simp only [bE, Nat.reduceEqDiff, ne_eq, not_false_eq_true, Nat.reduceLT, he, e1]; try rfl), (by simp only [bE, Nat.reduceEqDiff, ne_eq, not_false_eq_true, Nat.reduceLT, he, e2]; try rfl), .inr ⟨rfl, rfl⟩⟩
      · rw [St.get_put_ne _ _ hlb (by omega)]
        exact hK.blk hb2
      · intro k m h
        have := read_oneD hR.1
        have hh := hR.1
        rw [h] at hh
        simp [read] at hh
  · rw [hc] at qi
    have hYX : Y = compC X := by
      rcases hcase with ⟨_, rfl⟩ | ⟨_, h⟩
      · exact (comp_id hc).symm
      · exact h
    have hst := sto_row2 hb2 (read_oneD hR.1).2 (read_oneD hR.2).2
    have hlr := St.get_lt hb2
    have hlo : lod (t0.put (s.next + 1) (.row [v0, c0] true)) 2 (.ptr (s.next + 1) 0) = some (.agg [v0, c0]) := lod_row2 (St.get_put_same hb2)
    simp (config := {contextual := true, maxDischargeDepth := 12}) only [tb_at, he, e1, e2, hl1, f1, f2, flt, qi, notV_bool, Bool.not_true, hst, hlo, rc1, ↓bD, bU, forall_const, List.all_cons, List.all_nil, Option.map_some, List.map_cons, List.map_nil, ne_eq, implies_true, isNx, eq_self, ↓wp_cond, ↓wp_loop, ↓reduceIte, reduceCtorEq, Nat.reduceEqDiff, Nat.reduceLT, Nat.reduceAdd, Nat.reduceMul, Int.ofNat_lt, Int.ofNat_le, exists_const, Option.map_none, beq_self_eq_true, decide_true, ↓sg_bsl, ↓st_callf, bX, ap_mkfn, ae_callvV, callvV_fn, List.cons_append, List.nil_append, boxV_i, boxV_dot, sto_dot, ap_conv, convV_int, bslV_0, fstep_d0, fstep_d1, bsl_dot, ae_appz, ap_cap, capV_nils, slcV_nils0, slcV_sl0, wrap_0, ae_clr, boxV_f, fstep_f, lod_new2, ↓st_appf]
    exact ⟨_, rfl, ⟨v0, c0, rfl, by rw [← hYX]; exact cr_put hb2 (by intro k n h; cases h) hR⟩, hK0.put _ (by omega) hlr⟩

end Go.AM
end
/-
  The reference: Add, Missing, Size. Own work of this project; in part printed by a program of it.
-/
section
set_option linter.unusedVariables false
set_option linter.unusedSimpArgs false
set_option maxRecDepth 100000
set_option maxHeartbeats 8000000
namespace Go.AM
open Go Go.Proofs

variable {s t u : St}
theorem q_RComp {s : St} {v w : AV} {X : DCx} (hv : read dotC s v = some X.v) (hw : read dotC s w = some X.c) (hlv : X.v.length ≤ 200000) (hlw : X.c.length ≤ 200000) (hcv : cvalid X = true) : ∃ vv cc t, acall R_RComp false [.agg [v, w]] s = some (.agg [vv, cc], t) ∧ CR t vv cc (compC X) ∧ Keep s t := runC n_RComp (by simp [a30]) (w_RComp (s := lowd s) (read_low' hv) (read_low' hw) hlv hlw hcv)
theorem q_RUnionF {s : St} {va vb : AV} {a b : List Dot} (hra : read dotC s va = some a) (hrb : read dotC s vb = some b) (hla : a.length ≤ 400000) (hlb : b.length ≤ 400000) : ∃ w t, acallF R_RUnion [va, vb] s = some (w, t) ∧ Own dotC s t w (setL (a ++ b)) ∧ Keep s t := by
  obtain ⟨w, t, h1, h2, h3⟩ := q_RUnion (s := lowd s) (read_low' hra) (read_low' hrb) hla hlb
  obtain ⟨t', g1, g2, g3, g4⟩ := acallF_keep h1 h3
  exact ⟨w, t', g1, h2.mono fun id b hb => by rw [g2]; exact hb, g4⟩
end Go.AM
end
/-
  What a closed run by the kernel shows. Own work of this project.
-/
section
set_option linter.unusedVariables false
set_option linter.unusedSimpArgs false
namespace Go.AM
open Go

def isTrue : Option (AV × St) → Bool
  | some (.bool true, _) => true
  | _ => false
theorem isTrue_ex {o : Option (AV × St)} (h : isTrue o = true) : ∃ s, o = some (.bool true, s) := by
  unfold isTrue at h
  split at h
  · exact ⟨_, rfl⟩
  · cases h
end Go.AM
end
/-
  The chapter's examples: 'known' answers true. Own work of this project; in part printed by a program of it.
-/
section
set_option linter.unusedVariables false
set_option linter.unusedSimpArgs false
set_option maxRecDepth 100000
set_option maxHeartbeats 4000000
namespace Go.AM
open Go Go.Proofs

def tabK : Nat → AFun
  | 5 => .code a5
  | 13 => .code a13
  | 18 => .code a18
  | 14 => .code a14
  | 28 => .code a28
  | 22 => .code a22
  | 23 => .code a23
  | 7 => .code a7
  | 8 => .code a8
  | 16 => .code a16
  | 15 => .code a15
  | 36 => .code a36
  | 54 => .code a54
  | 19 => .code a19
  | 35 => .code a35
  | 17 => .code a17
  | 21 => .code a21
  | 47 => .code a47
  | 49 => .code a49
  | 29 => .code a29
  | 27 => .code a27
  | 48 => .code a48
  | 41 => .code a41
  | 69 => .code a69
  | 39 => .code a39
  | 37 => .code a37
  | 64 => .code a64
  | 62 => .code a62
  | 42 => .code a42
  | 52 => .code a52
  | 67 => .code a67
  | 43 => .code a43
  | 44 => .code a44
  | 40 => .code a40
  | 46 => .code a46
  | 53 => .code a53
  | 76 => .code a76
  | 68 => .code a68
  | 77 => .code a77
  | 20 => .code a20
  | 12 => .code a12
  | 80 => .code a80
  | 79 => .code a79
  | 71 => .code a71
  | 61 => .code a61
  | 38 => .code a38
  | 66 => .code a66
  | 65 => .code a65
  | 63 => .code a63
  | 78 => .code a78
  | 75 => .code a75
  | 89 => .code a89
  | 88 => .code a88
  | 45 => .code a45
  | 70 => .code a70
  | 83 => .code a83
  | 73 => .code a73
  | 72 => .code a72
  | 81 => .code a81
  | 82 => .code a82
  | 90 => .code a90
  | 74 => .con (conF dotC (pL dotC gMade))
  | 84 => .con (cPdq 68 (fun _ => true) sortD)
  | 85 => .con (cBits)
  | _ => .no
theorem tabK_ok : ∀ f, FunOk Tryz.prog f (tabK f) := by
  intro f
  unfold tabK
  split
  · exact ⟨k5, _, Tryz.func5, c5⟩
  · exact ⟨k13, _, Tryz.func13, c13⟩
  · exact ⟨k18, _, Tryz.func18, c18⟩
  · exact ⟨k14, _, Tryz.func14, c14⟩
  · exact ⟨k28, _, Tryz.func28, c28⟩
  · exact ⟨k22, _, Tryz.func22, c22⟩
  · exact ⟨k23, _, Tryz.func23, c23⟩
  · exact ⟨k7, _, Tryz.func7, c7⟩
  · exact ⟨k8, _, Tryz.func8, c8⟩
  · exact ⟨k16, _, Tryz.func16, c16⟩
  · exact ⟨k15, _, Tryz.func15, c15⟩
  · exact ⟨k36, _, Tryz.func36, c36⟩
  · exact ⟨k54, _, Tryz.func54, c54⟩
  · exact ⟨k19, _, Tryz.func19, c19⟩
  · exact ⟨k35, _, Tryz.func35, c35⟩
  · exact ⟨k17, _, Tryz.func17, c17⟩
  · exact ⟨k21, _, Tryz.func21, c21⟩
  · exact ⟨k47, _, Tryz.func47, c47⟩
  · exact ⟨k49, _, Tryz.func49, c49⟩
  · exact ⟨k29, _, Tryz.func29, c29⟩
  · exact ⟨k27, _, Tryz.func27, c27⟩
  · exact ⟨k48, _, Tryz.func48, c48⟩
  · exact ⟨k41, _, Tryz.func41, c41⟩
  · exact ⟨k69, _, Tryz.func69, c69⟩
  · exact ⟨k39, _, Tryz.func39, c39⟩
  · exact ⟨k37, _, Tryz.func37, c37⟩
  · exact ⟨k64, _, Tryz.func64, c64⟩
  · exact ⟨k62, _, Tryz.func62, c62⟩
  · exact ⟨k42, _, Tryz.func42, c42⟩
  · exact ⟨k52, _, Tryz.func52, c52⟩
  · exact ⟨k67, _, Tryz.func67, c67⟩
  · exact ⟨k43, _, Tryz.func43, c43⟩
  · exact ⟨k44, _, Tryz.func44, c44⟩
  · exact ⟨k40, _, Tryz.func40, c40⟩
  · exact ⟨k46, _, Tryz.func46, c46⟩
  · exact ⟨k53, _, Tryz.func53, c53⟩
  · exact ⟨k76, _, Tryz.func76, c76⟩
  · exact ⟨k68, _, Tryz.func68, c68⟩
  · exact ⟨k77, _, Tryz.func77, c77⟩
  · exact ⟨k20, _, Tryz.func20, c20⟩
  · exact ⟨k12, _, Tryz.func12, c12⟩
  · exact ⟨k80, _, Tryz.func80, c80⟩
  · exact ⟨k79, _, Tryz.func79, c79⟩
  · exact ⟨k71, _, Tryz.func71, c71⟩
  · exact ⟨k61, _, Tryz.func61, c61⟩
  · exact ⟨k38, _, Tryz.func38, c38⟩
  · exact ⟨k66, _, Tryz.func66, c66⟩
  · exact ⟨k65, _, Tryz.func65, c65⟩
  · exact ⟨k63, _, Tryz.func63, c63⟩
  · exact ⟨k78, _, Tryz.func78, c78⟩
  · exact ⟨k75, _, Tryz.func75, c75⟩
  · exact ⟨k89, _, Tryz.func89, c89⟩
  · exact ⟨k88, _, Tryz.func88, c88⟩
  · exact ⟨k45, _, Tryz.func45, c45⟩
  · exact ⟨k70, _, Tryz.func70, c70⟩
  · exact ⟨k83, _, Tryz.func83, c83⟩
  · exact ⟨k73, _, Tryz.func73, c73⟩
  · exact ⟨k72, _, Tryz.func72, c72⟩
  · exact ⟨k81, _, Tryz.func81, c81⟩
  · exact ⟨k82, _, Tryz.func82, c82⟩
  · exact ⟨k90, _, Tryz.func90, c90⟩
  · exact s_VMade
  · exact s_pdqSSortD
  · exact s_bits
  · trivial
theorem known_run : isTrue (acalls tabK 300 16 5 [] St.empty) = true := by kernel_rfl
theorem s_known : SoundAt Tryz.prog 5 (closed [] (.bool true)) := by
  obtain ⟨s, hs⟩ := isTrue_ex known_run
  exact closed_sound (acalls_sound mixed tabK_ok 16 _) hs rfl
end Go.AM
end
/-
  The row's last part: a call that leaves what was there alone, and answers true. Own work of this project.
-/
section
set_option linter.unusedVariables false
set_option linter.unusedSimpArgs false
namespace Go.AM
open Go Go.ChangeShapes Go.WideShapes Go.ChangeAt Go.RowKit

variable {H : Type} {enc : TypeId × Value → H} {P : Program}

theorem Clean.below {W W' : World} (h : Clean W W') : Below W.heap.size W W' := ⟨h.os, h.tape, h.output, h.size, h.block⟩
theorem Clean.frozen {W W' : World} (h : Clean W W') {a : Addr} (ha : a.block < W.heap.size) : W'.frozen? a = W.frozen? a := h.below.frozen ha

theorem trodAll_clean (hl : laidOutB P = true) {W W' : World} (hc : Clean W W') (sp : Nat → Bool) : ∀ {ts : List TypeId} {vs : List Value} {ds : List (DataW H)} {ps : List MemPlace}, (∀ t ∈ ts, P.readableRec t = true ∧ t < P.types.size) →
    DataW.TrodAll enc P W 0 (fun _ => true) true ts vs ds ps → (∀ p ∈ ps, sp p.block = true) → DataW.TrodAll enc P W' 0 sp true ts vs ds ps
  | [], vs, ds, ps, _, h, _ => by
    obtain ⟨rfl, rfl, rfl⟩ := trodAll_nil h
    rfl
  | t :: ts, vs, ds, ps, hr, h, hs => by
    obtain ⟨v, vs1, d, ds1, a, b, rfl, rfl, rfl, h1, h2⟩ := trodAll_cons h
    have hlt := DataW.TrodAll.lt h
    refine ⟨a, b, ?_, trodAll_clean hl hc sp (fun t ht => hr t (by simp [ht])) h2 fun p hp => hs p (by simp [hp]), rfl⟩
    exact WideElems.Trod_stays hl (hr t (by simp)).1 (hr t (by simp)).2 h1 (fun x hx => hc.below.same (hlt x (by simp [hx]))) fun x hx => hs x (by simp [hx])

theorem post_of_clean {f : Func} {s : ChangeSpec} {apart fresh handsOn again : Bool} {W W' : World} {args : Array Value} {ds gs : List (DataW H)} {before : List MemPlace} {tb : TypeId} (hl : laidOutB P = true)
    (hread : ∀ t ∈ f.params.toList, P.readableRec t = true ∧ t < P.types.size) (hW : DataW.Whole enc P f.params.toList s.vars apart W args.toList ds gs before) (hv : s.vars = [])
    (hres : (s.fn H (ds ++ gs)).results = [.lit (.bool true)]) (hargs : (s.fn H (ds ++ gs)).args = ds) (hvars : (s.fn H (ds ++ gs)).vars = []) (hrt : f.resultTypes = #[tb]) (hb : P.underlying tb = some .bool) (hc : Clean W W') :
    s.post enc P f apart fresh handsOn again W args (.bool true) W' := by
  have hlt : ∀ p ∈ before, p.block < W.heap.size := hW.lt
  have hW0 := hW
  obtain ⟨pa, pv, hA, hV, rfl, hz, hn⟩ := hW
  have hpv : pv = [] := by
    rw [hv] at hV
    cases gs with
    | nil => exact hV
    | cons g gs => exact hV.elim
  subst hpv
  simp only [List.append_nil] at hW0 hlt hz hn
  have hR : ∀ (b : Nat) (sp : Nat → Bool) (hd : Bool), DataW.TrodAll enc P W' b sp hd [tb] [.bool true] [.lit (.bool true)] [] := fun b sp hd => trodAll_mk1 (shut_bool hb true)
  have hrl : (Value.bool true).resultList f.resultTypes.size = [.bool true] := by simp [hrt, Value.resultList]
  refine ⟨ds, gs, pa, [], pa, [], hW0, ?_, ?_, ?_, ?_, fun _ => ⟨fun j t r h1 h2 => ?_, ?_⟩⟩
  · rw [hrl, hres, hrt]
    exact hR _ _ _
  · rw [hargs]
    exact trodAll_clean hl hc _ hread hA fun p hp => by simpa using hlt p hp
  · rw [hvars, hv]
    rfl
  · exact hc.below.frame _
  · rw [hrl] at h2
    rw [hrt] at h1
    cases j with
    | zero =>
      simp at h1 h2
      subst h1; subst h2
      simp [Value.okWide, hb, Cell.okWide, Cell.ok]
    | succ j => simp at h1
  · refine ⟨[.lit (.bool true)] ++ ds, [], pa, ⟨[] ++ pa, [], ?_, ?_, by simp, ?_, ?_⟩, fun p hp _ => hp⟩
    · rw [hrl, hrt]
      exact trodAll_append (trodAll_clean hl hc _ hread hA fun _ _ => rfl) (hR _ _ _)
    · rw [hv]
      rfl
    · intro b off hp
      rw [hc.frozen (hlt _ hp)]
      exact hz b off hp
    · intro ha
      simpa using hn ha

end Go.AM
end
/-
  From a row's reading of an argument to the abstract machine's memory. Own work of this project.
-/
section
set_option linter.unusedVariables false
set_option linter.unusedSimpArgs false
namespace Go.AM
open Go Go.ChangeShapes Go.WideShapes Go.ChangeAt Go.RowKit Go.Deep

/-- The kinds of plain cells. -/
inductive CK where
  | b | i (k : IntKind) | s
def CK.ok : CK → AV → Prop
  | .b, v => ∃ x, v = .bool x
  | .i k, v => ∃ n, v = .int k n ∧ (Lit.int k n).wf = true
  | .s, v => ∃ x, v = .str x
def CKs : List CK → List AV → Prop
  | [], vs => vs = []
  | k :: ks, vs => ∃ v r, vs = v :: r ∧ k.ok v ∧ CKs ks r
theorem CKs.append : ∀ {ks ks' : List CK} {vs vs' : List AV}, CKs ks vs → CKs ks' vs' → CKs (ks ++ ks') (vs ++ vs')
  | [], ks', vs, vs', h, h' => by simp only [CKs] at h; subst h; exact h'
  | k :: ks, ks', vs, vs', h, h' => by
    simp only [CKs] at h
    obtain ⟨v, r, rfl, h1, h2⟩ := h
    exact ⟨v, r ++ vs', rfl, h1, CKs.append h2 h'⟩
theorem CKs.len : ∀ {ks : List CK} {vs : List AV}, CKs ks vs → vs.length = ks.length
  | [], vs, h => by simp only [CKs] at h; subst h; rfl
  | k :: ks, vs, h => by
    simp only [CKs] at h
    obtain ⟨v, r, rfl, h1, h2⟩ := h
    simp [CKs.len h2]
theorem CK.ok_one {k : CK} {v : AV} (h : k.ok v) : v.one = true := by
  cases k <;> simp only [CK.ok] at h
  · obtain ⟨x, rfl⟩ := h; rfl
  · obtain ⟨x, rfl, _⟩ := h; rfl
  · obtain ⟨x, rfl⟩ := h; rfl
theorem CKs.one : ∀ {ks : List CK} {vs : List AV}, CKs ks vs → vs.all AV.one = true
  | [], vs, h => by simp only [CKs] at h; subst h; rfl
  | k :: ks, vs, h => by
    simp only [CKs] at h
    obtain ⟨v, r, rfl, h1, h2⟩ := h
    simp [CK.ok_one h1, CKs.one h2]

variable (P : Program)
def cks : Nat → TypeId → Option (List CK)
  | 0, _ => none
  | d + 1, t =>
    match P.underlying t with
    | some .bool => some [.b]
    | some (.int k) => some [.i k]
    | some .string => some [.s]
    | some (.struct fs) => cksF (cks d) fs.toList 0 (P.cellsOf t)
    | _ => none
where
  cksF (ok : TypeId → Option (List CK)) : List Field → Nat → Nat → Option (List CK)
    | [], at_, sz => if sz = at_ then some [] else none
    | f :: r, at_, sz =>
      if f.offset = at_ then
        match ok f.type with
        | some ks => if ks.length = P.cellsOf f.type then (cksF ok r (at_ + ks.length) sz).map (ks ++ ·) else none
        | none => none
      else none

variable {P}
variable {H : Type} {enc : TypeId × Value → H} {w : World} {base : Nat} {spare : Nat → Bool} {held : Bool}
def FlatOpen (P : Program) (enc : TypeId × Value → H) (w : World) (base : Nat) (spare : Nat → Bool) (held : Bool) (t : TypeId) (ks : List CK) : Prop :=
  ∀ (fuel : Nat) (cs : List Value) (x : DataW H × List MemPlace), DataW.trod enc P w base spare held fuel t cs = some x → ∃ vs, CKs ks vs ∧ ∀ ρ, VRs ρ vs cs
theorem flat_fields {ok : TypeId → Option (List CK)} (IH : ∀ t ks, ok t = some ks → FlatOpen P enc w base spare held t ks) {n : Nat} {cs : List Value} {sz : Nat} (hcs : cs.length = sz) : ∀ (fs : List Field) (at_ : Nat) (ks : List CK),
    cks.cksF P ok fs at_ sz = some ks → (∀ f ∈ fs, ∃ x, DataW.trod enc P w base spare held n f.type ((cs.drop f.offset).take (P.cellsOf f.type)) = some x) → ∃ vs, CKs ks vs ∧ ∀ ρ, VRs ρ vs (cs.drop at_)
  | [], at_, ks, h, _ => by
    simp only [cks.cksF] at h
    split at h
    · rename_i hsz
      injection h with h; subst h
      refine ⟨[], rfl, fun ρ => ?_⟩
      rw [List.drop_eq_nil_of_le (by omega)]
      exact VRs_nil
    · cases h
  | f :: r, at_, ks, h, hx => by
    simp only [cks.cksF] at h
    split at h
    · rename_i hoff
      split at h
      · rename_i ks1 hk
        split at h
        · rename_i hl
          obtain ⟨ks2, h2, rfl⟩ := Option.map_eq_some_iff.1 h
          obtain ⟨x, hxf⟩ := hx f (by simp)
          obtain ⟨vs1, c1, r1⟩ := IH f.type ks1 hk n _ x hxf
          obtain ⟨vs2, c2, r2⟩ := flat_fields IH hcs r (at_ + ks1.length) ks2 h2 fun g hg => hx g (by simp [hg])
          refine ⟨vs1 ++ vs2, c1.append c2, fun ρ => ?_⟩
          have := (r1 ρ).append (r2 ρ)
          rw [hoff, hl, ← List.drop_drop, List.take_append_drop] at this
          exact this
        · cases h
      · cases h
    · cases h
theorem flat_open : ∀ (d : Nat) (t : TypeId) (ks : List CK), cks P d t = some ks → FlatOpen P enc w base spare held t ks
  | 0, t, ks, h => by simp [cks] at h
  | d + 1, t, ks, h => by
    intro fuel cs x hx
    simp only [cks] at h
    split at h
    · rename_i hu
      injection h with h; subst h
      obtain ⟨b, rfl, _⟩ := DataW.trod_bool hu hx
      exact ⟨[.bool b], ⟨_, _, rfl, ⟨b, rfl⟩, rfl⟩, fun ρ => VRs_cons.2 ⟨by simp [VR], VRs_nil⟩⟩
    · rename_i k hu
      injection h with h; subst h
      obtain ⟨b, rfl, _, hw⟩ := DataW.trod_int hu hx
      exact ⟨[.int k b], ⟨_, _, rfl, ⟨b, rfl, hw⟩, rfl⟩, fun ρ => VRs_cons.2 ⟨by simp [VR], VRs_nil⟩⟩
    · rename_i hu
      injection h with h; subst h
      obtain ⟨b, rfl, _⟩ := DataW.trod_string hu hx
      exact ⟨[.str b], ⟨_, _, rfl, ⟨b, rfl⟩, rfl⟩, fun ρ => VRs_cons.2 ⟨by simp [VR], VRs_nil⟩⟩
    · rename_i fs hu
      obtain ⟨xs, n, _, _, hl, hxl, hf⟩ := DataW.trod_struct hu hx
      obtain ⟨vs, h1, h2⟩ := flat_fields (fun t ks hk => flat_open d t ks hk) hl fs.toList 0 ks h (n := n) fun f hmem => by
        obtain ⟨i, hi⟩ := List.getElem?_of_mem hmem
        have hi' : fs[i]? = some f := by simpa using hi
        have hlt : i < xs.length := by
          have := (Array.getElem?_eq_some_iff.1 hi').1
          omega
        exact ⟨xs[i], by rw [hf i f hi']; simp [hlt]⟩
      exact ⟨vs, h1, fun ρ => by simpa using h2 ρ⟩
    · cases h

theorem cell_some {a : Addr} {v : Value} (h : w.cell? a = some v) : ∃ cells el fr, w.heap[a.block]? = some (.cells cells el fr) ∧ a.spot = none := by
  unfold World.cell? at h
  split at h
  · rename_i c el fr hh
    split at h
    · cases h
    · rename_i hs
      exact ⟨c, el, fr, hh, by simpa using hs⟩
  · cases h
theorem addr_block (a : Addr) (i : Nat) : (a.add i).block = a.block := by unfold Addr.add; split <;> rfl
theorem addr_spot (a : Addr) (i : Nat) (h : (a.add i).spot = none) (h0 : i = 0 ∨ True) : i = 0 → a.spot = none := by
  intro hi
  subst hi
  unfold Addr.add at h
  simpa using h

/-- Cells, each kind in its turn, again and again. -/
def Rows (ks : List CK) (rows : List (List AV)) : Prop := ∀ r ∈ rows, CKs ks r
/-- A slice of plain elements: nil, or its elements lie in a row. -/
theorem slice_open {t e : TypeId} {ks : List CK} {d fuel : Nat} {cs : List Value} {x : DataW H × List MemPlace} (hu : P.underlying t = some (.slice e)) (hk : cks P d e = some ks) (hlen : ks.length = P.cellsOf e) (h0 : ks.length ≠ 0)
    (h : DataW.trod enc P w base (fun _ => true) held fuel t cs = some x) : cs = [.slice none 0 0] ∨
    (∃ a, cs = [.slice (some a) 0 0]) ∨
    ∃ (b off len cap : Nat) (cells : Array Value) (el : TypeId) (fr : Nat × Nat) (rows : List (List AV)), cs = [.slice (some ⟨b, off, none⟩) len cap] ∧ 0 < cap ∧ len ≤ cap ∧ cap ≤ maxLen ∧ w.heap[b]? = some (.cells cells el fr) ∧ off + cap * ks.length ≤ cells.size ∧
      rows.length = cap ∧ Rows ks rows ∧ ∀ ρ, VRs ρ rows.flatten ((cells.toList.drop off).take (cap * ks.length)) := by
  rcases open_slice hu h with ⟨rfl, _⟩ | ⟨a, len, cap, m, n, D, Pl, rfl, hb, hl, hm, hmm, _, hx⟩
  · exact .inl rfl
  right
  simp only [if_true] at hmm
  subst hmm
  by_cases hc : m = 0
  · left
    subst hc
    have : len = 0 := by omega
    subst this
    exact ⟨a, rfl⟩
  right
  have hcell : ∀ i, i < m → ∃ cs' vs, w.cells? base (a.add (i * P.cellsOf e)) (P.cellsOf e) = some cs' ∧ CKs ks vs ∧ ∀ ρ, VRs ρ vs cs' := by
    intro i hi
    obtain ⟨cs', h1, h2⟩ := hx i hi
    obtain ⟨vs, h3, h4⟩ := flat_open d e ks hk n cs' _ h2
    exact ⟨cs', vs, h1, h3, h4⟩
  -- the block
  obtain ⟨cs0, vs0, h1, _, _⟩ := hcell 0 (by omega)
  obtain ⟨_, hl0, hat0⟩ := World.cells?_some h1
  have hc0 := hat0 0 (by omega)
  obtain ⟨b, off, spot⟩ := a
  have hsome : ∃ v, cs0[0]? = some v := ⟨cs0[0]'(by omega), by simp⟩
  obtain ⟨v0, hv0⟩ := hsome
  rw [hv0] at hc0
  obtain ⟨cells, el, fr, hh, hsp⟩ := cell_some hc0
  rw [addr_block, addr_block] at hh
  simp only at hh
  have hspot : spot = none := by
    have h2 := addr_spot _ 0 hsp (.inl rfl) rfl
    have h3 := addr_spot _ (0 * P.cellsOf e) h2 (.inr trivial) (by simp)
    exact h3
  subst hspot
  have hat : ∀ i, i < m → ∃ vs, CKs ks vs ∧ off + (i + 1) * ks.length ≤ cells.size ∧ ∀ ρ, VRs ρ vs ((cells.toList.drop (off + i * ks.length)).take ks.length) := by
    intro i hi
    obtain ⟨cs', vs, e1, e2, e3⟩ := hcell i hi
    obtain ⟨_, hl', hat'⟩ := World.cells?_some e1
    have hget : ∀ j, j < P.cellsOf e → cells[off + i * P.cellsOf e + j]? = cs'[j]? := by
      intro j hj
      have := hat' j hj
      rw [addr_add, addr_add, cell_at hh] at this
      exact this
    have hsz : off + (i + 1) * ks.length ≤ cells.size := by
      have hj : P.cellsOf e - 1 < P.cellsOf e := by omega
      have := hget _ hj
      rw [List.getElem?_eq_getElem (by omega)] at this
      have hlt := (Array.getElem?_eq_some_iff.1 this).1
      rw [hlen, Nat.succ_mul]
      omega
    refine ⟨vs, e2, hsz, fun ρ => ?_⟩
    have : (cells.toList.drop (off + i * ks.length)).take ks.length = cs' := by
      apply List.ext_getElem?
      intro j
      by_cases hj : j < ks.length
      · rw [List.getElem?_take_of_lt hj, List.getElem?_drop, hlen]
        have := hget j (by omega)
        simpa using this
      · rw [List.getElem?_eq_none (by simp; omega), List.getElem?_eq_none (by omega)]
    rw [this]
    exact e3 ρ
  have hrows : ∀ k, k ≤ m → ∃ rows : List (List AV), rows.length = k ∧ Rows ks rows ∧ ∀ ρ, VRs ρ rows.flatten ((cells.toList.drop off).take (k * ks.length)) := by
    intro k
    induction k with
    | zero => exact fun _ => ⟨[], rfl, fun r hr => by simp at hr, fun ρ => by simpa using VRs_nil⟩
    | succ k ih =>
      intro hk'
      obtain ⟨rows, r1, r2, r3⟩ := ih (by omega)
      obtain ⟨vs, q1, q2, q3⟩ := hat k (by omega)
      refine ⟨rows ++ [vs], by simp [r1], fun r hr => ?_, fun ρ => ?_⟩
      · rcases List.mem_append.1 hr with hr | hr
        · exact r2 r hr
        · simp at hr; subst hr; exact q1
      · have := (r3 ρ).append (q3 ρ)
        rw [List.flatten_append, List.flatten_singleton, Nat.succ_mul]
        rw [← List.drop_drop, ← List.take_add] at this
        exact this
  obtain ⟨rows, r1, r2, r3⟩ := hrows m (Nat.le_refl _)
  obtain ⟨_, _, q2, _⟩ := hat (m - 1) (by omega)
  rw [show m - 1 + 1 = m by omega] at q2
  exact ⟨b, off, len, m, cells, el, fr, rows, rfl, by omega, hl, hm, hh, q2, r1, r2, r3⟩

end Go.AM
end
/-
  Arguments with slices in slices and in structs, opened into the abstract machine's memory. Own work of this project.
-/
section
set_option linter.unusedVariables false
set_option linter.unusedSimpArgs false
set_option maxRecDepth 100000
namespace Go.AM
open Go Go.ChangeShapes Go.WideShapes Go.ChangeAt Go.RowKit Go.Deep

/-- Some block of cells is there. -/
def HasCellsD (W : World) : Prop := ∃ (b : Nat) (cs : Array Value) (e : TypeId) (fr : Nat × Nat), W.heap[b]? = some (Obj.cells cs e fr)
theorem dummyD {W : World} (h : HasCellsD W) : ∃ L : Loc, L.b < W.heap.size ∧ ∀ ρ, BlkOk ρ L W (.row [] false) := by
  obtain ⟨b, cs, e, fr, hb⟩ := h
  refine ⟨⟨b, 0, cs.size⟩, (Array.getElem?_eq_some_iff.1 hb).1, fun ρ => ?_⟩
  simp only [BlkOk]
  exact ⟨cs, e, fr, hb, rfl, by simp, fun i v h => by simp at h, by simp, rfl⟩

section
variable (P : Program)
/-- What the memory shows at cells of a type. -/
def RdF (ok : TypeId → List AV → Prop) : List Field → List AV → Prop
  | [], vs => vs = []
  | f :: r, vs => ∃ a b, vs = a ++ b ∧ ok f.type a ∧ RdF ok r b
def RdT (s : St) : Nat → TypeId → List AV → Prop
  | 0, _, _ => False
  | d + 1, t, vs => match P.underlying t with
    | some .bool => ∃ x, vs = [.bool x]
    | some (.int k) => ∃ n, vs = [.int k n] ∧ (Lit.int k n).wf = true
    | some .string => ∃ x, vs = [.str x]
    | some (.struct fs) => RdF (RdT s d) fs.toList vs
    | some (.slice e) => vs = [.nils] ∨ ∃ (id n cap : Nat) (rows : List (List AV)), vs = [.sl id 0 n (some cap) (P.cellsOf e)] ∧ n ≤ cap ∧ cap ≤ maxLen ∧ rows.length = cap ∧ s.get id = some (.row rows.flatten false) ∧ ∀ r ∈ rows, RdT s d e r ∧ r.length = P.cellsOf e
    | _ => False
def okF (ok : TypeId → Bool) : List Field → Nat → Nat → Bool
  | [], at_, sz => decide (sz = at_)
  | f :: r, at_, sz => decide (f.offset = at_) && ok f.type && okF ok r (at_ + P.cellsOf f.type) sz
def okT : Nat → TypeId → Bool
  | 0, _ => false
  | d + 1, t => match P.underlying t with
    | some .bool | some (.int _) | some .string => true
    | some (.struct fs) => okF P (okT d) fs.toList 0 (P.cellsOf t)
    | some (.slice e) => decide (P.cellsOf e ≠ 0) && okT d e
    | _ => false
end

variable {P : Program} {H : Type} {enc : TypeId × Value → H} {W : World} {base : Nat} {held : Bool}
/-- Cells, and the blocks that they reach, numbered from 'start' on. -/
structure Opn (W : World) (Q : St → List AV → Prop) (start : Nat) (cs : List Value) (vs : List AV) (bl : List (AB × Loc)) : Prop where
  lt : ∀ p ∈ bl, p.2.b < W.heap.size
  own : ∀ p ∈ bl, p.1.owned = false
  vr : ∀ ρ : Ren, (∀ i p, bl[i]? = some p → ρ (start + i) = some p.2) → VRs ρ vs cs ∧ ∀ p ∈ bl, BlkOk ρ p.2 W p.1
  rd : ∀ s : St, (∀ i p, bl[i]? = some p → s.get (start + i) = some p.1) → Q s vs
  one : vs.all AV.one = true
  len : vs.length = cs.length
theorem Opn.plain {Q : St → List AV → Prop} {start : Nat} {cs : List Value} {vs : List AV} (h : ∀ ρ, VRs ρ vs cs) (hq : ∀ s, Q s vs) (ho : vs.all AV.one = true) (hl : vs.length = cs.length) : Opn W Q start cs vs [] :=
  ⟨by simp, by simp, fun ρ _ => ⟨h ρ, by simp⟩, fun s _ => hq s, ho, hl⟩
theorem Opn.app {Q1 Q2 : St → List AV → Prop} {start : Nat} {c1 c2 : List Value} {v1 v2 : List AV} {b1 b2 : List (AB × Loc)} (h : Opn W Q1 start c1 v1 b1) (k : Opn W Q2 (start + b1.length) c2 v2 b2) :
    Opn W (fun s _ => Q1 s v1 ∧ Q2 s v2) start (c1 ++ c2) (v1 ++ v2) (b1 ++ b2) := by
  have e1 : ∀ {i : Nat} {p}, b1[i]? = some p → (b1 ++ b2)[i]? = some p := fun {i p} hp => by
    rw [List.getElem?_append_left (List.getElem?_eq_some_iff.1 hp).1]; exact hp
  have e2 : ∀ {i : Nat} {p}, b2[i]? = some p → (b1 ++ b2)[b1.length + i]? = some p := fun {i p} hp => by
    rw [List.getElem?_append_right (by omega), Nat.add_sub_cancel_left]; exact hp
  refine ⟨fun p hp => ?_, fun p hp => ?_, fun ρ hρ => ?_, fun s hs => ⟨h.rd s fun i p hp => hs i p (e1 hp), k.rd s fun i p hp => ?_⟩, by simp [h.one, k.one], by simp [h.len, k.len]⟩
  · rcases List.mem_append.1 hp with q | q
    · exact h.lt p q
    · exact k.lt p q
  · rcases List.mem_append.1 hp with q | q
    · exact h.own p q
    · exact k.own p q
  · obtain ⟨r1, r2⟩ := h.vr ρ fun i p hp => hρ i p (e1 hp)
    obtain ⟨r3, r4⟩ := k.vr ρ fun i p hp => by have := hρ _ p (e2 hp); rwa [← Nat.add_assoc] at this
    refine ⟨r1.append r3, fun p hp => ?_⟩
    rcases List.mem_append.1 hp with q | q
    · exact r2 p q
    · exact r4 p q
  · have := hs _ p (e2 hp)
    rwa [← Nat.add_assoc] at this
theorem Opn.imp {Q Q' : St → List AV → Prop} {start : Nat} {cs : List Value} {vs : List AV} {bl : List (AB × Loc)} (h : Opn W Q start cs vs bl) (k : ∀ s, Q s vs → Q' s vs) : Opn W Q' start cs vs bl :=
  ⟨h.lt, h.own, h.vr, fun s hs => k s (h.rd s hs), h.one, h.len⟩

/-- A slice's place, its elements as they are read one by one. -/
theorem slice_geo {t e : TypeId} {fuel : Nat} {cs : List Value} {x : DataW H × List MemPlace} (hu : P.underlying t = some (.slice e)) (h0 : P.cellsOf e ≠ 0)
    (h : DataW.trod enc P W base (fun _ => true) held fuel t cs = some x) : cs = [.slice none 0 0] ∨ (∃ a, cs = [.slice (some a) 0 0]) ∨
    ∃ (b off len cap : Nat) (cells : Array Value) (el : TypeId) (fr : Nat × Nat) (n : Nat), cs = [.slice (some ⟨b, off, none⟩) len cap] ∧ 0 < cap ∧ len ≤ cap ∧ cap ≤ maxLen ∧ W.heap[b]? = some (.cells cells el fr) ∧ off + cap * P.cellsOf e ≤ cells.size ∧
      ∀ i, i < cap → ∃ x, DataW.trod enc P W base (fun _ => true) held n e ((cells.toList.drop (off + i * P.cellsOf e)).take (P.cellsOf e)) = some x := by
  rcases open_slice hu h with ⟨rfl, _⟩ | ⟨a, len, cap, m, n, D, Pl, rfl, hb, hl, hm, hmm, _, hx⟩
  · exact .inl rfl
  right
  simp only [if_true] at hmm
  subst hmm
  by_cases hc : m = 0
  · left
    subst hc
    have : len = 0 := by omega
    subst this
    exact ⟨a, rfl⟩
  right
  obtain ⟨cs0, h1, _⟩ := hx 0 (by omega)
  obtain ⟨_, hl0, hat0⟩ := World.cells?_some h1
  have hc0 := hat0 0 (by omega)
  obtain ⟨b, off, spot⟩ := a
  have hsome : ∃ v, cs0[0]? = some v := ⟨cs0[0]'(by omega), by simp⟩
  obtain ⟨v0, hv0⟩ := hsome
  rw [hv0] at hc0
  obtain ⟨cells, el, fr, hh, hsp⟩ := cell_some hc0
  rw [addr_block, addr_block] at hh
  simp only at hh
  have hspot : spot = none := by
    have h2 := addr_spot _ 0 hsp (.inl rfl) rfl
    have h3 := addr_spot _ (0 * P.cellsOf e) h2 (.inr trivial) (by simp)
    exact h3
  subst hspot
  have hat : ∀ i, i < m → off + (i + 1) * P.cellsOf e ≤ cells.size ∧ ∃ x, DataW.trod enc P W base (fun _ => true) held n e ((cells.toList.drop (off + i * P.cellsOf e)).take (P.cellsOf e)) = some x := by
    intro i hi
    obtain ⟨cs', e1, e2⟩ := hx i hi
    obtain ⟨_, hl', hat'⟩ := World.cells?_some e1
    have hget : ∀ j, j < P.cellsOf e → cells[off + i * P.cellsOf e + j]? = cs'[j]? := by
      intro j hj
      have := hat' j hj
      rw [addr_add, addr_add, cell_at hh] at this
      exact this
    have hsz : off + (i + 1) * P.cellsOf e ≤ cells.size := by
      have hj : P.cellsOf e - 1 < P.cellsOf e := by omega
      have := hget _ hj
      rw [List.getElem?_eq_getElem (by omega)] at this
      have hlt := (Array.getElem?_eq_some_iff.1 this).1
      rw [Nat.succ_mul]
      omega
    refine ⟨hsz, (D i, Pl i), ?_⟩
    have : (cells.toList.drop (off + i * P.cellsOf e)).take (P.cellsOf e) = cs' := by
      apply List.ext_getElem?
      intro j
      by_cases hj : j < P.cellsOf e
      · rw [List.getElem?_take_of_lt hj, List.getElem?_drop]
        have := hget j (by omega)
        simpa using this
      · rw [List.getElem?_eq_none (by simp; omega), List.getElem?_eq_none (by omega)]
    rw [this]
    exact e2
  obtain ⟨q2, _⟩ := hat (m - 1) (by omega)
  rw [show m - 1 + 1 = m by omega] at q2
  exact ⟨b, off, len, m, cells, el, fr, n, rfl, by omega, hl, hm, hh, q2, fun i hi => (hat i hi).2⟩

def DeepOk (P : Program) (enc : TypeId × Value → H) (W : World) (base : Nat) (held : Bool) (d : Nat) (t : TypeId) : Prop :=
  ∀ (fuel : Nat) (cs : List Value) (x : DataW H × List MemPlace), DataW.trod enc P W base (fun _ => true) held fuel t cs = some x → ∀ start, ∃ vs bl, Opn W (fun s vs => RdT P s d t vs) start cs vs bl

theorem deep_fields {d : Nat} (IH : ∀ t, okT P d t = true → DeepOk P enc W base held d t) {n : Nat} {cs : List Value} {sz : Nat} (hcs : cs.length = sz) : ∀ (fs : List Field) (at_ : Nat), okF P (okT P d) fs at_ sz = true →
    (∀ f ∈ fs, ∃ x, DataW.trod enc P W base (fun _ => true) held n f.type ((cs.drop f.offset).take (P.cellsOf f.type)) = some x) → ∀ start, ∃ vs bl, Opn W (fun s vs => RdF (RdT P s d) fs vs) start (cs.drop at_) vs bl
  | [], at_, h, _, start => by
    simp only [okF, decide_eq_true_eq] at h
    rw [List.drop_eq_nil_of_le (by omega)]
    exact ⟨[], [], .plain (fun _ => VRs_nil) (fun _ => rfl) rfl rfl⟩
  | f :: r, at_, h, hx, start => by
    simp only [okF, Bool.and_eq_true, decide_eq_true_eq] at h
    obtain ⟨⟨hoff, hok⟩, hr⟩ := h
    obtain ⟨x, hxf⟩ := hx f (by simp)
    obtain ⟨v1, b1, o1⟩ := IH f.type hok n _ x hxf start
    obtain ⟨v2, b2, o2⟩ := deep_fields IH hcs r (at_ + P.cellsOf f.type) hr (fun g hg => hx g (by simp [hg])) (start + b1.length)
    refine ⟨v1 ++ v2, b1 ++ b2, ?_⟩
    have := o1.app o2
    rw [hoff, ← List.drop_drop, List.take_append_drop] at this
    exact this.imp fun s q => ⟨v1, v2, rfl, q⟩
theorem deep_rows {d : Nat} {e : TypeId} {n : Nat} (IH : DeepOk P enc W base held d e) (cells : List Value) (off : Nat) : ∀ (k : Nat), off + k * P.cellsOf e ≤ cells.length →
    (∀ i, i < k → ∃ x, DataW.trod enc P W base (fun _ => true) held n e ((cells.drop (off + i * P.cellsOf e)).take (P.cellsOf e)) = some x) → ∀ start, ∃ (rows : List (List AV)) (bl : List (AB × Loc)), rows.length = k ∧
      Opn W (fun s _ => ∀ r ∈ rows, RdT P s d e r ∧ r.length = P.cellsOf e) start ((cells.drop off).take (k * P.cellsOf e)) rows.flatten bl
  | 0, _, _, start => ⟨[], [], rfl, .plain (fun _ => by simpa using VRs_nil) (fun _ r hr => by simp at hr) rfl (by simp)⟩
  | k + 1, hle, hx, start => by
    obtain ⟨rows, b1, h1, o1⟩ := deep_rows IH cells off k (by rw [Nat.succ_mul] at hle; omega) (fun i hi => hx i (by omega)) start
    obtain ⟨x, hxk⟩ := hx k (by omega)
    obtain ⟨v2, b2, o2⟩ := IH n _ x hxk (start + b1.length)
    refine ⟨rows ++ [v2], b1 ++ b2, by simp [h1], ?_⟩
    have hl2 : v2.length = P.cellsOf e := by
      rw [o2.len, List.length_take, List.length_drop]
      rw [Nat.succ_mul] at hle
      omega
    have := o1.app o2
    rw [List.flatten_append, List.flatten_singleton, Nat.succ_mul, List.take_add, List.drop_drop]
    refine this.imp fun s hq r hr => ?_
    rcases List.mem_append.1 hr with q | q
    · exact hq.1 r q
    · simp at q
      subst q
      exact ⟨hq.2, hl2⟩
theorem VRs.cell {ρ : Ren} {vs : List AV} {cs : List Value} (h : VRs ρ vs cs) {i : Nat} {v : AV} (hi : vs[i]? = some v) : ∃ c, cs[i]? = some c ∧ VR ρ v c := VRs.at_ i h hi
theorem deep_open (hc : HasCellsD W) : ∀ (d : Nat) (t : TypeId), okT P d t = true → DeepOk P enc W base held d t
  | 0, t, h => by simp [okT] at h
  | d + 1, t, h => by
    intro fuel cs x hx start
    simp only [okT] at h
    split at h
    · rename_i hu
      obtain ⟨b, rfl, _⟩ := DataW.trod_bool hu hx
      exact ⟨[.bool b], [], .plain (fun ρ => VRs_cons.2 ⟨by simp [VR], VRs_nil⟩) (fun s => by simp only [RdT, hu]; exact ⟨b, rfl⟩) rfl rfl⟩
    · rename_i k hu
      obtain ⟨b, rfl, _, hw⟩ := DataW.trod_int hu hx
      exact ⟨[.int k b], [], .plain (fun ρ => VRs_cons.2 ⟨by simp [VR], VRs_nil⟩) (fun s => by simp only [RdT, hu]; exact ⟨b, rfl, hw⟩) rfl rfl⟩
    · rename_i hu
      obtain ⟨b, rfl, _⟩ := DataW.trod_string hu hx
      exact ⟨[.str b], [], .plain (fun ρ => VRs_cons.2 ⟨by simp [VR], VRs_nil⟩) (fun s => by simp only [RdT, hu]; exact ⟨b, rfl⟩) rfl rfl⟩
    · rename_i fs hu
      obtain ⟨xs, n, _, _, hl, hxl, hf⟩ := DataW.trod_struct hu hx
      obtain ⟨vs, bl, ho⟩ := deep_fields (fun t hk => deep_open hc d t hk) hl fs.toList 0 h (n := n) (fun f hmem => by
        obtain ⟨i, hi⟩ := List.getElem?_of_mem hmem
        have hi' : fs[i]? = some f := by simpa using hi
        have hlt : i < xs.length := by
          have := (Array.getElem?_eq_some_iff.1 hi').1
          omega
        exact ⟨xs[i], by rw [hf i f hi']; simp [hlt]⟩) start
      rw [List.drop_zero] at ho
      exact ⟨vs, bl, ho.imp fun s q => by simp only [RdT, hu]; exact q⟩
    · rename_i e hu
      simp only [Bool.and_eq_true, decide_eq_true_eq] at h
      obtain ⟨L, hL1, hL2⟩ := dummyD hc
      rcases slice_geo hu h.1 hx with rfl | ⟨a, rfl⟩ | ⟨b, off, len, cap, cells, el, fr, n, rfl, h2, h3, h4, h5, h6, h7⟩
      · exact ⟨[.nils], [], .plain (fun ρ => VRs_cons.2 ⟨by simp [VR], VRs_nil⟩) (fun s => by simp only [RdT, hu]; exact .inl (by trivial)) rfl rfl⟩
      · refine ⟨[.sl start 0 0 (some 0) (P.cellsOf e)], [(.row [] false, L)], ?_, ?_, fun ρ hρ => ⟨VRs_cons.2 ⟨?_, VRs_nil⟩, ?_⟩, fun s hs => ?_, rfl, rfl⟩
        · intro p hp
          simp at hp
          subst hp
          exact hL1
        · intro p hp
          simp at hp
          subst hp
          rfl
        · simp only [VR]
          exact ⟨L, a, 0, hρ 0 _ rfl, rfl, Nat.le_refl _, fun k hk => by injection hk, .inl rfl⟩
        · intro p hp
          simp at hp
          subst hp
          exact hL2 ρ
        · simp only [RdT, hu]
          exact .inr ⟨start, 0, 0, [], rfl, Nat.le_refl _, Nat.zero_le _, rfl, hs 0 _ rfl, fun r hr => by simp at hr⟩
      · have hlt := (Array.getElem?_eq_some_iff.1 h5).1
        obtain ⟨rows, bl, hr1, ho⟩ := deep_rows (deep_open hc d e h.2) cells.toList off cap (by simpa using h6) h7 (start + 1)
        have hfl : rows.flatten.length = cap * P.cellsOf e := by
          rw [ho.len, List.length_take, List.length_drop]
          simp
          omega
        have hup : ∀ {ρ : Ren}, (∀ i p, ((AB.row rows.flatten false, (⟨b, off, cells.size⟩ : Loc)) :: bl)[i]? = some p → ρ (start + i) = some p.2) → ∀ i p, bl[i]? = some p → ρ (start + 1 + i) = some p.2 := fun hρ i p hp => by
          have := hρ (i + 1) p (by simpa using hp)
          rwa [show start + (i + 1) = start + 1 + i by omega] at this
        refine ⟨[.sl start 0 len (some cap) (P.cellsOf e)], (.row rows.flatten false, ⟨b, off, cells.size⟩) :: bl, ?_, ?_, fun ρ hρ => ?_, fun s hs => ?_, rfl, rfl⟩
        · intro p hp
          rcases List.mem_cons.1 hp with rfl | hp
          · exact hlt
          · exact ho.lt p hp
        · intro p hp
          rcases List.mem_cons.1 hp with rfl | hp
          · rfl
          · exact ho.own p hp
        · obtain ⟨r1, r2⟩ := ho.vr ρ (hup hρ)
          refine ⟨VRs_cons.2 ⟨?_, VRs_nil⟩, fun p hp => ?_⟩
          · simp only [VR]
            exact ⟨⟨b, off, cells.size⟩, ⟨b, off, none⟩, cap, hρ 0 _ rfl, rfl, h3, fun k hk => by injection hk, .inr ⟨by simp, by simpa using h6⟩⟩
          · rcases List.mem_cons.1 hp with rfl | hp
            · simp only [BlkOk]
              refine ⟨cells, el, fr, h5, rfl, by rw [hfl]; exact h6, fun i v hi => ?_, by simp, ho.one⟩
              have hi' := (List.getElem?_eq_some_iff.1 hi).1
              obtain ⟨c, hc1, hc2⟩ := r1.cell hi
              refine ⟨c, ?_, hc2⟩
              rw [List.getElem?_take_of_lt (by omega), List.getElem?_drop] at hc1
              simpa using hc1
            · exact r2 p hp
        · simp only [RdT, hu]
          refine .inr ⟨start, len, cap, rows, rfl, h3, h4, hr1, hs 0 _ rfl, ?_⟩
          refine ho.rd s fun i p hp => ?_
          have := hs (i + 1) p (by simpa using hp)
          rwa [show start + (i + 1) = start + 1 + i by omega] at this
    · cases h

/-! ### All arguments of a call -/
def argAV (P : Program) (t : TypeId) (vs : List AV) : AV := match P.underlying t with
  | some (.struct _) => .agg vs
  | _ => vs.headD .und
def RdA (P : Program) (s : St) (d : Nat) (t : TypeId) (v : AV) : Prop := ∃ vs, RdT P s d t vs ∧ v = argAV P t vs
def RdAs (P : Program) (s : St) (d : Nat) : List TypeId → List AV → Prop
  | [], xs => xs = []
  | t :: ts, xs => ∃ v r, xs = v :: r ∧ RdA P s d t v ∧ RdAs P s d ts r
structure OpnA (W : World) (Q : St → List AV → Prop) (start : Nat) (cs : List Value) (vs : List AV) (bl : List (AB × Loc)) : Prop where
  lt : ∀ p ∈ bl, p.2.b < W.heap.size
  own : ∀ p ∈ bl, p.1.owned = false
  vr : ∀ ρ : Ren, (∀ i p, bl[i]? = some p → ρ (start + i) = some p.2) → VRs ρ vs cs ∧ ∀ p ∈ bl, BlkOk ρ p.2 W p.1
  rd : ∀ s : St, (∀ i p, bl[i]? = some p → s.get (start + i) = some p.1) → Q s vs
theorem OpnA.cons {Q1 Q2 : St → List AV → Prop} {start : Nat} {c : Value} {cs : List Value} {v : AV} {vs : List AV} {b1 b2 : List (AB × Loc)} (h : OpnA W Q1 start [c] [v] b1) (k : OpnA W Q2 (start + b1.length) cs vs b2) :
    OpnA W (fun s _ => Q1 s [v] ∧ Q2 s vs) start (c :: cs) (v :: vs) (b1 ++ b2) := by
  have e1 : ∀ {i : Nat} {p}, b1[i]? = some p → (b1 ++ b2)[i]? = some p := fun {i p} hp => by
    rw [List.getElem?_append_left (List.getElem?_eq_some_iff.1 hp).1]; exact hp
  have e2 : ∀ {i : Nat} {p}, b2[i]? = some p → (b1 ++ b2)[b1.length + i]? = some p := fun {i p} hp => by
    rw [List.getElem?_append_right (by omega), Nat.add_sub_cancel_left]; exact hp
  refine ⟨fun p hp => ?_, fun p hp => ?_, fun ρ hρ => ?_, fun s hs => ⟨h.rd s fun i p hp => hs i p (e1 hp), k.rd s fun i p hp => ?_⟩⟩
  · rcases List.mem_append.1 hp with q | q
    · exact h.lt p q
    · exact k.lt p q
  · rcases List.mem_append.1 hp with q | q
    · exact h.own p q
    · exact k.own p q
  · obtain ⟨r1, r2⟩ := h.vr ρ fun i p hp => hρ i p (e1 hp)
    obtain ⟨r3, r4⟩ := k.vr ρ fun i p hp => by have := hρ _ p (e2 hp); rwa [← Nat.add_assoc] at this
    refine ⟨r1.append r3, fun p hp => ?_⟩
    rcases List.mem_append.1 hp with q | q
    · exact r2 p q
    · exact r4 p q
  · have := hs _ p (e2 hp)
    rwa [← Nat.add_assoc] at this
theorem arg_deep (hc : HasCellsD W) {d : Nat} {t : TypeId} (hok : okT P (d + 1) t = true) {v : Value} {x : DataW H} {p : List MemPlace} (h : DataW.Trod enc P W base (fun _ => true) held t v x p) {b0 : Nat} (hval : Value.okWide P W .any b0 t v) (start : Nat) :
    ∃ a bl, OpnA W (fun s _ => RdA P s (d + 1) t a) start [v] [a] bl := by
  obtain ⟨fuel, h⟩ := h
  obtain ⟨vs, bl, ho⟩ := deep_open hc (d + 1) t hok fuel _ _ h start
  have hone : ∀ (hv : v.cells.toList = [v]) (ha : argAV P t vs = vs.headD .und), ∃ a bl, OpnA W (fun s _ => RdA P s (d + 1) t a) start [v] [a] bl := by
    intro hv ha
    have hl := ho.len
    rw [hv] at hl
    match vs, hl with
    | [a], _ =>
      refine ⟨a, bl, ho.lt, ho.own, fun ρ hρ => ?_, fun s hs => ⟨[a], ho.rd s hs, by rw [ha]; rfl⟩⟩
      have := ho.vr ρ hρ
      rw [hv] at this
      exact this
  simp only [okT] at hok
  split at hok
  · rename_i hu
    obtain ⟨b, rfl⟩ := okWide_bool hu hval
    exact hone rfl (by simp [argAV, hu])
  · rename_i k hu
    obtain ⟨b, rfl⟩ := okWide_int hu hval
    exact hone rfl (by simp [argAV, hu])
  · rename_i hu
    obtain ⟨b, rfl⟩ := okWide_string hu hval
    exact hone rfl (by simp [argAV, hu])
  · rename_i fs hu
    obtain ⟨cs, rfl, _⟩ := okWide_struct hu hval
    refine ⟨.agg vs, bl, ho.lt, ho.own, fun ρ hρ => ?_, fun s hs => ⟨vs, ho.rd s hs, by simp [argAV, hu]⟩⟩
    obtain ⟨r1, r2⟩ := ho.vr ρ hρ
    refine ⟨VRs_cons.2 ⟨?_, VRs_nil⟩, r2⟩
    simp only [VR]
    exact ⟨cs.toList, by simp, r1⟩
  · rename_i e hu
    obtain ⟨a, len, cap, rfl⟩ := okWide_slice hu hval
    exact hone rfl (by simp [argAV, hu])
  · cases hok
theorem args_deep (hc : HasCellsD W) {d : Nat} : ∀ {ts : List TypeId} {vs : List Value} {ds : List (DataW H)} {ps : List MemPlace}, (∀ t ∈ ts, okT P (d + 1) t = true) → DataW.TrodAll enc P W base (fun _ => true) held ts vs ds ps →
    (∀ (j : Nat) t v, ts[j]? = some t → vs[j]? = some v → ∃ b0, Value.okWide P W .any b0 t v) → ∀ start, ∃ xs bl, OpnA W (fun s _ => RdAs P s (d + 1) ts xs) start vs xs bl
  | [], vs, ds, ps, _, h, _, start => by
    obtain ⟨rfl, rfl, rfl⟩ := trodAll_nil h
    exact ⟨[], [], by simp, by simp, fun ρ _ => ⟨VRs_nil, by simp⟩, fun s _ => rfl⟩
  | t :: ts, vs, ds, ps, hok, h, hval, start => by
    obtain ⟨v, vs1, x, ds1, a, b, rfl, rfl, rfl, h1, h2⟩ := trodAll_cons h
    obtain ⟨b0, hv⟩ := hval 0 t v rfl rfl
    obtain ⟨av, bl1, o1⟩ := arg_deep hc (hok t (by simp)) h1 hv start
    obtain ⟨xs, bl2, o2⟩ := args_deep hc (fun t' ht => hok t' (by simp [ht])) h2 (fun j t' v' e1 e2 => hval (j + 1) t' v' (by simpa using e1) (by simpa using e2)) (start + bl1.length)
    have := o1.cons o2
    exact ⟨av :: xs, bl1 ++ bl2, this.lt, this.own, this.vr, fun s hs => ⟨av, xs, rfl, this.rd s hs⟩⟩
open Classical in
noncomputable def lawC (P : Program) (d : Nat) (ts : List TypeId) : List AV → St → Option (AV × St) := fun xs s => if RdAs P s d ts xs then some (.bool true, { heap := s.heap, next := s.next, low := min s.low s.next }) else none
theorem deep_call {d : Nat} {ts : List TypeId} {args : List Value} {xs : List AV} {bl : List (AB × Loc)} (ho : OpnA W (fun s _ => RdAs P s d ts xs) 0 args xs bl) {f : Nat} (hs : SoundAt P f (lawC P d ts)) : Calls P f args.toArray W fun e W' => e = .returned (.bool true) ∧ Clean W W' := by
  obtain ⟨s0, hs0⟩ : ∃ s0 : St, s0 = ⟨(bl.map (·.1)).reverse, bl.length, 0⟩ := ⟨_, rfl⟩
  have hnx : s0.next = bl.length := by rw [hs0]
  have hget : ∀ i, s0.get i = (bl[i]?).map (·.1) := by
    intro i
    subst hs0
    unfold St.get
    simp only
    split
    · rename_i h
      rw [List.getElem?_reverse (by simp; omega)]
      simp only [List.length_map, List.getElem?_map]
      rw [show bl.length - 1 - (bl.length - 1 - i) = i by omega]
    · rename_i h
      rw [List.getElem?_eq_none (by omega)]
      rfl
  have hown : ∀ i b, s0.get i = some b → b.owned = false := by
    intro i b h
    rw [hget] at h
    obtain ⟨p, hp, rfl⟩ := Option.map_eq_some_iff.1 h
    exact ho.own p (List.mem_of_getElem? hp)
  obtain ⟨ρ, hρ⟩ : ∃ ρ : Ren, ρ = fun i => (bl[i]?).map (·.2) := ⟨_, rfl⟩
  have hρ1 : ∀ i p, bl[i]? = some p → ρ (0 + i) = some p.2 := fun i p hp => by rw [hρ, Nat.zero_add]; simp [hp]
  obtain ⟨hv, hb⟩ := ho.vr ρ hρ1
  have hR : R s0 ρ W := by
    refine ⟨fun i L h => ?_, fun i b L h1 h2 => ?_, fun i j L M bi bj _ _ _ e3 _ e5 _ => ?_⟩
    · rw [hρ] at h
      obtain ⟨p, hp, rfl⟩ := Option.map_eq_some_iff.1 h
      exact ho.lt p (List.mem_of_getElem? hp)
    · rw [hget] at h1
      rw [hρ] at h2
      obtain ⟨p, hp, rfl⟩ := Option.map_eq_some_iff.1 h1
      simp [hp] at h2
      subst h2
      exact hb p (List.mem_of_getElem? hp)
    · rw [hown i bi e3] at e5; cases e5
  have hrd := ho.rd s0 fun i p hp => by rw [Nat.zero_add, hget, hp]; rfl
  obtain ⟨_, _, h⟩ := hs xs s0 _ _ (by unfold lawC; rw [if_pos hrd])
  have := h ρ W args (fun i hi => by rw [hρ]; simp; omega) hR hv
  refine this.mono fun e W' hp => ?_
  obtain ⟨ρ', v, rfl, hv', hst, _⟩ := hp
  simp only [VR] at hv'
  subst hv'
  exact ⟨rfl, hst.size, hst.os, hst.tape, hst.output, hst.drawn, fun b hb => hst.frame b hb fun id L blk _ _ h1 h2 => by rw [hown id blk h1] at h2; cases h2⟩
theorem trodAll_len : ∀ {ts : List TypeId} {vs : List Value} {ds : List (DataW H)} {ps : List MemPlace}, DataW.TrodAll enc P W base (fun _ => true) held ts vs ds ps → ds.length = ts.length
  | [], vs, ds, ps, h => by
    obtain ⟨rfl, rfl, rfl⟩ := trodAll_nil h
    rfl
  | t :: ts, vs, ds, ps, h => by
    obtain ⟨v, vs1, x, ds1, a, b, rfl, rfl, rfl, h1, h2⟩ := trodAll_cons h
    simp [trodAll_len h2]
end Go.AM
end
/-
  What the arguments of the statements show: numbers, nodes, states, lists of states. Own work of this project.
-/
section
set_option linter.unusedVariables false
set_option linter.unusedSimpArgs false
set_option maxRecDepth 100000
namespace Go.AM
open Go Go.Proofs

variable {P : Program} {s : St}
theorem rd_cksF {ok : TypeId → Option (List CK)} {rd : TypeId → List AV → Prop} (IH : ∀ t ks vs, ok t = some ks → rd t vs → CKs ks vs) : ∀ (fs : List Field) (at_ sz : Nat) (ks : List CK) (vs : List AV),
    cks.cksF P ok fs at_ sz = some ks → RdF rd fs vs → CKs ks vs
  | [], at_, sz, ks, vs, h, hr => by
    simp only [cks.cksF] at h
    split at h
    · injection h with h; subst h
      exact hr
    · cases h
  | f :: r, at_, sz, ks, vs, h, hr => by
    simp only [cks.cksF] at h
    split at h
    · split at h
      · rename_i ks1 hk
        split at h
        · obtain ⟨ks2, h2, rfl⟩ := Option.map_eq_some_iff.1 h
          obtain ⟨a, b, rfl, h3, h4⟩ := hr
          exact (IH _ _ _ hk h3).append (rd_cksF IH r _ _ _ _ h2 h4)
        · cases h
      · cases h
    · cases h
theorem rd_cks : ∀ (d : Nat) (t : TypeId) (ks : List CK) (vs : List AV), cks P d t = some ks → RdT P s d t vs → CKs ks vs
  | 0, t, ks, vs, h, _ => by simp [cks] at h
  | d + 1, t, ks, vs, h, hr => by
    simp only [cks] at h
    split at h
    · rename_i hu
      injection h with h; subst h
      simp only [RdT, hu] at hr
      obtain ⟨x, rfl⟩ := hr
      exact ⟨_, _, rfl, ⟨x, rfl⟩, rfl⟩
    · rename_i k hu
      injection h with h; subst h
      simp only [RdT, hu] at hr
      obtain ⟨x, rfl, hw⟩ := hr
      exact ⟨_, _, rfl, ⟨x, rfl, hw⟩, rfl⟩
    · rename_i hu
      injection h with h; subst h
      simp only [RdT, hu] at hr
      obtain ⟨x, rfl⟩ := hr
      exact ⟨_, _, rfl, ⟨x, rfl⟩, rfl⟩
    · rename_i fs hu
      simp only [RdT, hu] at hr
      exact rd_cksF (fun t ks vs h1 h2 => rd_cks d t ks vs h1 h2) _ _ _ _ _ h hr
    · cases h
def ndKs : List CK := [.i .i64, .i .i64, .i .i64, .i .i64, .i .i64, .i .i32]
theorem nd_of_ks {r : List AV} (h : CKs ndKs r) : ∃ x : Nd, r = Nd.av x := by
  simp only [ndKs, CKs] at h
  obtain ⟨_, _, rfl, ⟨a, rfl, _⟩, _, _, rfl, ⟨b, rfl, _⟩, _, _, rfl, ⟨c, rfl, _⟩, _, _, rfl, ⟨d, rfl, _⟩, _, _, rfl, ⟨e, rfl, _⟩, _, _, rfl, ⟨x, rfl, _⟩, rfl⟩ := h
  exact ⟨⟨⟨a, b⟩, ⟨c, d⟩, e, x⟩, rfl⟩
theorem nds_of_rows : ∀ {rows : List (List AV)}, (∀ r ∈ rows, CKs ndKs r) → ∃ l : List Nd, rows.flatten = ndC.cells l ∧ l.length = rows.length
  | [], _ => ⟨[], rfl, rfl⟩
  | r :: rows, h => by
    obtain ⟨x, rfl⟩ := nd_of_ks (h r (by simp))
    obtain ⟨l, h1, h2⟩ := nds_of_rows (rows := rows) fun r' hr' => h r' (by simp [hr'])
    exact ⟨x :: l, by rw [List.flatten_cons, h1, cells_cons]; rfl, by simp [h2]⟩
theorem rd_slice {d : Nat} {t e : TypeId} {vs : List AV} (hu : P.underlying t = some (.slice e)) (h : RdT P s (d + 1) t vs) : vs = [.nils] ∨ ∃ (id n cap : Nat) (rows : List (List AV)), vs = [.sl id 0 n (some cap) (P.cellsOf e)] ∧ n ≤ cap ∧ cap ≤ maxLen ∧ rows.length = cap ∧ s.get id = some (.row rows.flatten false) ∧ ∀ r ∈ rows, RdT P s d e r ∧ r.length = P.cellsOf e := by
  simp only [RdT, hu] at h
  exact h
theorem rd_int {d : Nat} {t : TypeId} {k : IntKind} {vs : List AV} (hu : P.underlying t = some (.int k)) (h : RdT P s (d + 1) t vs) : ∃ n, vs = [.int k n] ∧ (Lit.int k n).wf = true := by
  simp only [RdT, hu] at h
  exact h
theorem rda_int {d : Nat} {t : TypeId} {k : IntKind} {v : AV} (hu : P.underlying t = some (.int k)) (h : RdA P s (d + 1) t v) : ∃ n, v = .int k n ∧ (Lit.int k n).wf = true := by
  obtain ⟨vs, h1, rfl⟩ := h
  obtain ⟨n, rfl, hw⟩ := rd_int hu h1
  exact ⟨n, by simp [argAV, hu], hw⟩
theorem lawC_some {d : Nat} {ts : List TypeId} {xs : List AV} {r : AV} {s' : St} (h : lawC P d ts xs s = some (r, s')) : RdAs P s d ts xs ∧ r = .bool true ∧ s' = s.lowed := by
  unfold lawC at h
  split at h
  · rename_i hr
    injection h with h
    obtain ⟨rfl, rfl⟩ := Prod.mk.inj h
    exact ⟨hr, rfl, rfl⟩
  · cases h
theorem rdas_1 {d : Nat} {t : TypeId} {xs : List AV} (h : RdAs P s d [t] xs) : ∃ v, xs = [v] ∧ RdA P s d t v := by
  obtain ⟨v, r, rfl, h1, h2⟩ := h
  simp only [RdAs] at h2
  subst h2
  exact ⟨v, rfl, h1⟩
theorem rdas_cons {d : Nat} {t : TypeId} {ts : List TypeId} {xs : List AV} (h : RdAs P s d (t :: ts) xs) : ∃ v r, xs = v :: r ∧ RdA P s d t v ∧ RdAs P s d ts r := h
theorem rdas_2 {d : Nat} {t1 t2 : TypeId} {xs : List AV} (h : RdAs P s d [t1, t2] xs) : ∃ v w, xs = [v, w] ∧ RdA P s d t1 v ∧ RdA P s d t2 w := by
  obtain ⟨v, r, rfl, h1, h2⟩ := h
  obtain ⟨w, rfl, h3⟩ := rdas_1 h2
  exact ⟨v, w, rfl, h1, h3⟩
theorem rdas_3 {d : Nat} {t1 t2 t3 : TypeId} {xs : List AV} (h : RdAs P s d [t1, t2, t3] xs) : ∃ v w u, xs = [v, w, u] ∧ RdA P s d t1 v ∧ RdA P s d t2 w ∧ RdA P s d t3 u := by
  obtain ⟨v, r, rfl, h1, h2⟩ := h
  obtain ⟨w, u, rfl, h3, h4⟩ := rdas_2 h2
  exact ⟨v, w, u, rfl, h1, h3, h4⟩
end Go.AM
end
/-
  Arguments that are structs, field by field. Own work of this project.
-/
section
set_option linter.unusedVariables false
set_option linter.unusedSimpArgs false
namespace Go.AM
open Go

variable {s t u : St}
section
variable {P : Program}
def RdTs (P : Program) (s : St) (d : Nat) : List TypeId → List AV → Prop
  | [], vs => vs = []
  | t :: r, vs => ∃ a b, vs = a ++ b ∧ RdT P s d t a ∧ RdTs P s d r b
theorem rd_fields {d : Nat} : ∀ (fs : List Field) (vs : List AV), RdF (RdT P s d) fs vs → RdTs P s d (fs.map (·.type)) vs
  | [], _, h => h
  | f :: r, vs, h => by
    obtain ⟨a, b, rfl, h1, h2⟩ := h
    exact ⟨a, b, rfl, h1, rd_fields r b h2⟩
def fieldsT (P : Program) (t : TypeId) : Option (List TypeId) := match P.underlying t with
  | some (.struct fs) => some (fs.toList.map (·.type))
  | _ => none
theorem rd_struct {d : Nat} {t : TypeId} {ts : List TypeId} {vs : List AV} (hu : fieldsT P t = some ts) (h : RdT P s (d + 1) t vs) : RdTs P s d ts vs := by
  unfold fieldsT at hu
  split at hu
  · rename_i fs hq
    injection hu with hu
    subst hu
    simp only [RdT, hq] at h
    exact rd_fields _ _ h
  · cases hu
end
end Go.AM
end
/-
  What arguments show: dots, lists of dots, contexts. Own work of this project.
-/
section
set_option linter.unusedVariables false
set_option linter.unusedSimpArgs false
set_option maxRecDepth 100000
namespace Go.AM
open Go Go.Proofs

variable {P : Program} {s : St}
def dotKs : List CK := [.i .i64, .i .i64]
theorem dot_of_ks {r : List AV} (h : CKs dotKs r) : ∃ x : Dot, r = Dot.av x := by
  simp only [dotKs, CKs] at h
  obtain ⟨_, _, rfl, ⟨a, rfl, _⟩, _, _, rfl, ⟨b, rfl, _⟩, rfl⟩ := h
  exact ⟨⟨a, b⟩, rfl⟩
theorem dots_of_rows : ∀ {rows : List (List AV)}, (∀ r ∈ rows, CKs dotKs r) → ∃ l : List Dot, rows.flatten = dotC.cells l ∧ l.length = rows.length
  | [], _ => ⟨[], rfl, rfl⟩
  | r :: rows, h => by
    obtain ⟨x, rfl⟩ := dot_of_ks (h r (by simp))
    obtain ⟨l, h1, h2⟩ := dots_of_rows (rows := rows) fun r' hr' => h r' (by simp [hr'])
    exact ⟨x :: l, by rw [List.flatten_cons, h1, cells_cons]; rfl, by simp [h2]⟩
theorem rd_dotsT {d : Nat} {t e : TypeId} (hu : P.underlying t = some (.slice e)) (hc : P.cellsOf e = 2) (hk : cks P d e = some dotKs) {vs : List AV} (h : RdT P s (d + 1) t vs) : ∃ v l, vs = [v] ∧ read dotC s v = some l := by
  rcases rd_slice hu h with rfl | ⟨id, n, cap, rows, rfl, h1, _, h3, h4, h5⟩
  · exact ⟨.nils, [], rfl, rfl⟩
  · obtain ⟨l, e1, e2⟩ := dots_of_rows fun r hr => rd_cks d _ _ _ hk (h5 r hr).1
    rw [hc]
    refine ⟨_, l.take n, rfl, ?_⟩
    have hall : read dotC s (.sl id 0 cap (some cap) 2) = some l := by
      refine read_of (C := dotC) (by omega) h4 ?_ ?_
      · have : (dotC.cells l).length = l.length * 2 := cells_len dotC l
        rw [e1, this]
        show 0 + cap * 2 ≤ _
        omega
      · have : (dotC.cells l).length = l.length * 2 := cells_len dotC l
        rw [e1, List.drop_zero, show cap * dotC.sz = (dotC.cells l).length by rw [this]; show cap * 2 = _; omega, List.take_length]
    exact read_take hall n h1
theorem int_underC : Tryz.prog.underlying 3 = some (.int .i64) := by kernel_rfl
theorem dot_cells : Tryz.prog.cellsOf 38 = 2 := by kernel_rfl
theorem dot_cks7 : cks Tryz.prog 7 38 = some dotKs := by kernel_rfl
theorem dot_cks6 : cks Tryz.prog 6 38 = some dotKs := by kernel_rfl
theorem dot_fields : fieldsT Tryz.prog 38 = some [3, 3] := by kernel_rfl
theorem vec_under : Tryz.prog.underlying 23 = some (.slice 38) := by kernel_rfl
theorem dots_under : Tryz.prog.underlying 22 = some (.slice 38) := by kernel_rfl
theorem ctx_fields : fieldsT Tryz.prog 25 = some [23, 22] := by kernel_rfl
theorem arg_struct {t : TypeId} {ts : List TypeId} (h : fieldsT P t = some ts) (vs : List AV) : argAV P t vs = .agg vs := by
  unfold fieldsT at h
  split at h
  · rename_i fs hq
    simp [argAV, hq]
  · cases h
theorem rda_dots {v : AV} (h : RdA Tryz.prog s 8 22 v) : ∃ l, read dotC s v = some l := by
  obtain ⟨vs, h1, rfl⟩ := h
  obtain ⟨v, l, rfl, hr⟩ := rd_dotsT dots_under dot_cells dot_cks7 h1
  exact ⟨l, by simp [argAV, dots_under, hr]⟩
theorem rda_dotsC {v : AV} (h : RdA Tryz.prog s 8 22 v) : ∃ l, read dotC s v = some l ∧ CapOK v := by
  obtain ⟨l, hr⟩ := rda_dots h
  refine ⟨l, hr, ?_⟩
  obtain ⟨vs, h1, rfl⟩ := h
  rcases rd_slice dots_under h1 with rfl | ⟨id, n, cap, rows, rfl, h1, _⟩
  · have : argAV Tryz.prog 22 [.nils] = .nils := by simp [argAV, dots_under]
    rw [this]
    exact .nils
  · have : argAV Tryz.prog 22 [.sl id 0 n (some cap) (Tryz.prog.cellsOf 38)] = .sl id 0 n (some cap) (Tryz.prog.cellsOf 38) := by simp [argAV, dots_under]
    rw [this]
    intro _ _ _ c _ e
    injection e with _ _ e1 e2
    injection e2 with e2
    omega
theorem rda_dot {v : AV} (h : RdA Tryz.prog s 8 38 v) : ∃ d : Dot, v = .agg (Dot.av d) := by
  obtain ⟨vs, h1, rfl⟩ := h
  rw [arg_struct dot_fields]
  obtain ⟨r1, x1, rfl, k1, r2, x2, rfl, k2, rfl⟩ := rd_struct dot_fields h1
  obtain ⟨a, rfl, _⟩ := rd_int int_underC k1
  obtain ⟨b, rfl, _⟩ := rd_int int_underC k2
  exact ⟨⟨a, b⟩, rfl⟩
theorem rda_ctx {v : AV} (h : RdA Tryz.prog s 8 25 v) : ∃ v1 v2 X, v = .agg [v1, v2] ∧ read dotC s v1 = some (DCx.v X) ∧ read dotC s v2 = some X.c := by
  obtain ⟨vs, h1, rfl⟩ := h
  rw [arg_struct ctx_fields]
  obtain ⟨r1, x1, rfl, k1, r2, x2, rfl, k2, rfl⟩ := rd_struct ctx_fields h1
  obtain ⟨v1, l1, rfl, hr1⟩ := rd_dotsT vec_under dot_cells dot_cks6 k1
  obtain ⟨v2, l2, rfl, hr2⟩ := rd_dotsT dots_under dot_cells dot_cks6 k2
  exact ⟨v1, v2, ⟨l1, l2⟩, rfl, hr1, hr2⟩
end Go.AM
end
/-
  The helpers of the statements of layer 6; ContextDots, ContextMakes. Own work of this project; in part printed by a program of it.
-/
section
set_option linter.unusedVariables false
set_option linter.unusedSimpArgs false
set_option maxRecDepth 100000
set_option maxHeartbeats 8000000
namespace Go.AM
open Go Go.Proofs

variable {s t u : St}

theorem q_known (cl : Bool) (s : St) : acall (closed [] (.bool true)) cl [] s = some (.bool true, s) := acall_ro (by simp [closed]) rfl
noncomputable def R_light : Con := runFn (tb []) a4
theorem s_light : SoundAt Tryz.prog 4 R_light := run_sound (tb_sound (l := []) (by simp)) mixed Tryz.func4 k4 c4
theorem n_light : noNxtC a4.body = true := by kernel_rfl
theorem w_light {s : St} {v w : AV} {X : DCx} (hv : read dotC s v = some X.v) (hw : read dotC s w = some X.c) : ∀ env : Env, elen env = a4.ntmps → (∀ i x_, [.agg [v, w]][i]? = some x_ → E env i = x_) → awp (tb []) a4.body (fun x e t => (∀ i, x ≠ .exit i) ∧ aresults e t a4.results = some (.bool (decide ((X.v.length : Int) ≤ 40) && decide ((X.c.length : Int) ≤ 40))) ∧ Keep s t) env s := by
  intro env hlen ha
  have h0 : E env 0 = _ := ha 0 _ rfl
  have hlen : elen env = _ := hlen
  simp only [a4] at hlen
  unfold a4
  try dsimp only [oO, oG]
  have hbx := boxV_2 (read_oneD hv).2 (read_oneD hw).2
  have hK1 : Keep s (s.push (.row [v, w] true)) := (Keep.refl s).push _
  obtain ⟨c1, c2, c3, c4⟩ := box_ctx s v w (.refl _)
  have hv1 := hK1.read hv
  have hw1 := hK1.read hw
  have hL1 := lenV_read hv
  have hL2 := lenV_read hw
  simp (config := {contextual := true, maxDischargeDepth := 12}) only [tb_at, h0, hlen, hbx, c1, c2, c3, c4, hL1, hL2, ↓bD, bU, forall_const, List.all_cons, List.all_nil, Option.map_some, List.map_cons, List.map_nil, ne_eq, implies_true, isNx, eq_self, ↓wp_cond, ↓wp_loop, ↓reduceIte, reduceCtorEq, Nat.reduceEqDiff, Nat.reduceLT, Nat.reduceAdd, Nat.reduceMul, Int.ofNat_lt, Int.ofNat_le, exists_const, Option.map_none, beq_self_eq_true, decide_true, ↓sg_bsl, ↓st_callf, bX, ap_mkfn, ae_callvV, callvV_fn, List.cons_append, List.nil_append, boxV_i, boxV_dot, sto_dot, ap_conv, convV_int, bslV_0, fstep_d0, fstep_d1, bsl_dot, ae_appz, ap_cap, capV_nils, slcV_nils0, slcV_sl0, wrap_0, ae_clr, boxV_f, fstep_f, lod_new2, ↓st_appf, q_known]
  all_goals exact hK1
theorem q_light (cl : Bool) {s : St} {v w : AV} {X : DCx} (hv : read dotC s v = some X.v) (hw : read dotC s w = some X.c) : acall R_light cl [.agg [v, w]] s = some (.bool (decide ((X.v.length : Int) ≤ 40) && decide ((X.c.length : Int) ≤ 40)), s) := run_same n_light (by simp [a4]) rfl (w_light (s := lowd s) (read_low' hv) (read_low' hw))
noncomputable def R_gives : Con := runFn (tb [(12, R_RCEqual)]) a28
theorem s_gives : SoundAt Tryz.prog 28 R_gives := run_sound (tb_sound (l := [(12, R_RCEqual)]) (by simpa using s_RCEqual)) mixed Tryz.func28 k28 c28
theorem n_gives : noNxtC a28.body = true := by kernel_rfl
theorem w_gives {s : St} {v w : AV} {X : DCx} (hv : read dotC s v = some X.v) (hw : read dotC s w = some X.c) (hlv : X.v.length ≤ lim) (hlw : X.c.length ≤ lim) {v' w' : AV} {Y : DCx} (kv : read dotC s v' = some Y.v) (kw : read dotC s w' = some Y.c) (klv : Y.v.length ≤ lim) (klw : Y.c.length ≤ lim) (e1 e2 : Int) : ∀ env : Env, elen env = a28.ntmps → (∀ i x_, [.agg [v, w], .int .i64 e1, .agg [v', w'], .int .i64 e2][i]? = some x_ → E env i = x_) → awp (tb [(12, R_RCEqual)]) a28.body (fun x e t => (∀ i, x ≠ .exit i) ∧ aresults e t a28.results = some (.bool (decide (X = Y) && decide (e1 = e2))) ∧ Keep s t) env s := by
  intro env hlen ha
  have h0 : E env 0 = _ := ha 0 _ rfl
  have h1 : E env 1 = _ := ha 1 _ rfl
  have h2 : E env 2 = _ := ha 2 _ rfl
  have h3 : E env 3 = _ := ha 3 _ rfl
  have hlen : elen env = _ := hlen
  simp only [a28] at hlen
  unfold a28
  try dsimp only [oO, oG]
  have hbx := boxV_2 (read_oneD hv).2 (read_oneD hw).2
  have hby := boxV_2 (read_oneD kv).2 (read_oneD kw).2
  have hK2 : Keep s ((s.push (.row [v, w] true)).push (.row [v', w'] true)) := ((Keep.refl s).push _).push _
  have hKx : Keep (s.push (.row [v, w] true)) ((s.push (.row [v, w] true)).push (.row [v', w'] true)) := (Keep.refl _).push _
  obtain ⟨c1, c2, c3, c4⟩ := box_ctx s v w hKx
  obtain ⟨d1, d2, d3, d4⟩ := box_ctx (s.push (.row [v, w] true)) v' w' (.refl _)
  have q := q_RCEqual false (hK2.read hv) (hK2.read hw) hlv hlw (hK2.read kv) (hK2.read kw) klv klw
  simp (config := {contextual := true, maxDischargeDepth := 12}) only [tb_at, h0, h1, h2, h3, hlen, hbx, hby, c1, c2, c3, c4, d1, d2, d3, d4, q, ↓bD, bU, forall_const, List.all_cons, List.all_nil, Option.map_some, List.map_cons, List.map_nil, ne_eq, implies_true, isNx, eq_self, ↓wp_cond, ↓wp_loop, ↓reduceIte, reduceCtorEq, Nat.reduceEqDiff, Nat.reduceLT, Nat.reduceAdd, Nat.reduceMul, Int.ofNat_lt, Int.ofNat_le, exists_const, Option.map_none, beq_self_eq_true, decide_true, ↓sg_bsl, ↓st_callf, bX, ap_mkfn, ae_callvV, callvV_fn, List.cons_append, List.nil_append, boxV_i, boxV_dot, sto_dot, ap_conv, convV_int, bslV_0, fstep_d0, fstep_d1, bsl_dot, ae_appz, ap_cap, capV_nils, slcV_nils0, slcV_sl0, wrap_0, ae_clr, boxV_f, fstep_f, lod_new2, ↓st_appf, q_known]
  all_goals exact hK2
theorem q_gives (cl : Bool) {s : St} {v w : AV} {X : DCx} (hv : read dotC s v = some X.v) (hw : read dotC s w = some X.c) (hlv : X.v.length ≤ lim) (hlw : X.c.length ≤ lim) {v' w' : AV} {Y : DCx} (kv : read dotC s v' = some Y.v) (kw : read dotC s w' = some Y.c) (klv : Y.v.length ≤ lim) (klw : Y.c.length ≤ lim) (e1 e2 : Int) : acall R_gives cl [.agg [v, w], .int .i64 e1, .agg [v', w'], .int .i64 e2] s = some (.bool (decide (X = Y) && decide (e1 = e2)), s) := run_same n_gives (by simp [a28]) rfl (w_gives (s := lowd s) (read_low' hv) (read_low' hw) hlv hlw (read_low' kv) (read_low' kw) klv klw e1 e2)
noncomputable def R_compacts : Con := runFn (tb [(35, R_CComp), (28, R_gives)]) a14
theorem s_compacts : SoundAt Tryz.prog 14 R_compacts := run_sound (tb_sound (l := [(35, R_CComp), (28, R_gives)]) (by simpa using ⟨s_CComp, s_gives⟩)) mixed Tryz.func14 k14 c14
theorem n_compacts : noNxtC a14.body = true := by kernel_rfl
theorem w_compacts {s : St} {v w : AV} {X : DCx} (hv : read dotC s v = some X.v) (hw : read dotC s w = some X.c) (hlv : X.v.length ≤ 80000) (hlw : X.c.length ≤ 80000) {v' w' : AV} {Y : DCx} (kv : read dotC s v' = some Y.v) (kw : read dotC s w' = some Y.c) (klv : Y.v.length ≤ 80000) (klw : Y.c.length ≤ 80000) (e2 : Int) (hcv : cvalid X = true) : ∀ env : Env, elen env = a14.ntmps → (∀ i x_, [.agg [v, w], .agg [v', w'], .int .i64 e2][i]? = some x_ → E env i = x_) → awp (tb [(35, R_CComp), (28, R_gives)]) a14.body (fun x e t => (∀ i, x ≠ .exit i) ∧ aresults e t a14.results = some (.bool (decide (compC X = Y) && decide (0 = e2))) ∧ Keep s t) env s := by
  intro env hlen ha
  have h0 : E env 0 = _ := ha 0 _ rfl
  have h1 : E env 1 = _ := ha 1 _ rfl
  have h2 : E env 2 = _ := ha 2 _ rfl
  have hlen : elen env = _ := hlen
  simp only [a14] at hlen
  unfold a14
  try dsimp only [oO, oG]
  have hbx := boxV_2 (read_oneD hv).2 (read_oneD hw).2
  have hby := boxV_2 (read_oneD kv).2 (read_oneD kw).2
  have hK2 : Keep s ((s.push (.row [v, w] true)).push (.row [v', w'] true)) := ((Keep.refl s).push _).push _
  have hKx : Keep (s.push (.row [v, w] true)) ((s.push (.row [v, w] true)).push (.row [v', w'] true)) := (Keep.refl _).push _
  obtain ⟨c1, c2, c3, c4⟩ := box_ctx s v w hKx
  obtain ⟨d1, d2, d3, d4⟩ := box_ctx (s.push (.row [v, w] true)) v' w' (.refl _)
  obtain ⟨vv, cc, t1, q1, hV1, hC1, hK4⟩ := q_CComp (hK2.read hv) (hK2.read hw) (by omega) (by omega) hcv
  have hR1 : CR t1 vv cc (compC X) := ⟨hV1.read, hC1.read⟩
  have hcl := comp_len X
  have hst := sto_ctx (show sameN t1.next t1 from rfl) (read_oneD hR1.1).2 (read_oneD hR1.2).2
  have hK5 : Keep t1 (t1.lowed.push (.row [vv, cc] true)) := (Keep.refl t1).lowed.push _
  obtain ⟨d1', d2', d3', d4'⟩ := box_ctx (s.push (.row [v, w] true)) v' w' (hK4.trans hK5)
  have hR5 := hR1.keep hK5
  have hK25 := hK2.trans (hK4.trans hK5)
  have q3 := q_gives false hR5.1 hR5.2 (by unfold lim; omega) (by unfold lim; omega) (hK25.read kv) (hK25.read kw) (by unfold lim; omega) (by unfold lim; omega) 0 e2
  simp (config := {contextual := true, maxDischargeDepth := 12}) only [tb_at, h0, h1, h2, hlen, hbx, hby, c1, c2, c3, c4, d1, d2, d3, d4, d1', d4', q1, hst, q3, ↓bD, bU, forall_const, List.all_cons, List.all_nil, Option.map_some, List.map_cons, List.map_nil, ne_eq, implies_true, isNx, eq_self, ↓wp_cond, ↓wp_loop, ↓reduceIte, reduceCtorEq, Nat.reduceEqDiff, Nat.reduceLT, Nat.reduceAdd, Nat.reduceMul, Int.ofNat_lt, Int.ofNat_le, exists_const, Option.map_none, beq_self_eq_true, decide_true, ↓sg_bsl, ↓st_callf, bX, ap_mkfn, ae_callvV, callvV_fn, List.cons_append, List.nil_append, boxV_i, boxV_dot, sto_dot, ap_conv, convV_int, bslV_0, fstep_d0, fstep_d1, bsl_dot, ae_appz, ap_cap, capV_nils, slcV_nils0, slcV_sl0, wrap_0, ae_clr, boxV_f, fstep_f, lod_new2, ↓st_appf, q_known]
  all_goals exact hK25
theorem q_compacts (cl : Bool) {s : St} {v w : AV} {X : DCx} (hv : read dotC s v = some X.v) (hw : read dotC s w = some X.c) (hlv : X.v.length ≤ 80000) (hlw : X.c.length ≤ 80000) {v' w' : AV} {Y : DCx} (kv : read dotC s v' = some Y.v) (kw : read dotC s w' = some Y.c) (klv : Y.v.length ≤ 80000) (klw : Y.c.length ≤ 80000) (e2 : Int) (hcv : cvalid X = true) : acall R_compacts cl [.agg [v, w], .agg [v', w'], .int .i64 e2] s = some (.bool (decide (compC X = Y) && decide (0 = e2)), s) := run_same n_compacts (by simp [a14]) rfl (w_compacts (s := lowd s) (read_low' hv) (read_low' hw) hlv hlw (read_low' kv) (read_low' kw) klv klw e2 hcv)
theorem w_compacts_bad {s : St} {v w : AV} {X : DCx} (hv : read dotC s v = some X.v) (hw : read dotC s w = some X.c) (hlv : X.v.length ≤ 80000) (hlw : X.c.length ≤ 80000) {v' w' : AV} {Y : DCx} (kv : read dotC s v' = some Y.v) (kw : read dotC s w' = some Y.c) (klv : Y.v.length ≤ 80000) (klw : Y.c.length ≤ 80000) (e2 : Int) (hcv : cvalid X = false) : ∀ env : Env, elen env = a14.ntmps → (∀ i x_, [.agg [v, w], .agg [v', w'], .int .i64 e2][i]? = some x_ → E env i = x_) → awp (tb [(35, R_CComp), (28, R_gives)]) a14.body (fun x e t => (∀ i, x ≠ .exit i) ∧ aresults e t a14.results = some (.bool (decide ((⟨[], []⟩ : DCx) = Y) && decide (2 = e2))) ∧ Keep s t) env s := by
  intro env hlen ha
  have h0 : E env 0 = _ := ha 0 _ rfl
  have h1 : E env 1 = _ := ha 1 _ rfl
  have h2 : E env 2 = _ := ha 2 _ rfl
  have hlen : elen env = _ := hlen
  simp only [a14] at hlen
  unfold a14
  try dsimp only [oO, oG]
  have hbx := boxV_2 (read_oneD hv).2 (read_oneD hw).2
  have hby := boxV_2 (read_oneD kv).2 (read_oneD kw).2
  have hK2 : Keep s ((s.push (.row [v, w] true)).push (.row [v', w'] true)) := ((Keep.refl s).push _).push _
  have hKx : Keep (s.push (.row [v, w] true)) ((s.push (.row [v, w] true)).push (.row [v', w'] true)) := (Keep.refl _).push _
  obtain ⟨c1, c2, c3, c4⟩ := box_ctx s v w hKx
  obtain ⟨d1, d2, d3, d4⟩ := box_ctx (s.push (.row [v, w] true)) v' w' (.refl _)
  have q1 := q_CComp_bad false (hK2.read hv) (hK2.read hw) (by unfold lim; omega) (by unfold lim; omega) hcv
  have hst := sto_ctx (show sameN ((s.push (.row [v, w] true)).push (.row [v', w'] true)).next ((s.push (.row [v, w] true)).push (.row [v', w'] true)) from rfl) (a := .nils) (b := .nils) rfl rfl
  have hK5 : Keep ((s.push (.row [v, w] true)).push (.row [v', w'] true)) (((s.push (.row [v, w] true)).push (.row [v', w'] true)).lowed.push (.row [.nils, .nils] true)) := (Keep.refl _).lowed.push _
  obtain ⟨d1', d2', d3', d4'⟩ := box_ctx (s.push (.row [v, w] true)) v' w' hK5
  have hK25 := hK2.trans hK5
  have q3 := q_gives false (s := ((s.push (.row [v, w] true)).push (.row [v', w'] true)).lowed.push (.row [.nils, .nils] true)) (X := ⟨[], []⟩) (read_nils dotC _) (read_nils dotC _) (by simp) (by simp) (hK25.read kv) (hK25.read kw) (by unfold lim; omega) (by unfold lim; omega) 2 e2
  simp (config := {contextual := true, maxDischargeDepth := 12}) only [tb_at, h0, h1, h2, hlen, hbx, hby, c1, c2, c3, c4, d1, d2, d3, d4, d1', d4', q1, hst, q3, ↓bD, bU, forall_const, List.all_cons, List.all_nil, Option.map_some, List.map_cons, List.map_nil, ne_eq, implies_true, isNx, eq_self, ↓wp_cond, ↓wp_loop, ↓reduceIte, reduceCtorEq, Nat.reduceEqDiff, Nat.reduceLT, Nat.reduceAdd, Nat.reduceMul, Int.ofNat_lt, Int.ofNat_le, exists_const, Option.map_none, beq_self_eq_true, decide_true, ↓sg_bsl, ↓st_callf, bX, ap_mkfn, ae_callvV, callvV_fn, List.cons_append, List.nil_append, boxV_i, boxV_dot, sto_dot, ap_conv, convV_int, bslV_0, fstep_d0, fstep_d1, bsl_dot, ae_appz, ap_cap, capV_nils, slcV_nils0, slcV_sl0, wrap_0, ae_clr, boxV_f, fstep_f, lod_new2, ↓st_appf, q_known]
  all_goals exact hK25
theorem q_compacts_bad (cl : Bool) {s : St} {v w : AV} {X : DCx} (hv : read dotC s v = some X.v) (hw : read dotC s w = some X.c) (hlv : X.v.length ≤ 80000) (hlw : X.c.length ≤ 80000) {v' w' : AV} {Y : DCx} (kv : read dotC s v' = some Y.v) (kw : read dotC s w' = some Y.c) (klv : Y.v.length ≤ 80000) (klw : Y.c.length ≤ 80000) (e2 : Int) (hcv : cvalid X = false) : acall R_compacts cl [.agg [v, w], .agg [v', w'], .int .i64 e2] s = some (.bool (decide ((⟨[], []⟩ : DCx) = Y) && decide (2 = e2)), s) := run_same n_compacts (by simp [a14]) rfl (w_compacts_bad (s := lowd s) (read_low' hv) (read_low' hw) hlv hlw (read_low' kv) (read_low' kw) klv klw e2 hcv)
noncomputable def R_made : Con := runFn (tb [(48, R_COf), (28, R_gives)]) a22
theorem s_made : SoundAt Tryz.prog 22 R_made := run_sound (tb_sound (l := [(48, R_COf), (28, R_gives)]) (by simpa using ⟨s_COf, s_gives⟩)) mixed Tryz.func22 k22 c22
theorem n_made : noNxtC a22.body = true := by kernel_rfl
theorem w_made {s : St} {u1 : AV} {l : List Dot} (hru : read dotC s u1 = some l) (hlu : l.length ≤ 80000) {v' w' : AV} {Y : DCx} (kv : read dotC s v' = some Y.v) (kw : read dotC s w' = some Y.c) (klv : Y.v.length ≤ 80000) (klw : Y.c.length ≤ 80000) (e2 : Int) (hok : l.all Dot.valid = true) : ∀ env : Env, elen env = a22.ntmps → (∀ i x_, [u1, .agg [v', w'], .int .i64 e2][i]? = some x_ → E env i = x_) → awp (tb [(48, R_COf), (28, R_gives)]) a22.body (fun x e t => (∀ i, x ≠ .exit i) ∧ aresults e t a22.results = some (.bool (decide (addC ⟨[], []⟩ l = Y) && decide (0 = e2))) ∧ Keep s t) env s := by
  intro env hlen ha
  have h0 : E env 0 = _ := ha 0 _ rfl
  have h1 : E env 1 = _ := ha 1 _ rfl
  have h2 : E env 2 = _ := ha 2 _ rfl
  have hlen : elen env = _ := hlen
  simp only [a22] at hlen
  unfold a22
  try dsimp only [oO, oG]
  have hby := boxV_2 (read_oneD kv).2 (read_oneD kw).2
  have hK2 : Keep s (s.push (.row [v', w'] true)) := (Keep.refl s).push _
  obtain ⟨vv, cc, t1, q1, hR1, hK4⟩ := q_COf (hK2.read hru) hlu hok
  have hal := add_len ⟨[], []⟩ l
  simp only [List.length_nil, Nat.zero_add] at hal
  have hst := sto_ctx (show sameN t1.next t1 from rfl) (read_oneD hR1.1).2 (read_oneD hR1.2).2
  have hK5 : Keep t1 (t1.lowed.push (.row [vv, cc] true)) := (Keep.refl t1).lowed.push _
  obtain ⟨d1', d2', d3', d4'⟩ := box_ctx s v' w' (hK4.trans hK5)
  have hR5 := hR1.keep hK5
  have hK25 := hK2.trans (hK4.trans hK5)
  have q3 := q_gives false hR5.1 hR5.2 (by unfold lim; omega) (by unfold lim; omega) (hK25.read kv) (hK25.read kw) (by unfold lim; omega) (by unfold lim; omega) 0 e2
  simp (config := {contextual := true, maxDischargeDepth := 12}) only [tb_at, h0, h1, h2, hlen, hby, d1', d4', q1, hst, q3, ↓bD, bU, forall_const, List.all_cons, List.all_nil, Option.map_some, List.map_cons, List.map_nil, ne_eq, implies_true, isNx, eq_self, ↓wp_cond, ↓wp_loop, ↓reduceIte, reduceCtorEq, Nat.reduceEqDiff, Nat.reduceLT, Nat.reduceAdd, Nat.reduceMul, Int.ofNat_lt, Int.ofNat_le, exists_const, Option.map_none, beq_self_eq_true, decide_true, ↓sg_bsl, ↓st_callf, bX, ap_mkfn, ae_callvV, callvV_fn, List.cons_append, List.nil_append, boxV_i, boxV_dot, sto_dot, ap_conv, convV_int, bslV_0, fstep_d0, fstep_d1, bsl_dot, ae_appz, ap_cap, capV_nils, slcV_nils0, slcV_sl0, wrap_0, ae_clr, boxV_f, fstep_f, lod_new2, ↓st_appf, q_known]
  all_goals exact hK25
theorem q_made (cl : Bool) {s : St} {u1 : AV} {l : List Dot} (hru : read dotC s u1 = some l) (hlu : l.length ≤ 80000) {v' w' : AV} {Y : DCx} (kv : read dotC s v' = some Y.v) (kw : read dotC s w' = some Y.c) (klv : Y.v.length ≤ 80000) (klw : Y.c.length ≤ 80000) (e2 : Int) (hok : l.all Dot.valid = true) : acall R_made cl [u1, .agg [v', w'], .int .i64 e2] s = some (.bool (decide (addC ⟨[], []⟩ l = Y) && decide (0 = e2)), s) := run_same n_made (by simp [a22]) rfl (w_made (s := lowd s) (read_low' hru) hlu (read_low' kv) (read_low' kw) klv klw e2 hok)
theorem w_made_bad {s : St} {u1 : AV} {l : List Dot} (hru : read dotC s u1 = some l) (hlu : l.length ≤ 80000) {v' w' : AV} {Y : DCx} (kv : read dotC s v' = some Y.v) (kw : read dotC s w' = some Y.c) (klv : Y.v.length ≤ 80000) (klw : Y.c.length ≤ 80000) (e2 : Int) (hbad : l.all Dot.valid = false) : ∀ env : Env, elen env = a22.ntmps → (∀ i x_, [u1, .agg [v', w'], .int .i64 e2][i]? = some x_ → E env i = x_) → awp (tb [(48, R_COf), (28, R_gives)]) a22.body (fun x e t => (∀ i, x ≠ .exit i) ∧ aresults e t a22.results = some (.bool (decide ((⟨[], []⟩ : DCx) = Y) && decide (2 = e2))) ∧ Keep s t) env s := by
  intro env hlen ha
  have h0 : E env 0 = _ := ha 0 _ rfl
  have h1 : E env 1 = _ := ha 1 _ rfl
  have h2 : E env 2 = _ := ha 2 _ rfl
  have hlen : elen env = _ := hlen
  simp only [a22] at hlen
  unfold a22
  try dsimp only [oO, oG]
  have hby := boxV_2 (read_oneD kv).2 (read_oneD kw).2
  have hK2 : Keep s (s.push (.row [v', w'] true)) := (Keep.refl s).push _
  have q1 := q_COf_bad false (hK2.read hru) hlu hbad
  have hst := sto_ctx (show sameN (s.push (.row [v', w'] true)).next (s.push (.row [v', w'] true)) from rfl) (a := .nils) (b := .nils) rfl rfl
  have hK5 : Keep (s.push (.row [v', w'] true)) ((s.push (.row [v', w'] true)).lowed.push (.row [.nils, .nils] true)) := (Keep.refl _).lowed.push _
  obtain ⟨d1', d2', d3', d4'⟩ := box_ctx (s) v' w' hK5
  have hK25 := hK2.trans hK5
  have q3 := q_gives false (s := (s.push (.row [v', w'] true)).lowed.push (.row [.nils, .nils] true)) (X := ⟨[], []⟩) (read_nils dotC _) (read_nils dotC _) (by simp) (by simp) (hK25.read kv) (hK25.read kw) (by unfold lim; omega) (by unfold lim; omega) 2 e2
  simp (config := {contextual := true, maxDischargeDepth := 12}) only [tb_at, h0, h1, h2, hlen, hby, d1', d4', q1, hst, q3, ↓bD, bU, forall_const, List.all_cons, List.all_nil, Option.map_some, List.map_cons, List.map_nil, ne_eq, implies_true, isNx, eq_self, ↓wp_cond, ↓wp_loop, ↓reduceIte, reduceCtorEq, Nat.reduceEqDiff, Nat.reduceLT, Nat.reduceAdd, Nat.reduceMul, Int.ofNat_lt, Int.ofNat_le, exists_const, Option.map_none, beq_self_eq_true, decide_true, ↓sg_bsl, ↓st_callf, bX, ap_mkfn, ae_callvV, callvV_fn, List.cons_append, List.nil_append, boxV_i, boxV_dot, sto_dot, ap_conv, convV_int, bslV_0, fstep_d0, fstep_d1, bsl_dot, ae_appz, ap_cap, capV_nils, slcV_nils0, slcV_sl0, wrap_0, ae_clr, boxV_f, fstep_f, lod_new2, ↓st_appf, q_known]
  all_goals exact hK25
theorem q_made_bad (cl : Bool) {s : St} {u1 : AV} {l : List Dot} (hru : read dotC s u1 = some l) (hlu : l.length ≤ 80000) {v' w' : AV} {Y : DCx} (kv : read dotC s v' = some Y.v) (kw : read dotC s w' = some Y.c) (klv : Y.v.length ≤ 80000) (klw : Y.c.length ≤ 80000) (e2 : Int) (hbad : l.all Dot.valid = false) : acall R_made cl [u1, .agg [v', w'], .int .i64 e2] s = some (.bool (decide ((⟨[], []⟩ : DCx) = Y) && decide (2 = e2)), s) := run_same n_made (by simp [a22]) rfl (w_made_bad (s := lowd s) (read_low' hru) hlu (read_low' kv) (read_low' kw) klv klw e2 hbad)
noncomputable def R_added : Con := runFn (tb [(49, R_CAdd), (28, R_gives)]) a23
theorem s_added : SoundAt Tryz.prog 23 R_added := run_sound (tb_sound (l := [(49, R_CAdd), (28, R_gives)]) (by simpa using ⟨s_CAdd, s_gives⟩)) mixed Tryz.func23 k23 c23
theorem n_added : noNxtC a23.body = true := by kernel_rfl
theorem w_added {s : St} {v w : AV} {X : DCx} (hv : read dotC s v = some X.v) (hw : read dotC s w = some X.c) (hlv : X.v.length ≤ 80000) (hlw : X.c.length ≤ 80000) {v' w' : AV} {Y : DCx} (kv : read dotC s v' = some Y.v) (kw : read dotC s w' = some Y.c) (klv : Y.v.length ≤ 80000) (klw : Y.c.length ≤ 80000) {u1 : AV} {l : List Dot} (hru : read dotC s u1 = some l) (hlu : l.length ≤ 80000) (e2 : Int) (hcv : cvalid X = true) (hok : l.all Dot.valid = true) : ∀ env : Env, elen env = a23.ntmps → (∀ i x_, [.agg [v, w], u1, .agg [v', w'], .int .i64 e2][i]? = some x_ → E env i = x_) → awp (tb [(49, R_CAdd), (28, R_gives)]) a23.body (fun x e t => (∀ i, x ≠ .exit i) ∧ aresults e t a23.results = some (.bool (decide (addC X l = Y) && decide (0 = e2))) ∧ Keep s t) env s := by
  intro env hlen ha
  have h0 : E env 0 = _ := ha 0 _ rfl
  have h1 : E env 1 = _ := ha 1 _ rfl
  have h2 : E env 2 = _ := ha 2 _ rfl
  have h3 : E env 3 = _ := ha 3 _ rfl
  have hlen : elen env = _ := hlen
  simp only [a23] at hlen
  unfold a23
  try dsimp only [oO, oG]
  have hbx := boxV_2 (read_oneD hv).2 (read_oneD hw).2
  have hby := boxV_2 (read_oneD kv).2 (read_oneD kw).2
  have hK2 : Keep s ((s.push (.row [v, w] true)).push (.row [v', w'] true)) := ((Keep.refl s).push _).push _
  have hKx : Keep (s.push (.row [v, w] true)) ((s.push (.row [v, w] true)).push (.row [v', w'] true)) := (Keep.refl _).push _
  obtain ⟨c1, c2, c3, c4⟩ := box_ctx s v w hKx
  obtain ⟨d1, d2, d3, d4⟩ := box_ctx (s.push (.row [v, w] true)) v' w' (.refl _)
  obtain ⟨vv, cc, t1, q1, hR1, hK4⟩ := q_CAdd (hK2.read hv) (hK2.read hw) hlv hlw (hK2.read hru) hlu hcv hok
  have hal := add_len X l
  have hst := sto_ctx (show sameN t1.next t1 from rfl) (read_oneD hR1.1).2 (read_oneD hR1.2).2
  have hK5 : Keep t1 (t1.lowed.push (.row [vv, cc] true)) := (Keep.refl t1).lowed.push _
  obtain ⟨d1', d2', d3', d4'⟩ := box_ctx (s.push (.row [v, w] true)) v' w' (hK4.trans hK5)
  have hR5 := hR1.keep hK5
  have hK25 := hK2.trans (hK4.trans hK5)
  have q3 := q_gives false hR5.1 hR5.2 (by unfold lim; omega) (by unfold lim; omega) (hK25.read kv) (hK25.read kw) (by unfold lim; omega) (by unfold lim; omega) 0 e2
  simp (config := {contextual := true, maxDischargeDepth := 12}) only [tb_at, h0, h1, h2, h3, hlen, hbx, hby, c1, c2, c3, c4, d1, d2, d3, d4, d1', d4', q1, hst, q3, ↓bD, bU, forall_const, List.all_cons, List.all_nil, Option.map_some, List.map_cons, List.map_nil, ne_eq, implies_true, isNx, eq_self, ↓wp_cond, ↓wp_loop, ↓reduceIte, reduceCtorEq, Nat.reduceEqDiff, Nat.reduceLT, Nat.reduceAdd, Nat.reduceMul, Int.ofNat_lt, Int.ofNat_le, exists_const, Option.map_none, beq_self_eq_true, decide_true, ↓sg_bsl, ↓st_callf, bX, ap_mkfn, ae_callvV, callvV_fn, List.cons_append, List.nil_append, boxV_i, boxV_dot, sto_dot, ap_conv, convV_int, bslV_0, fstep_d0, fstep_d1, bsl_dot, ae_appz, ap_cap, capV_nils, slcV_nils0, slcV_sl0, wrap_0, ae_clr, boxV_f, fstep_f, lod_new2, ↓st_appf, q_known]
  all_goals exact hK25
theorem q_added (cl : Bool) {s : St} {v w : AV} {X : DCx} (hv : read dotC s v = some X.v) (hw : read dotC s w = some X.c) (hlv : X.v.length ≤ 80000) (hlw : X.c.length ≤ 80000) {v' w' : AV} {Y : DCx} (kv : read dotC s v' = some Y.v) (kw : read dotC s w' = some Y.c) (klv : Y.v.length ≤ 80000) (klw : Y.c.length ≤ 80000) {u1 : AV} {l : List Dot} (hru : read dotC s u1 = some l) (hlu : l.length ≤ 80000) (e2 : Int) (hcv : cvalid X = true) (hok : l.all Dot.valid = true) : acall R_added cl [.agg [v, w], u1, .agg [v', w'], .int .i64 e2] s = some (.bool (decide (addC X l = Y) && decide (0 = e2)), s) := run_same n_added (by simp [a23]) rfl (w_added (s := lowd s) (read_low' hv) (read_low' hw) hlv hlw (read_low' kv) (read_low' kw) klv klw (read_low' hru) hlu e2 hcv hok)
theorem w_added_bad {s : St} {v w : AV} {X : DCx} (hv : read dotC s v = some X.v) (hw : read dotC s w = some X.c) (hlv : X.v.length ≤ 80000) (hlw : X.c.length ≤ 80000) {v' w' : AV} {Y : DCx} (kv : read dotC s v' = some Y.v) (kw : read dotC s w' = some Y.c) (klv : Y.v.length ≤ 80000) (klw : Y.c.length ≤ 80000) {u1 : AV} {l : List Dot} (hru : read dotC s u1 = some l) (hlu : l.length ≤ 80000) (e2 : Int) (hbad : (cvalid X && l.all Dot.valid) = false) : ∀ env : Env, elen env = a23.ntmps → (∀ i x_, [.agg [v, w], u1, .agg [v', w'], .int .i64 e2][i]? = some x_ → E env i = x_) → awp (tb [(49, R_CAdd), (28, R_gives)]) a23.body (fun x e t => (∀ i, x ≠ .exit i) ∧ aresults e t a23.results = some (.bool (decide ((⟨[], []⟩ : DCx) = Y) && decide (2 = e2))) ∧ Keep s t) env s := by
  intro env hlen ha
  have h0 : E env 0 = _ := ha 0 _ rfl
  have h1 : E env 1 = _ := ha 1 _ rfl
  have h2 : E env 2 = _ := ha 2 _ rfl
  have h3 : E env 3 = _ := ha 3 _ rfl
  have hlen : elen env = _ := hlen
  simp only [a23] at hlen
  unfold a23
  try dsimp only [oO, oG]
  have hbx := boxV_2 (read_oneD hv).2 (read_oneD hw).2
  have hby := boxV_2 (read_oneD kv).2 (read_oneD kw).2
  have hK2 : Keep s ((s.push (.row [v, w] true)).push (.row [v', w'] true)) := ((Keep.refl s).push _).push _
  have hKx : Keep (s.push (.row [v, w] true)) ((s.push (.row [v, w] true)).push (.row [v', w'] true)) := (Keep.refl _).push _
  obtain ⟨c1, c2, c3, c4⟩ := box_ctx s v w hKx
  obtain ⟨d1, d2, d3, d4⟩ := box_ctx (s.push (.row [v, w] true)) v' w' (.refl _)
  have q1 := q_CAdd_bad false (hK2.read hv) (hK2.read hw) hlv hlw (hK2.read hru) hlu hbad
  have hst := sto_ctx (show sameN ((s.push (.row [v, w] true)).push (.row [v', w'] true)).next ((s.push (.row [v, w] true)).push (.row [v', w'] true)) from rfl) (a := .nils) (b := .nils) rfl rfl
  have hK5 : Keep ((s.push (.row [v, w] true)).push (.row [v', w'] true)) (((s.push (.row [v, w] true)).push (.row [v', w'] true)).lowed.push (.row [.nils, .nils] true)) := (Keep.refl _).lowed.push _
  obtain ⟨d1', d2', d3', d4'⟩ := box_ctx (s.push (.row [v, w] true)) v' w' hK5
  have hK25 := hK2.trans hK5
  have q3 := q_gives false (s := ((s.push (.row [v, w] true)).push (.row [v', w'] true)).lowed.push (.row [.nils, .nils] true)) (X := ⟨[], []⟩) (read_nils dotC _) (read_nils dotC _) (by simp) (by simp) (hK25.read kv) (hK25.read kw) (by unfold lim; omega) (by unfold lim; omega) 2 e2
  simp (config := {contextual := true, maxDischargeDepth := 12}) only [tb_at, h0, h1, h2, h3, hlen, hbx, hby, c1, c2, c3, c4, d1, d2, d3, d4, d1', d4', q1, hst, q3, ↓bD, bU, forall_const, List.all_cons, List.all_nil, Option.map_some, List.map_cons, List.map_nil, ne_eq, implies_true, isNx, eq_self, ↓wp_cond, ↓wp_loop, ↓reduceIte, reduceCtorEq, Nat.reduceEqDiff, Nat.reduceLT, Nat.reduceAdd, Nat.reduceMul, Int.ofNat_lt, Int.ofNat_le, exists_const, Option.map_none, beq_self_eq_true, decide_true, ↓sg_bsl, ↓st_callf, bX, ap_mkfn, ae_callvV, callvV_fn, List.cons_append, List.nil_append, boxV_i, boxV_dot, sto_dot, ap_conv, convV_int, bslV_0, fstep_d0, fstep_d1, bsl_dot, ae_appz, ap_cap, capV_nils, slcV_nils0, slcV_sl0, wrap_0, ae_clr, boxV_f, fstep_f, lod_new2, ↓st_appf, q_known]
  all_goals exact hK25
theorem q_added_bad (cl : Bool) {s : St} {v w : AV} {X : DCx} (hv : read dotC s v = some X.v) (hw : read dotC s w = some X.c) (hlv : X.v.length ≤ 80000) (hlw : X.c.length ≤ 80000) {v' w' : AV} {Y : DCx} (kv : read dotC s v' = some Y.v) (kw : read dotC s w' = some Y.c) (klv : Y.v.length ≤ 80000) (klw : Y.c.length ≤ 80000) {u1 : AV} {l : List Dot} (hru : read dotC s u1 = some l) (hlu : l.length ≤ 80000) (e2 : Int) (hbad : (cvalid X && l.all Dot.valid) = false) : acall R_added cl [.agg [v, w], u1, .agg [v', w'], .int .i64 e2] s = some (.bool (decide ((⟨[], []⟩ : DCx) = Y) && decide (2 = e2)), s) := run_same n_added (by simp [a23]) rfl (w_added_bad (s := lowd s) (read_low' hv) (read_low' hw) hlv hlw (read_low' kv) (read_low' kw) klv klw (read_low' hru) hlu e2 hbad)
noncomputable def R_united : Con := runFn (tb [(27, R_CUnion), (28, R_gives)]) a7
theorem s_united : SoundAt Tryz.prog 7 R_united := run_sound (tb_sound (l := [(27, R_CUnion), (28, R_gives)]) (by simpa using ⟨s_CUnion, s_gives⟩)) mixed Tryz.func7 k7 c7
theorem n_united : noNxtC a7.body = true := by kernel_rfl
theorem w_united {s : St} {v w : AV} {X : DCx} (hv : read dotC s v = some X.v) (hw : read dotC s w = some X.c) (hlv : X.v.length ≤ 80000) (hlw : X.c.length ≤ 80000) {v' w' : AV} {Y : DCx} (kv : read dotC s v' = some Y.v) (kw : read dotC s w' = some Y.c) (klv : Y.v.length ≤ 80000) (klw : Y.c.length ≤ 80000) {v3 w3 : AV} {Z : DCx} (mv : read dotC s v3 = some Z.v) (mw : read dotC s w3 = some Z.c) (mlv : Z.v.length ≤ 80000) (mlw : Z.c.length ≤ 80000) (e2 : Int) (hcx : cvalid X = true) (hcy : cvalid Y = true) : ∀ env : Env, elen env = a7.ntmps → (∀ i x_, [.agg [v, w], .agg [v', w'], .agg [v3, w3], .int .i64 e2][i]? = some x_ → E env i = x_) → awp (tb [(27, R_CUnion), (28, R_gives)]) a7.body (fun x e t => (∀ i, x ≠ .exit i) ∧ aresults e t a7.results = some (.bool (decide (uniC X Y = Z) && decide (0 = e2))) ∧ Keep s t) env s := by
  intro env hlen ha
  have h0 : E env 0 = _ := ha 0 _ rfl
  have h1 : E env 1 = _ := ha 1 _ rfl
  have h2 : E env 2 = _ := ha 2 _ rfl
  have h3 : E env 3 = _ := ha 3 _ rfl
  have hlen : elen env = _ := hlen
  simp only [a7] at hlen
  unfold a7
  try dsimp only [oO, oG]
  have hbx := boxV_2 (read_oneD hv).2 (read_oneD hw).2
  have hby := boxV_2 (read_oneD kv).2 (read_oneD kw).2
  have hbz := boxV_2 (read_oneD mv).2 (read_oneD mw).2
  have hk1 : Keep s (s.push (.row [v, w] true)) := (Keep.refl s).push _
  have hk2 : Keep (s.push (.row [v, w] true)) ((s.push (.row [v, w] true)).push (.row [v', w'] true)) := (Keep.refl _).push _
  have hk3 : Keep ((s.push (.row [v, w] true)).push (.row [v', w'] true)) (((s.push (.row [v, w] true)).push (.row [v', w'] true)).push (.row [v3, w3] true)) := (Keep.refl _).push _
  have hK2 := hk1.trans (hk2.trans hk3)
  obtain ⟨c1, c2, c3, c4⟩ := box_ctx s v w (hk2.trans hk3)
  obtain ⟨d1, d2, d3, d4⟩ := box_ctx (s.push (.row [v, w] true)) v' w' hk3
  obtain ⟨f1, f2, f3, f4⟩ := box_ctx ((s.push (.row [v, w] true)).push (.row [v', w'] true)) v3 w3 (.refl _)
  obtain ⟨vv, cc, t1, q1, hR1, hK4⟩ := q_CUnion (hK2.read hv) (hK2.read hw) hlv hlw (hK2.read kv) (hK2.read kw) klv klw hcx hcy
  have hal := uni_len X Y
  have hst := sto_ctx (show sameN t1.next t1 from rfl) (read_oneD hR1.1).2 (read_oneD hR1.2).2
  have hK5 : Keep t1 (t1.lowed.push (.row [vv, cc] true)) := (Keep.refl t1).lowed.push _
  obtain ⟨f1', f2', f3', f4'⟩ := box_ctx ((s.push (.row [v, w] true)).push (.row [v', w'] true)) v3 w3 (hK4.trans hK5)
  have hR5 := hR1.keep hK5
  have hK25 := hK2.trans (hK4.trans hK5)
  have q3 := q_gives false hR5.1 hR5.2 (by unfold lim; omega) (by unfold lim; omega) (hK25.read mv) (hK25.read mw) (by unfold lim; omega) (by unfold lim; omega) 0 e2
  simp (config := {contextual := true, maxDischargeDepth := 12}) only [tb_at, h0, h1, h2, h3, hlen, hbx, hby, hbz, c1, c2, c3, c4, d1, d2, d3, d4, f1, f2, f3, f4, f1', f4', q1, hst, q3, ↓bD, bU, forall_const, List.all_cons, List.all_nil, Option.map_some, List.map_cons, List.map_nil, ne_eq, implies_true, isNx, eq_self, ↓wp_cond, ↓wp_loop, ↓reduceIte, reduceCtorEq, Nat.reduceEqDiff, Nat.reduceLT, Nat.reduceAdd, Nat.reduceMul, Int.ofNat_lt, Int.ofNat_le, exists_const, Option.map_none, beq_self_eq_true, decide_true, ↓sg_bsl, ↓st_callf, bX, ap_mkfn, ae_callvV, callvV_fn, List.cons_append, List.nil_append, boxV_i, boxV_dot, sto_dot, ap_conv, convV_int, bslV_0, fstep_d0, fstep_d1, bsl_dot, ae_appz, ap_cap, capV_nils, slcV_nils0, slcV_sl0, wrap_0, ae_clr, boxV_f, fstep_f, lod_new2, ↓st_appf, q_known]
  all_goals exact hK25
theorem q_united (cl : Bool) {s : St} {v w : AV} {X : DCx} (hv : read dotC s v = some X.v) (hw : read dotC s w = some X.c) (hlv : X.v.length ≤ 80000) (hlw : X.c.length ≤ 80000) {v' w' : AV} {Y : DCx} (kv : read dotC s v' = some Y.v) (kw : read dotC s w' = some Y.c) (klv : Y.v.length ≤ 80000) (klw : Y.c.length ≤ 80000) {v3 w3 : AV} {Z : DCx} (mv : read dotC s v3 = some Z.v) (mw : read dotC s w3 = some Z.c) (mlv : Z.v.length ≤ 80000) (mlw : Z.c.length ≤ 80000) (e2 : Int) (hcx : cvalid X = true) (hcy : cvalid Y = true) : acall R_united cl [.agg [v, w], .agg [v', w'], .agg [v3, w3], .int .i64 e2] s = some (.bool (decide (uniC X Y = Z) && decide (0 = e2)), s) := run_same n_united (by simp [a7]) rfl (w_united (s := lowd s) (read_low' hv) (read_low' hw) hlv hlw (read_low' kv) (read_low' kw) klv klw (read_low' mv) (read_low' mw) mlv mlw e2 hcx hcy)
theorem w_united_bad {s : St} {v w : AV} {X : DCx} (hv : read dotC s v = some X.v) (hw : read dotC s w = some X.c) (hlv : X.v.length ≤ 80000) (hlw : X.c.length ≤ 80000) {v' w' : AV} {Y : DCx} (kv : read dotC s v' = some Y.v) (kw : read dotC s w' = some Y.c) (klv : Y.v.length ≤ 80000) (klw : Y.c.length ≤ 80000) {v3 w3 : AV} {Z : DCx} (mv : read dotC s v3 = some Z.v) (mw : read dotC s w3 = some Z.c) (mlv : Z.v.length ≤ 80000) (mlw : Z.c.length ≤ 80000) (e2 : Int) (hbad : (cvalid X && cvalid Y) = false) : ∀ env : Env, elen env = a7.ntmps → (∀ i x_, [.agg [v, w], .agg [v', w'], .agg [v3, w3], .int .i64 e2][i]? = some x_ → E env i = x_) → awp (tb [(27, R_CUnion), (28, R_gives)]) a7.body (fun x e t => (∀ i, x ≠ .exit i) ∧ aresults e t a7.results = some (.bool (decide ((⟨[], []⟩ : DCx) = Z) && decide (2 = e2))) ∧ Keep s t) env s := by
  intro env hlen ha
  have h0 : E env 0 = _ := ha 0 _ rfl
  have h1 : E env 1 = _ := ha 1 _ rfl
  have h2 : E env 2 = _ := ha 2 _ rfl
  have h3 : E env 3 = _ := ha 3 _ rfl
  have hlen : elen env = _ := hlen
  simp only [a7] at hlen
  unfold a7
  try dsimp only [oO, oG]
  have hbx := boxV_2 (read_oneD hv).2 (read_oneD hw).2
  have hby := boxV_2 (read_oneD kv).2 (read_oneD kw).2
  have hbz := boxV_2 (read_oneD mv).2 (read_oneD mw).2
  have hk1 : Keep s (s.push (.row [v, w] true)) := (Keep.refl s).push _
  have hk2 : Keep (s.push (.row [v, w] true)) ((s.push (.row [v, w] true)).push (.row [v', w'] true)) := (Keep.refl _).push _
  have hk3 : Keep ((s.push (.row [v, w] true)).push (.row [v', w'] true)) (((s.push (.row [v, w] true)).push (.row [v', w'] true)).push (.row [v3, w3] true)) := (Keep.refl _).push _
  have hK2 := hk1.trans (hk2.trans hk3)
  obtain ⟨c1, c2, c3, c4⟩ := box_ctx s v w (hk2.trans hk3)
  obtain ⟨d1, d2, d3, d4⟩ := box_ctx (s.push (.row [v, w] true)) v' w' hk3
  obtain ⟨f1, f2, f3, f4⟩ := box_ctx ((s.push (.row [v, w] true)).push (.row [v', w'] true)) v3 w3 (.refl _)
  have q1 := q_CUnion_bad false (hK2.read hv) (hK2.read hw) hlv hlw (hK2.read kv) (hK2.read kw) klv klw hbad
  have hst := sto_ctx (show sameN (((s.push (.row [v, w] true)).push (.row [v', w'] true)).push (.row [v3, w3] true)).next (((s.push (.row [v, w] true)).push (.row [v', w'] true)).push (.row [v3, w3] true)) from rfl) (a := .nils) (b := .nils) rfl rfl
  have hK5 : Keep (((s.push (.row [v, w] true)).push (.row [v', w'] true)).push (.row [v3, w3] true)) ((((s.push (.row [v, w] true)).push (.row [v', w'] true)).push (.row [v3, w3] true)).lowed.push (.row [.nils, .nils] true)) := (Keep.refl _).lowed.push _
  obtain ⟨f1', f2', f3', f4'⟩ := box_ctx ((s.push (.row [v, w] true)).push (.row [v', w'] true)) v3 w3 hK5
  have hK25 := hK2.trans hK5
  have q3 := q_gives false (s := (((s.push (.row [v, w] true)).push (.row [v', w'] true)).push (.row [v3, w3] true)).lowed.push (.row [.nils, .nils] true)) (X := ⟨[], []⟩) (read_nils dotC _) (read_nils dotC _) (by simp) (by simp) (hK25.read mv) (hK25.read mw) (by unfold lim; omega) (by unfold lim; omega) 2 e2
  simp (config := {contextual := true, maxDischargeDepth := 12}) only [tb_at, h0, h1, h2, h3, hlen, hbx, hby, hbz, c1, c2, c3, c4, d1, d2, d3, d4, f1, f2, f3, f4, f1', f4', q1, hst, q3, ↓bD, bU, forall_const, List.all_cons, List.all_nil, Option.map_some, List.map_cons, List.map_nil, ne_eq, implies_true, isNx, eq_self, ↓wp_cond, ↓wp_loop, ↓reduceIte, reduceCtorEq, Nat.reduceEqDiff, Nat.reduceLT, Nat.reduceAdd, Nat.reduceMul, Int.ofNat_lt, Int.ofNat_le, exists_const, Option.map_none, beq_self_eq_true, decide_true, ↓sg_bsl, ↓st_callf, bX, ap_mkfn, ae_callvV, callvV_fn, List.cons_append, List.nil_append, boxV_i, boxV_dot, sto_dot, ap_conv, convV_int, bslV_0, fstep_d0, fstep_d1, bsl_dot, ae_appz, ap_cap, capV_nils, slcV_nils0, slcV_sl0, wrap_0, ae_clr, boxV_f, fstep_f, lod_new2, ↓st_appf, q_known]
  all_goals exact hK25
theorem q_united_bad (cl : Bool) {s : St} {v w : AV} {X : DCx} (hv : read dotC s v = some X.v) (hw : read dotC s w = some X.c) (hlv : X.v.length ≤ 80000) (hlw : X.c.length ≤ 80000) {v' w' : AV} {Y : DCx} (kv : read dotC s v' = some Y.v) (kw : read dotC s w' = some Y.c) (klv : Y.v.length ≤ 80000) (klw : Y.c.length ≤ 80000) {v3 w3 : AV} {Z : DCx} (mv : read dotC s v3 = some Z.v) (mw : read dotC s w3 = some Z.c) (mlv : Z.v.length ≤ 80000) (mlw : Z.c.length ≤ 80000) (e2 : Int) (hbad : (cvalid X && cvalid Y) = false) : acall R_united cl [.agg [v, w], .agg [v', w'], .agg [v3, w3], .int .i64 e2] s = some (.bool (decide ((⟨[], []⟩ : DCx) = Z) && decide (2 = e2)), s) := run_same n_united (by simp [a7]) rfl (w_united_bad (s := lowd s) (read_low' hv) (read_low' hw) hlv hlw (read_low' kv) (read_low' kw) klv klw (read_low' mv) (read_low' mw) mlv mlw e2 hbad)
noncomputable def R_hwithin : Con := runFn (tb [(29, R_CWithin)]) a8
theorem s_hwithin : SoundAt Tryz.prog 8 R_hwithin := run_sound (tb_sound (l := [(29, R_CWithin)]) (by simpa using s_CWithin)) mixed Tryz.func8 k8 c8
theorem n_hwithin : noNxtC a8.body = true := by kernel_rfl
theorem w_hwithin {s : St} {v w : AV} {X : DCx} (hv : read dotC s v = some X.v) (hw : read dotC s w = some X.c) (hlv : X.v.length ≤ 80000) (hlw : X.c.length ≤ 80000) {v' w' : AV} {Y : DCx} (kv : read dotC s v' = some Y.v) (kw : read dotC s w' = some Y.c) (klv : Y.v.length ≤ 80000) (klw : Y.c.length ≤ 80000) (b2 : Bool) (e2 : Int) (hcx : cvalid X = true) (hcy : cvalid Y = true) : ∀ env : Env, elen env = a8.ntmps → (∀ i x_, [.agg [v, w], .agg [v', w'], .bool b2, .int .i64 e2][i]? = some x_ → E env i = x_) → awp (tb [(29, R_CWithin)]) a8.body (fun x e t => (∀ i, x ≠ .exit i) ∧ aresults e t a8.results = some (.bool ((decide (uniC X Y = compC Y) == b2) && decide (0 = e2))) ∧ Keep s t) env s := by
  intro env hlen ha
  have h0 : E env 0 = _ := ha 0 _ rfl
  have h1 : E env 1 = _ := ha 1 _ rfl
  have h2 : E env 2 = _ := ha 2 _ rfl
  have h3 : E env 3 = _ := ha 3 _ rfl
  have hlen : elen env = _ := hlen
  simp only [a8] at hlen
  unfold a8
  try dsimp only [oO, oG]
  have hbx := boxV_2 (read_oneD hv).2 (read_oneD hw).2
  have hby := boxV_2 (read_oneD kv).2 (read_oneD kw).2
  have hK2 : Keep s ((s.push (.row [v, w] true)).push (.row [v', w'] true)) := ((Keep.refl s).push _).push _
  have hKx : Keep (s.push (.row [v, w] true)) ((s.push (.row [v, w] true)).push (.row [v', w'] true)) := (Keep.refl _).push _
  obtain ⟨c1, c2, c3, c4⟩ := box_ctx s v w hKx
  obtain ⟨d1, d2, d3, d4⟩ := box_ctx (s.push (.row [v, w] true)) v' w' (.refl _)
  have q1 := q_CWithin false (hK2.read hv) (hK2.read hw) hlv hlw (hK2.read kv) (hK2.read kw) klv klw hcx hcy
  simp (config := {contextual := true, maxDischargeDepth := 12}) only [tb_at, h0, h1, h2, h3, hlen, hbx, hby, c1, c2, c3, c4, d1, d2, d3, d4, q1, bin_eqb, ↓bD, bU, forall_const, List.all_cons, List.all_nil, Option.map_some, List.map_cons, List.map_nil, ne_eq, implies_true, isNx, eq_self, ↓wp_cond, ↓wp_loop, ↓reduceIte, reduceCtorEq, Nat.reduceEqDiff, Nat.reduceLT, Nat.reduceAdd, Nat.reduceMul, Int.ofNat_lt, Int.ofNat_le, exists_const, Option.map_none, beq_self_eq_true, decide_true, ↓sg_bsl, ↓st_callf, bX, ap_mkfn, ae_callvV, callvV_fn, List.cons_append, List.nil_append, boxV_i, boxV_dot, sto_dot, ap_conv, convV_int, bslV_0, fstep_d0, fstep_d1, bsl_dot, ae_appz, ap_cap, capV_nils, slcV_nils0, slcV_sl0, wrap_0, ae_clr, boxV_f, fstep_f, lod_new2, ↓st_appf, q_known]
  all_goals exact hK2
theorem q_hwithin (cl : Bool) {s : St} {v w : AV} {X : DCx} (hv : read dotC s v = some X.v) (hw : read dotC s w = some X.c) (hlv : X.v.length ≤ 80000) (hlw : X.c.length ≤ 80000) {v' w' : AV} {Y : DCx} (kv : read dotC s v' = some Y.v) (kw : read dotC s w' = some Y.c) (klv : Y.v.length ≤ 80000) (klw : Y.c.length ≤ 80000) (b2 : Bool) (e2 : Int) (hcx : cvalid X = true) (hcy : cvalid Y = true) : acall R_hwithin cl [.agg [v, w], .agg [v', w'], .bool b2, .int .i64 e2] s = some (.bool ((decide (uniC X Y = compC Y) == b2) && decide (0 = e2)), s) := run_same n_hwithin (by simp [a8]) rfl (w_hwithin (s := lowd s) (read_low' hv) (read_low' hw) hlv hlw (read_low' kv) (read_low' kw) klv klw b2 e2 hcx hcy)
theorem w_hwithin_bad {s : St} {v w : AV} {X : DCx} (hv : read dotC s v = some X.v) (hw : read dotC s w = some X.c) (hlv : X.v.length ≤ 80000) (hlw : X.c.length ≤ 80000) {v' w' : AV} {Y : DCx} (kv : read dotC s v' = some Y.v) (kw : read dotC s w' = some Y.c) (klv : Y.v.length ≤ 80000) (klw : Y.c.length ≤ 80000) (b2 : Bool) (e2 : Int) (hbad : (cvalid X && cvalid Y) = false) : ∀ env : Env, elen env = a8.ntmps → (∀ i x_, [.agg [v, w], .agg [v', w'], .bool b2, .int .i64 e2][i]? = some x_ → E env i = x_) → awp (tb [(29, R_CWithin)]) a8.body (fun x e t => (∀ i, x ≠ .exit i) ∧ aresults e t a8.results = some (.bool ((false == b2) && decide (2 = e2))) ∧ Keep s t) env s := by
  intro env hlen ha
  have h0 : E env 0 = _ := ha 0 _ rfl
  have h1 : E env 1 = _ := ha 1 _ rfl
  have h2 : E env 2 = _ := ha 2 _ rfl
  have h3 : E env 3 = _ := ha 3 _ rfl
  have hlen : elen env = _ := hlen
  simp only [a8] at hlen
  unfold a8
  try dsimp only [oO, oG]
  have hbx := boxV_2 (read_oneD hv).2 (read_oneD hw).2
  have hby := boxV_2 (read_oneD kv).2 (read_oneD kw).2
  have hK2 : Keep s ((s.push (.row [v, w] true)).push (.row [v', w'] true)) := ((Keep.refl s).push _).push _
  have hKx : Keep (s.push (.row [v, w] true)) ((s.push (.row [v, w] true)).push (.row [v', w'] true)) := (Keep.refl _).push _
  obtain ⟨c1, c2, c3, c4⟩ := box_ctx s v w hKx
  obtain ⟨d1, d2, d3, d4⟩ := box_ctx (s.push (.row [v, w] true)) v' w' (.refl _)
  have q1 := q_CWithin_bad false (hK2.read hv) (hK2.read hw) hlv hlw (hK2.read kv) (hK2.read kw) klv klw hbad
  simp (config := {contextual := true, maxDischargeDepth := 12}) only [tb_at, h0, h1, h2, h3, hlen, hbx, hby, c1, c2, c3, c4, d1, d2, d3, d4, q1, bin_eqb, ↓bD, bU, forall_const, List.all_cons, List.all_nil, Option.map_some, List.map_cons, List.map_nil, ne_eq, implies_true, isNx, eq_self, ↓wp_cond, ↓wp_loop, ↓reduceIte, reduceCtorEq, Nat.reduceEqDiff, Nat.reduceLT, Nat.reduceAdd, Nat.reduceMul, Int.ofNat_lt, Int.ofNat_le, exists_const, Option.map_none, beq_self_eq_true, decide_true, ↓sg_bsl, ↓st_callf, bX, ap_mkfn, ae_callvV, callvV_fn, List.cons_append, List.nil_append, boxV_i, boxV_dot, sto_dot, ap_conv, convV_int, bslV_0, fstep_d0, fstep_d1, bsl_dot, ae_appz, ap_cap, capV_nils, slcV_nils0, slcV_sl0, wrap_0, ae_clr, boxV_f, fstep_f, lod_new2, ↓st_appf, q_known]
  all_goals exact hK2
theorem q_hwithin_bad (cl : Bool) {s : St} {v w : AV} {X : DCx} (hv : read dotC s v = some X.v) (hw : read dotC s w = some X.c) (hlv : X.v.length ≤ 80000) (hlw : X.c.length ≤ 80000) {v' w' : AV} {Y : DCx} (kv : read dotC s v' = some Y.v) (kw : read dotC s w' = some Y.c) (klv : Y.v.length ≤ 80000) (klw : Y.c.length ≤ 80000) (b2 : Bool) (e2 : Int) (hbad : (cvalid X && cvalid Y) = false) : acall R_hwithin cl [.agg [v, w], .agg [v', w'], .bool b2, .int .i64 e2] s = some (.bool ((false == b2) && decide (2 = e2)), s) := run_same n_hwithin (by simp [a8]) rfl (w_hwithin_bad (s := lowd s) (read_low' hv) (read_low' hw) hlv hlw (read_low' kv) (read_low' kw) klv klw b2 e2 hbad)

end Go.AM
end
/-
  ContextDots and ContextMakes in the abstract machine. Own work of this project; in part printed by a program of it.
-/
section
set_option linter.unusedVariables false
set_option linter.unusedSimpArgs false
set_option maxRecDepth 100000
set_option maxHeartbeats 8000000
namespace Go.AM
open Go Go.Proofs

variable {s t u : St}

theorem sg_callf {call : Nat → List AV → St → Option (AV × St)} {base : Nat} {d : Option Nat} {r : Option Nat} {rest : List AOper} {Q : Env → St → Prop} {env : Env} {s : St} (f : Nat) (l : List AO) (t : Nat) (w : Bool) : awops call base (⟨d, .call f false l, some (t, w), r, true⟩ :: rest) Q env s = gcall s (E env t) w (acallF (call f) (l.map (aev env)) s) fun v t => awops call base rest Q (pE env d v) t := by
  rw [st_guard, st_callf]
  rfl
theorem q_CMissF {s : St} {v w : AV} {X : DCx} (hv : read dotC s v = some X.v) (hw : read dotC s w = some X.c) (hlv : X.v.length ≤ lim) (hlw : X.c.length ≤ lim) {u1 : AV} {l : List Dot} (hru : read dotC s u1 = some l) (hlu : l.length ≤ lim) : ∃ w3 t, acallF R_CMiss [.agg [v, w], u1] s = some (w3, t) ∧ read dotC t w3 = some ((setL l).filter fun d => !chas X d) ∧ Keep s t /- needs 21 -/ := by
  obtain ⟨w3, t, h1, h2, h3⟩ := q_CMiss (s := lowd s) (read_low' hv) (read_low' hw) hlv hlw (read_low' hru) hlu
  obtain ⟨t', g1, g2, g3, g4⟩ := acallF_keep h1 h3
  exact ⟨w3, t', g1, read_mono h2.read fun id b hb => by rw [g2]; exact hb, g4⟩
noncomputable def R_own : Con := runFn (tb []) a9
theorem s_own : SoundAt Tryz.prog 9 R_own := run_sound (tb_sound (l := []) (by simp)) mixed Tryz.func9 k9 c9
theorem n_own : noNxtC a9.body = true := by kernel_rfl
theorem w_own {s : St} {v w : AV} {X : DCx} (hv : read dotC s v = some X.v) (hw : read dotC s w = some X.c) (hlv : X.v.length ≤ 400000) (hlw : X.c.length ≤ 400000) : ∀ env : Env, elen env = a9.ntmps → (∀ i x_, [.agg [v, w]][i]? = some x_ → E env i = x_) → awp (tb []) a9.body (fun x e t => (∀ i, x ≠ .exit i) ∧ ∃ r, aresults e t a9.results = some r ∧ (∃ vv cc, r = .agg [vv, cc] ∧ CR t vv cc (X)) ∧ Keep s t) env s := by
  intro env hlen ha
  have h0 : E env 0 = _ := ha 0 _ rfl
  have hlen : elen env = _ := hlen
  simp only [a9] at hlen
  unfold a9
  try dsimp only [oO, oG]
  have hbx := boxV_2 (read_oneD hv).2 (read_oneD hw).2
  have hK1 : Keep s ((s.push (.row [v, w] true)).push (.row [.nils, .nils] true)) := ((Keep.refl s).push _).push _
  have hK1' : Keep (s.push (.row [v, w] true)) ((s.push (.row [v, w] true)).push (.row [.nils, .nils] true)) := (Keep.refl _).push _
  obtain ⟨c1, c2, c3, c4⟩ := box_ctx s v w hK1'
  have hst0 := sto_ctx (show sameN (s.push (.row [v, w] true)).next (s.push (.row [v, w] true)) from rfl) (a := .nils) (b := .nils) rfl rfl
  have hl0 : lod ((s.push (.row [v, w] true)).lowed.push (.row [.nils, .nils] true)) 2 (.ptr (s.push (.row [v, w] true)).next 0) = some (.agg [.nils, .nils]) := lod_row2 (St.get_push_new _ _)
  obtain ⟨w1, t1, ap1, hO1, hKa⟩ := appF_nil (hK1.read hv) (by omega)
  obtain ⟨c1', c2', c3', c4'⟩ := box_ctx s v w (hK1'.trans hKa)
  obtain ⟨w2, t2, ap2, hKb, hO2⟩ := appV_list (C := dotC) (Keep.refl t1) (.nil dotC t1 t1) ((hK1.trans hKa).read hw) 16 (by simp; unfold roomBytes; omega)
  rw [List.nil_append] at hO2
  have ap2 : appV t1 2 16 .nils w = some (w2, t2) := ap2
  have hKr := hKa.trans hKb
  have hR1 := hKb.read hO1.read
  have hone := read_oneD hR1
  have hone2 := read_oneD hO2.read
  have hf0 := fstep_s0 hone.1 hone.2 .nils .nils
  have hf1 := fstep_s1 hone2.1 hone2.2 w1 .nils
  have hR : CR t2 w1 w2 X := ⟨hR1, hO2.read⟩
  have hrb : t2.get (s.push (.row [v, w] true)).next = some (.row [.nils, .nils] true) := hKr.blk (St.get_push_new (s.push (.row [v, w] true)) _)
  have hstr := sto_row2 hrb (read_oneD hR.1).2 (read_oneD hR.2).2
  have hlr := St.get_lt hrb
  have hlo : lod (t2.put (s.push (.row [v, w] true)).next (.row [w1, w2] true)) 2 (.ptr (s.push (.row [v, w] true)).next 0) = some (.agg [w1, w2]) := lod_row2 (St.get_put_same hrb)
  simp (config := {contextual := true, maxDischargeDepth := 12}) only [tb_at, h0, hlen, hbx, c1, c2, c3, c4, c1', c2', c3', c4', ap1, ap2, ap_build, hf0, hf1, fillP_nil, fillP_cons, hstr, hlo, rc1, reserve0, ↓bD, bU, forall_const, List.all_cons, List.all_nil, Option.map_some, List.map_cons, List.map_nil, ne_eq, implies_true, isNx, eq_self, ↓wp_cond, ↓wp_loop, ↓reduceIte, reduceCtorEq, Nat.reduceEqDiff, Nat.reduceLT, Nat.reduceAdd, Nat.reduceMul, Int.ofNat_lt, Int.ofNat_le, exists_const, Option.map_none, beq_self_eq_true, decide_true, ↓sg_bsl, ↓st_callf, bX, ap_mkfn, ae_callvV, callvV_fn, List.cons_append, List.nil_append, boxV_i, boxV_dot, sto_dot, ap_conv, convV_int, bslV_0, fstep_d0, fstep_d1, bsl_dot, ae_appz, ap_cap, capV_nils, slcV_nils0, slcV_sl0, wrap_0, ae_clr, boxV_f, fstep_f, lod_new2, ↓st_appf, q_known, ↓sg_callf]
  exact ⟨_, rfl, ⟨w1, w2, rfl, cr_put hrb (by intro k n h; cases h) hR⟩, (hK1.trans hKr).put _ (by simp) hlr⟩
theorem q_own {s : St} {v w : AV} {X : DCx} (hv : read dotC s v = some X.v) (hw : read dotC s w = some X.c) (hlv : X.v.length ≤ 400000) (hlw : X.c.length ≤ 400000) : ∃ vv cc t, acall R_own false [.agg [v, w]] s = some (.agg [vv, cc], t) ∧ CR t vv cc (X) ∧ Keep s t := runC n_own (by simp [a9]) (w_own (s := lowd s) (read_low' hv) (read_low' hw) hlv hlw)
end Go.AM
end
