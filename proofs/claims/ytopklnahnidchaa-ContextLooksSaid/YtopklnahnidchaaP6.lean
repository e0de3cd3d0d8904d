/-
  The helpers of the statements of layer 6; ContextDots, ContextMakes. Own work of this project; in part printed by a program of it.
-/
import Derived.Test.YtopklnahnidchaaP5
section
set_option linter.unusedVariables false
set_option linter.unusedSimpArgs false
set_option maxRecDepth 100000
set_option maxHeartbeats 8000000
namespace Go.AM
open Go Go.Proofs

variable {s t u : St}

theorem q_known (cl : Bool) (s : St) : acall (closed [] (.bool true)) cl [] s = some (.bool true, s) := acall_ro (by simp [closed]) rfl
noncomputable def R_light : Con := runFn (tb []) a8
theorem s_light : SoundAt Try.prog 8 R_light := run_sound (tb_sound (l := []) (by simp)) mixed Try.func8 k8 c8
theorem n_light : noNxtC a8.body = true := by kernel_rfl
theorem w_light {s : St} {v w : AV} {X : DCx} (hv : read dotC s v = some X.v) (hw : read dotC s w = some X.c) : ∀ env : Env, elen env = a8.ntmps → (∀ i x_, [.agg [v, w]][i]? = some x_ → E env i = x_) → awp (tb []) a8.body (fun x e t => (∀ i, x ≠ .exit i) ∧ aresults e t a8.results = some (.bool (decide ((X.v.length : Int) ≤ 40) && decide ((X.c.length : Int) ≤ 40))) ∧ Keep s t) env s := by
  intro env hlen ha
  have h0 : E env 0 = _ := ha 0 _ rfl
  have hlen : elen env = _ := hlen
  simp only [a8] at hlen
  unfold a8
  try dsimp only [oO, oG]
  have hbx := boxV_2 (read_oneD hv).2 (read_oneD hw).2
  have hK1 : Keep s (s.push (.row [v, w] true)) := (Keep.refl s).push _
  obtain ⟨c1, c2, c3, c4⟩ := box_ctx s v w (.refl _)
  have hv1 := hK1.read hv
  have hw1 := hK1.read hw
  have hL1 := lenV_read hv
  have hL2 := lenV_read hw
  simp (config := {contextual := true, maxDischargeDepth := 12}) only [tb_at, h0, hlen, hbx, c1, c2, c3, c4, hL1, hL2, ↓bD, bU, forall_const, List.all_cons, List.all_nil, Option.map_some, List.map_cons, List.map_nil, ne_eq, implies_true, isNx, eq_self, ↓wp_cond, ↓wp_loop, ↓reduceIte, reduceCtorEq, Nat.reduceEqDiff, Nat.reduceLT, Nat.reduceAdd, Nat.reduceMul, Int.ofNat_lt, Int.ofNat_le, exists_const, Option.map_none, beq_self_eq_true, decide_true, ↓sg_bsl, ↓st_callf, bX, ap_mkfn, ae_callvV, callvV_fn, List.cons_append, List.nil_append, boxV_i, boxV_dot, sto_dot, ap_conv, convV_int, bslV_0, fstep_d0, fstep_d1, bsl_dot, ae_appz, ap_cap, capV_nils, slcV_nils0, slcV_sl0, wrap_0, ae_clr, boxV_f, fstep_f, lod_new2, ↓st_appf, q_known]
  all_goals exact hK1
theorem q_light (cl : Bool) {s : St} {v w : AV} {X : DCx} (hv : read dotC s v = some X.v) (hw : read dotC s w = some X.c) : acall R_light cl [.agg [v, w]] s = some (.bool (decide ((X.v.length : Int) ≤ 40) && decide ((X.c.length : Int) ≤ 40)), s) := run_same n_light (by simp [a8]) rfl (w_light (s := lowd s) (read_low' hv) (read_low' hw))
noncomputable def R_gives : Con := runFn (tb [(15, R_RCEqual)]) a20
theorem s_gives : SoundAt Try.prog 20 R_gives := run_sound (tb_sound (l := [(15, R_RCEqual)]) (by simpa using s_RCEqual)) mixed Try.func20 k20 c20
theorem n_gives : noNxtC a20.body = true := by kernel_rfl
theorem w_gives {s : St} {v w : AV} {X : DCx} (hv : read dotC s v = some X.v) (hw : read dotC s w = some X.c) (hlv : X.v.length ≤ lim) (hlw : X.c.length ≤ lim) {v' w' : AV} {Y : DCx} (kv : read dotC s v' = some Y.v) (kw : read dotC s w' = some Y.c) (klv : Y.v.length ≤ lim) (klw : Y.c.length ≤ lim) (e1 e2 : Int) : ∀ env : Env, elen env = a20.ntmps → (∀ i x_, [.agg [v, w], .int .i64 e1, .agg [v', w'], .int .i64 e2][i]? = some x_ → E env i = x_) → awp (tb [(15, R_RCEqual)]) a20.body (fun x e t => (∀ i, x ≠ .exit i) ∧ aresults e t a20.results = some (.bool (decide (X = Y) && decide (e1 = e2))) ∧ Keep s t) env s := by
  intro env hlen ha
  have h0 : E env 0 = _ := ha 0 _ rfl
  have h1 : E env 1 = _ := ha 1 _ rfl
  have h2 : E env 2 = _ := ha 2 _ rfl
  have h3 : E env 3 = _ := ha 3 _ rfl
  have hlen : elen env = _ := hlen
  simp only [a20] at hlen
  unfold a20
  try dsimp only [oO, oG]
  have hbx := boxV_2 (read_oneD hv).2 (read_oneD hw).2
  have hby := boxV_2 (read_oneD kv).2 (read_oneD kw).2
  have hK2 : Keep s ((s.push (.row [v, w] true)).push (.row [v', w'] true)) := ((Keep.refl s).push _).push _
  have hKx : Keep (s.push (.row [v, w] true)) ((s.push (.row [v, w] true)).push (.row [v', w'] true)) := (Keep.refl _).push _
  obtain ⟨c1, c2, c3, c4⟩ := box_ctx s v w hKx
  obtain ⟨d1, d2, d3, d4⟩ := box_ctx (s.push (.row [v, w] true)) v' w' (.refl _)
  have q := q_RCEqual false (hK2.read hv) (hK2.read hw) hlv hlw (hK2.read kv) (hK2.read kw) klv klw
  simp (config := {contextual := true, maxDischargeDepth := 12}) only [tb_at, h0, h1, h2, h3, hlen, hbx, hby, c1, c2, c3, c4, d1, d2, d3, d4, q, ↓bD, bU, forall_const, List.all_cons, List.all_nil, Option.map_some, List.map_cons, List.map_nil, ne_eq, implies_true, isNx, eq_self, ↓wp_cond, ↓wp_loop, ↓reduceIte, reduceCtorEq, Nat.reduceEqDiff, Nat.reduceLT, Nat.reduceAdd, Nat.reduceMul, Int.ofNat_lt, Int.ofNat_le, exists_const, Option.map_none, beq_self_eq_true, decide_true, ↓sg_bsl, ↓st_callf, bX, ap_mkfn, ae_callvV, callvV_fn, List.cons_append, List.nil_append, boxV_i, boxV_dot, sto_dot, ap_conv, convV_int, bslV_0, fstep_d0, fstep_d1, bsl_dot, ae_appz, ap_cap, capV_nils, slcV_nils0, slcV_sl0, wrap_0, ae_clr, boxV_f, fstep_f, lod_new2, ↓st_appf, q_known]
  all_goals exact hK2
theorem q_gives (cl : Bool) {s : St} {v w : AV} {X : DCx} (hv : read dotC s v = some X.v) (hw : read dotC s w = some X.c) (hlv : X.v.length ≤ lim) (hlw : X.c.length ≤ lim) {v' w' : AV} {Y : DCx} (kv : read dotC s v' = some Y.v) (kw : read dotC s w' = some Y.c) (klv : Y.v.length ≤ lim) (klw : Y.c.length ≤ lim) (e1 e2 : Int) : acall R_gives cl [.agg [v, w], .int .i64 e1, .agg [v', w'], .int .i64 e2] s = some (.bool (decide (X = Y) && decide (e1 = e2)), s) := run_same n_gives (by simp [a20]) rfl (w_gives (s := lowd s) (read_low' hv) (read_low' hw) hlv hlw (read_low' kv) (read_low' kw) klv klw e1 e2)
noncomputable def R_compacts : Con := runFn (tb [(19, R_CComp), (20, R_gives)]) a16
theorem s_compacts : SoundAt Try.prog 16 R_compacts := run_sound (tb_sound (l := [(19, R_CComp), (20, R_gives)]) (by simpa using ⟨s_CComp, s_gives⟩)) mixed Try.func16 k16 c16
theorem n_compacts : noNxtC a16.body = true := by kernel_rfl
theorem w_compacts {s : St} {v w : AV} {X : DCx} (hv : read dotC s v = some X.v) (hw : read dotC s w = some X.c) (hlv : X.v.length ≤ 80000) (hlw : X.c.length ≤ 80000) {v' w' : AV} {Y : DCx} (kv : read dotC s v' = some Y.v) (kw : read dotC s w' = some Y.c) (klv : Y.v.length ≤ 80000) (klw : Y.c.length ≤ 80000) (e2 : Int) (hcv : cvalid X = true) : ∀ env : Env, elen env = a16.ntmps → (∀ i x_, [.agg [v, w], .agg [v', w'], .int .i64 e2][i]? = some x_ → E env i = x_) → awp (tb [(19, R_CComp), (20, R_gives)]) a16.body (fun x e t => (∀ i, x ≠ .exit i) ∧ aresults e t a16.results = some (.bool (decide (compC X = Y) && decide (0 = e2))) ∧ Keep s t) env s := by
  intro env hlen ha
  have h0 : E env 0 = _ := ha 0 _ rfl
  have h1 : E env 1 = _ := ha 1 _ rfl
  have h2 : E env 2 = _ := ha 2 _ rfl
  have hlen : elen env = _ := hlen
  simp only [a16] at hlen
  unfold a16
  try dsimp only [oO, oG]
  have hbx := boxV_2 (read_oneD hv).2 (read_oneD hw).2
  have hby := boxV_2 (read_oneD kv).2 (read_oneD kw).2
  have hK2 : Keep s ((s.push (.row [v, w] true)).push (.row [v', w'] true)) := ((Keep.refl s).push _).push _
  have hKx : Keep (s.push (.row [v, w] true)) ((s.push (.row [v, w] true)).push (.row [v', w'] true)) := (Keep.refl _).push _
  obtain ⟨c1, c2, c3, c4⟩ := box_ctx s v w hKx
  obtain ⟨d1, d2, d3, d4⟩ := box_ctx (s.push (.row [v, w] true)) v' w' (.refl _)
  obtain ⟨vv, cc, t1, q1, hV1, hC1, hK4⟩ := q_CComp (hK2.read hv) (hK2.read hw) (by omega) (by omega) hcv
  have hR1 : CR t1 vv cc (compC X) := ⟨hV1.read, hC1.read⟩
  have hcl := comp_len X
  have hst := sto_ctx (show sameN t1.next t1 from rfl) (read_oneD hR1.1).2 (read_oneD hR1.2).2
  have hK5 : Keep t1 (t1.lowed.push (.row [vv, cc] true)) := (Keep.refl t1).lowed.push _
  obtain ⟨d1', d2', d3', d4'⟩ := box_ctx (s.push (.row [v, w] true)) v' w' (hK4.trans hK5)
  have hR5 := hR1.keep hK5
  have hK25 := hK2.trans (hK4.trans hK5)
  have q3 := q_gives false hR5.1 hR5.2 (by unfold lim; omega) (by unfold lim; omega) (hK25.read kv) (hK25.read kw) (by unfold lim; omega) (by unfold lim; omega) 0 e2
  simp (config := {contextual := true, maxDischargeDepth := 12}) only [tb_at, h0, h1, h2, hlen, hbx, hby, c1, c2, c3, c4, d1, d2, d3, d4, d1', d4', q1, hst, q3, ↓bD, bU, forall_const, List.all_cons, List.all_nil, Option.map_some, List.map_cons, List.map_nil, ne_eq, implies_true, isNx, eq_self, ↓wp_cond, ↓wp_loop, ↓reduceIte, reduceCtorEq, Nat.reduceEqDiff, Nat.reduceLT, Nat.reduceAdd, Nat.reduceMul, Int.ofNat_lt, Int.ofNat_le, exists_const, Option.map_none, beq_self_eq_true, decide_true, ↓sg_bsl, ↓st_callf, bX, ap_mkfn, ae_callvV, callvV_fn, List.cons_append, List.nil_append, boxV_i, boxV_dot, sto_dot, ap_conv, convV_int, bslV_0, fstep_d0, fstep_d1, bsl_dot, ae_appz, ap_cap, capV_nils, slcV_nils0, slcV_sl0, wrap_0, ae_clr, boxV_f, fstep_f, lod_new2, ↓st_appf, q_known]
  all_goals exact hK25
theorem q_compacts (cl : Bool) {s : St} {v w : AV} {X : DCx} (hv : read dotC s v = some X.v) (hw : read dotC s w = some X.c) (hlv : X.v.length ≤ 80000) (hlw : X.c.length ≤ 80000) {v' w' : AV} {Y : DCx} (kv : read dotC s v' = some Y.v) (kw : read dotC s w' = some Y.c) (klv : Y.v.length ≤ 80000) (klw : Y.c.length ≤ 80000) (e2 : Int) (hcv : cvalid X = true) : acall R_compacts cl [.agg [v, w], .agg [v', w'], .int .i64 e2] s = some (.bool (decide (compC X = Y) && decide (0 = e2)), s) := run_same n_compacts (by simp [a16]) rfl (w_compacts (s := lowd s) (read_low' hv) (read_low' hw) hlv hlw (read_low' kv) (read_low' kw) klv klw e2 hcv)
theorem w_compacts_bad {s : St} {v w : AV} {X : DCx} (hv : read dotC s v = some X.v) (hw : read dotC s w = some X.c) (hlv : X.v.length ≤ 80000) (hlw : X.c.length ≤ 80000) {v' w' : AV} {Y : DCx} (kv : read dotC s v' = some Y.v) (kw : read dotC s w' = some Y.c) (klv : Y.v.length ≤ 80000) (klw : Y.c.length ≤ 80000) (e2 : Int) (hcv : cvalid X = false) : ∀ env : Env, elen env = a16.ntmps → (∀ i x_, [.agg [v, w], .agg [v', w'], .int .i64 e2][i]? = some x_ → E env i = x_) → awp (tb [(19, R_CComp), (20, R_gives)]) a16.body (fun x e t => (∀ i, x ≠ .exit i) ∧ aresults e t a16.results = some (.bool (decide ((⟨[], []⟩ : DCx) = Y) && decide (2 = e2))) ∧ Keep s t) env s := by
  intro env hlen ha
  have h0 : E env 0 = _ := ha 0 _ rfl
  have h1 : E env 1 = _ := ha 1 _ rfl
  have h2 : E env 2 = _ := ha 2 _ rfl
  have hlen : elen env = _ := hlen
  simp only [a16] at hlen
  unfold a16
  try dsimp only [oO, oG]
  have hbx := boxV_2 (read_oneD hv).2 (read_oneD hw).2
  have hby := boxV_2 (read_oneD kv).2 (read_oneD kw).2
  have hK2 : Keep s ((s.push (.row [v, w] true)).push (.row [v', w'] true)) := ((Keep.refl s).push _).push _
  have hKx : Keep (s.push (.row [v, w] true)) ((s.push (.row [v, w] true)).push (.row [v', w'] true)) := (Keep.refl _).push _
  obtain ⟨c1, c2, c3, c4⟩ := box_ctx s v w hKx
  obtain ⟨d1, d2, d3, d4⟩ := box_ctx (s.push (.row [v, w] true)) v' w' (.refl _)
  have q1 := q_CComp_bad false (hK2.read hv) (hK2.read hw) (by unfold lim; omega) (by unfold lim; omega) hcv
  have hst := sto_ctx (show sameN ((s.push (.row [v, w] true)).push (.row [v', w'] true)).next ((s.push (.row [v, w] true)).push (.row [v', w'] true)) from rfl) (a := .nils) (b := .nils) rfl rfl
  have hK5 : Keep ((s.push (.row [v, w] true)).push (.row [v', w'] true)) (((s.push (.row [v, w] true)).push (.row [v', w'] true)).lowed.push (.row [.nils, .nils] true)) := (Keep.refl _).lowed.push _
  obtain ⟨d1', d2', d3', d4'⟩ := box_ctx (s.push (.row [v, w] true)) v' w' hK5
  have hK25 := hK2.trans hK5
  have q3 := q_gives false (s := ((s.push (.row [v, w] true)).push (.row [v', w'] true)).lowed.push (.row [.nils, .nils] true)) (X := ⟨[], []⟩) (read_nils dotC _) (read_nils dotC _) (by simp) (by simp) (hK25.read kv) (hK25.read kw) (by unfold lim; omega) (by unfold lim; omega) 2 e2
  simp (config := {contextual := true, maxDischargeDepth := 12}) only [tb_at, h0, h1, h2, hlen, hbx, hby, c1, c2, c3, c4, d1, d2, d3, d4, d1', d4', q1, hst, q3, ↓bD, bU, forall_const, List.all_cons, List.all_nil, Option.map_some, List.map_cons, List.map_nil, ne_eq, implies_true, isNx, eq_self, ↓wp_cond, ↓wp_loop, ↓reduceIte, reduceCtorEq, Nat.reduceEqDiff, Nat.reduceLT, Nat.reduceAdd, Nat.reduceMul, Int.ofNat_lt, Int.ofNat_le, exists_const, Option.map_none, beq_self_eq_true, decide_true, ↓sg_bsl, ↓st_callf, bX, ap_mkfn, ae_callvV, callvV_fn, List.cons_append, List.nil_append, boxV_i, boxV_dot, sto_dot, ap_conv, convV_int, bslV_0, fstep_d0, fstep_d1, bsl_dot, ae_appz, ap_cap, capV_nils, slcV_nils0, slcV_sl0, wrap_0, ae_clr, boxV_f, fstep_f, lod_new2, ↓st_appf, q_known]
  all_goals exact hK25
theorem q_compacts_bad (cl : Bool) {s : St} {v w : AV} {X : DCx} (hv : read dotC s v = some X.v) (hw : read dotC s w = some X.c) (hlv : X.v.length ≤ 80000) (hlw : X.c.length ≤ 80000) {v' w' : AV} {Y : DCx} (kv : read dotC s v' = some Y.v) (kw : read dotC s w' = some Y.c) (klv : Y.v.length ≤ 80000) (klw : Y.c.length ≤ 80000) (e2 : Int) (hcv : cvalid X = false) : acall R_compacts cl [.agg [v, w], .agg [v', w'], .int .i64 e2] s = some (.bool (decide ((⟨[], []⟩ : DCx) = Y) && decide (2 = e2)), s) := run_same n_compacts (by simp [a16]) rfl (w_compacts_bad (s := lowd s) (read_low' hv) (read_low' hw) hlv hlw (read_low' kv) (read_low' kw) klv klw e2 hcv)
noncomputable def R_made : Con := runFn (tb [(63, R_COf), (20, R_gives)]) a29
theorem s_made : SoundAt Try.prog 29 R_made := run_sound (tb_sound (l := [(63, R_COf), (20, R_gives)]) (by simpa using ⟨s_COf, s_gives⟩)) mixed Try.func29 k29 c29
theorem n_made : noNxtC a29.body = true := by kernel_rfl
theorem w_made {s : St} {u1 : AV} {l : List Dot} (hru : read dotC s u1 = some l) (hlu : l.length ≤ 80000) {v' w' : AV} {Y : DCx} (kv : read dotC s v' = some Y.v) (kw : read dotC s w' = some Y.c) (klv : Y.v.length ≤ 80000) (klw : Y.c.length ≤ 80000) (e2 : Int) (hok : l.all Dot.valid = true) : ∀ env : Env, elen env = a29.ntmps → (∀ i x_, [u1, .agg [v', w'], .int .i64 e2][i]? = some x_ → E env i = x_) → awp (tb [(63, R_COf), (20, R_gives)]) a29.body (fun x e t => (∀ i, x ≠ .exit i) ∧ aresults e t a29.results = some (.bool (decide (addC ⟨[], []⟩ l = Y) && decide (0 = e2))) ∧ Keep s t) env s := by
  intro env hlen ha
  have h0 : E env 0 = _ := ha 0 _ rfl
  have h1 : E env 1 = _ := ha 1 _ rfl
  have h2 : E env 2 = _ := ha 2 _ rfl
  have hlen : elen env = _ := hlen
  simp only [a29] at hlen
  unfold a29
  try dsimp only [oO, oG]
  have hby := boxV_2 (read_oneD kv).2 (read_oneD kw).2
  have hK2 : Keep s (s.push (.row [v', w'] true)) := (Keep.refl s).push _
  obtain ⟨vv, cc, t1, q1, hR1, hK4⟩ := q_COf (hK2.read hru) hlu hok
  have hal := add_len ⟨[], []⟩ l
  simp only [List.length_nil, Nat.zero_add] at hal
  have hst := sto_ctx (show sameN t1.next t1 from rfl) (read_oneD hR1.1).2 (read_oneD hR1.2).2
  have hK5 : Keep t1 (t1.lowed.push (.row [vv, cc] true)) := (Keep.refl t1).lowed.push _
  obtain ⟨d1', d2', d3', d4'⟩ := box_ctx s v' w' (hK4.trans hK5)
  have hR5 := hR1.keep hK5
  have hK25 := hK2.trans (hK4.trans hK5)
  have q3 := q_gives false hR5.1 hR5.2 (by unfold lim; omega) (by unfold lim; omega) (hK25.read kv) (hK25.read kw) (by unfold lim; omega) (by unfold lim; omega) 0 e2
  simp (config := {contextual := true, maxDischargeDepth := 12}) only [tb_at, h0, h1, h2, hlen, hby, d1', d4', q1, hst, q3, ↓bD, bU, forall_const, List.all_cons, List.all_nil, Option.map_some, List.map_cons, List.map_nil, ne_eq, implies_true, isNx, eq_self, ↓wp_cond, ↓wp_loop, ↓reduceIte, reduceCtorEq, Nat.reduceEqDiff, Nat.reduceLT, Nat.reduceAdd, Nat.reduceMul, Int.ofNat_lt, Int.ofNat_le, exists_const, Option.map_none, beq_self_eq_true, decide_true, ↓sg_bsl, ↓st_callf, bX, ap_mkfn, ae_callvV, callvV_fn, List.cons_append, List.nil_append, boxV_i, boxV_dot, sto_dot, ap_conv, convV_int, bslV_0, fstep_d0, fstep_d1, bsl_dot, ae_appz, ap_cap, capV_nils, slcV_nils0, slcV_sl0, wrap_0, ae_clr, boxV_f, fstep_f, lod_new2, ↓st_appf, q_known]
  all_goals exact hK25
theorem q_made (cl : Bool) {s : St} {u1 : AV} {l : List Dot} (hru : read dotC s u1 = some l) (hlu : l.length ≤ 80000) {v' w' : AV} {Y : DCx} (kv : read dotC s v' = some Y.v) (kw : read dotC s w' = some Y.c) (klv : Y.v.length ≤ 80000) (klw : Y.c.length ≤ 80000) (e2 : Int) (hok : l.all Dot.valid = true) : acall R_made cl [u1, .agg [v', w'], .int .i64 e2] s = some (.bool (decide (addC ⟨[], []⟩ l = Y) && decide (0 = e2)), s) := run_same n_made (by simp [a29]) rfl (w_made (s := lowd s) (read_low' hru) hlu (read_low' kv) (read_low' kw) klv klw e2 hok)
theorem w_made_bad {s : St} {u1 : AV} {l : List Dot} (hru : read dotC s u1 = some l) (hlu : l.length ≤ 80000) {v' w' : AV} {Y : DCx} (kv : read dotC s v' = some Y.v) (kw : read dotC s w' = some Y.c) (klv : Y.v.length ≤ 80000) (klw : Y.c.length ≤ 80000) (e2 : Int) (hbad : l.all Dot.valid = false) : ∀ env : Env, elen env = a29.ntmps → (∀ i x_, [u1, .agg [v', w'], .int .i64 e2][i]? = some x_ → E env i = x_) → awp (tb [(63, R_COf), (20, R_gives)]) a29.body (fun x e t => (∀ i, x ≠ .exit i) ∧ aresults e t a29.results = some (.bool (decide ((⟨[], []⟩ : DCx) = Y) && decide (2 = e2))) ∧ Keep s t) env s := by
  intro env hlen ha
  have h0 : E env 0 = _ := ha 0 _ rfl
  have h1 : E env 1 = _ := ha 1 _ rfl
  have h2 : E env 2 = _ := ha 2 _ rfl
  have hlen : elen env = _ := hlen
  simp only [a29] at hlen
  unfold a29
  try dsimp only [oO, oG]
  have hby := boxV_2 (read_oneD kv).2 (read_oneD kw).2
  have hK2 : Keep s (s.push (.row [v', w'] true)) := (Keep.refl s).push _
  have q1 := q_COf_bad false (hK2.read hru) hlu hbad
  have hst := sto_ctx (show sameN (s.push (.row [v', w'] true)).next (s.push (.row [v', w'] true)) from rfl) (a := .nils) (b := .nils) rfl rfl
  have hK5 : Keep (s.push (.row [v', w'] true)) ((s.push (.row [v', w'] true)).lowed.push (.row [.nils, .nils] true)) := (Keep.refl _).lowed.push _
  obtain ⟨d1', d2', d3', d4'⟩ := box_ctx (s) v' w' hK5
  have hK25 := hK2.trans hK5
  have q3 := q_gives false (s := (s.push (.row [v', w'] true)).lowed.push (.row [.nils, .nils] true)) (X := ⟨[], []⟩) (read_nils dotC _) (read_nils dotC _) (by simp) (by simp) (hK25.read kv) (hK25.read kw) (by unfold lim; omega) (by unfold lim; omega) 2 e2
  simp (config := {contextual := true, maxDischargeDepth := 12}) only [tb_at, h0, h1, h2, hlen, hby, d1', d4', q1, hst, q3, ↓bD, bU, forall_const, List.all_cons, List.all_nil, Option.map_some, List.map_cons, List.map_nil, ne_eq, implies_true, isNx, eq_self, ↓wp_cond, ↓wp_loop, ↓reduceIte, reduceCtorEq, Nat.reduceEqDiff, Nat.reduceLT, Nat.reduceAdd, Nat.reduceMul, Int.ofNat_lt, Int.ofNat_le, exists_const, Option.map_none, beq_self_eq_true, decide_true, ↓sg_bsl, ↓st_callf, bX, ap_mkfn, ae_callvV, callvV_fn, List.cons_append, List.nil_append, boxV_i, boxV_dot, sto_dot, ap_conv, convV_int, bslV_0, fstep_d0, fstep_d1, bsl_dot, ae_appz, ap_cap, capV_nils, slcV_nils0, slcV_sl0, wrap_0, ae_clr, boxV_f, fstep_f, lod_new2, ↓st_appf, q_known]
  all_goals exact hK25
theorem q_made_bad (cl : Bool) {s : St} {u1 : AV} {l : List Dot} (hru : read dotC s u1 = some l) (hlu : l.length ≤ 80000) {v' w' : AV} {Y : DCx} (kv : read dotC s v' = some Y.v) (kw : read dotC s w' = some Y.c) (klv : Y.v.length ≤ 80000) (klw : Y.c.length ≤ 80000) (e2 : Int) (hbad : l.all Dot.valid = false) : acall R_made cl [u1, .agg [v', w'], .int .i64 e2] s = some (.bool (decide ((⟨[], []⟩ : DCx) = Y) && decide (2 = e2)), s) := run_same n_made (by simp [a29]) rfl (w_made_bad (s := lowd s) (read_low' hru) hlu (read_low' kv) (read_low' kw) klv klw e2 hbad)
noncomputable def R_added : Con := runFn (tb [(32, R_CAdd), (20, R_gives)]) a30
theorem s_added : SoundAt Try.prog 30 R_added := run_sound (tb_sound (l := [(32, R_CAdd), (20, R_gives)]) (by simpa using ⟨s_CAdd, s_gives⟩)) mixed Try.func30 k30 c30
theorem n_added : noNxtC a30.body = true := by kernel_rfl
theorem w_added {s : St} {v w : AV} {X : DCx} (hv : read dotC s v = some X.v) (hw : read dotC s w = some X.c) (hlv : X.v.length ≤ 80000) (hlw : X.c.length ≤ 80000) {v' w' : AV} {Y : DCx} (kv : read dotC s v' = some Y.v) (kw : read dotC s w' = some Y.c) (klv : Y.v.length ≤ 80000) (klw : Y.c.length ≤ 80000) {u1 : AV} {l : List Dot} (hru : read dotC s u1 = some l) (hlu : l.length ≤ 80000) (e2 : Int) (hcv : cvalid X = true) (hok : l.all Dot.valid = true) : ∀ env : Env, elen env = a30.ntmps → (∀ i x_, [.agg [v, w], u1, .agg [v', w'], .int .i64 e2][i]? = some x_ → E env i = x_) → awp (tb [(32, R_CAdd), (20, R_gives)]) a30.body (fun x e t => (∀ i, x ≠ .exit i) ∧ aresults e t a30.results = some (.bool (decide (addC X l = Y) && decide (0 = e2))) ∧ Keep s t) env s := by
  intro env hlen ha
  have h0 : E env 0 = _ := ha 0 _ rfl
  have h1 : E env 1 = _ := ha 1 _ rfl
  have h2 : E env 2 = _ := ha 2 _ rfl
  have h3 : E env 3 = _ := ha 3 _ rfl
  have hlen : elen env = _ := hlen
  simp only [a30] at hlen
  unfold a30
  try dsimp only [oO, oG]
  have hbx := boxV_2 (read_oneD hv).2 (read_oneD hw).2
  have hby := boxV_2 (read_oneD kv).2 (read_oneD kw).2
  have hK2 : Keep s ((s.push (.row [v, w] true)).push (.row [v', w'] true)) := ((Keep.refl s).push _).push _
  have hKx : Keep (s.push (.row [v, w] true)) ((s.push (.row [v, w] true)).push (.row [v', w'] true)) := (Keep.refl _).push _
  obtain ⟨c1, c2, c3, c4⟩ := box_ctx s v w hKx
  obtain ⟨d1, d2, d3, d4⟩ := box_ctx (s.push (.row [v, w] true)) v' w' (.refl _)
  obtain ⟨vv, cc, t1, q1, hR1, hK4⟩ := q_CAdd (hK2.read hv) (hK2.read hw) hlv hlw (hK2.read hru) hlu hcv hok
  have hal := add_len X l
  have hst := sto_ctx (show sameN t1.next t1 from rfl) (read_oneD hR1.1).2 (read_oneD hR1.2).2
  have hK5 : Keep t1 (t1.lowed.push (.row [vv, cc] true)) := (Keep.refl t1).lowed.push _
  obtain ⟨d1', d2', d3', d4'⟩ := box_ctx (s.push (.row [v, w] true)) v' w' (hK4.trans hK5)
  have hR5 := hR1.keep hK5
  have hK25 := hK2.trans (hK4.trans hK5)
  have q3 := q_gives false hR5.1 hR5.2 (by unfold lim; omega) (by unfold lim; omega) (hK25.read kv) (hK25.read kw) (by unfold lim; omega) (by unfold lim; omega) 0 e2
  simp (config := {contextual := true, maxDischargeDepth := 12}) only [tb_at, h0, h1, h2, h3, hlen, hbx, hby, c1, c2, c3, c4, d1, d2, d3, d4, d1', d4', q1, hst, q3, ↓bD, bU, forall_const, List.all_cons, List.all_nil, Option.map_some, List.map_cons, List.map_nil, ne_eq, implies_true, isNx, eq_self, ↓wp_cond, ↓wp_loop, ↓reduceIte, reduceCtorEq, Nat.reduceEqDiff, Nat.reduceLT, Nat.reduceAdd, Nat.reduceMul, Int.ofNat_lt, Int.ofNat_le, exists_const, Option.map_none, beq_self_eq_true, decide_true, ↓sg_bsl, ↓st_callf, bX, ap_mkfn, ae_callvV, callvV_fn, List.cons_append, List.nil_append, boxV_i, boxV_dot, sto_dot, ap_conv, convV_int, bslV_0, fstep_d0, fstep_d1, bsl_dot, ae_appz, ap_cap, capV_nils, slcV_nils0, slcV_sl0, wrap_0, ae_clr, boxV_f, fstep_f, lod_new2, ↓st_appf, q_known]
  all_goals exact hK25
theorem q_added (cl : Bool) {s : St} {v w : AV} {X : DCx} (hv : read dotC s v = some X.v) (hw : read dotC s w = some X.c) (hlv : X.v.length ≤ 80000) (hlw : X.c.length ≤ 80000) {v' w' : AV} {Y : DCx} (kv : read dotC s v' = some Y.v) (kw : read dotC s w' = some Y.c) (klv : Y.v.length ≤ 80000) (klw : Y.c.length ≤ 80000) {u1 : AV} {l : List Dot} (hru : read dotC s u1 = some l) (hlu : l.length ≤ 80000) (e2 : Int) (hcv : cvalid X = true) (hok : l.all Dot.valid = true) : acall R_added cl [.agg [v, w], u1, .agg [v', w'], .int .i64 e2] s = some (.bool (decide (addC X l = Y) && decide (0 = e2)), s) := run_same n_added (by simp [a30]) rfl (w_added (s := lowd s) (read_low' hv) (read_low' hw) hlv hlw (read_low' kv) (read_low' kw) klv klw (read_low' hru) hlu e2 hcv hok)
theorem w_added_bad {s : St} {v w : AV} {X : DCx} (hv : read dotC s v = some X.v) (hw : read dotC s w = some X.c) (hlv : X.v.length ≤ 80000) (hlw : X.c.length ≤ 80000) {v' w' : AV} {Y : DCx} (kv : read dotC s v' = some Y.v) (kw : read dotC s w' = some Y.c) (klv : Y.v.length ≤ 80000) (klw : Y.c.length ≤ 80000) {u1 : AV} {l : List Dot} (hru : read dotC s u1 = some l) (hlu : l.length ≤ 80000) (e2 : Int) (hbad : (cvalid X && l.all Dot.valid) = false) : ∀ env : Env, elen env = a30.ntmps → (∀ i x_, [.agg [v, w], u1, .agg [v', w'], .int .i64 e2][i]? = some x_ → E env i = x_) → awp (tb [(32, R_CAdd), (20, R_gives)]) a30.body (fun x e t => (∀ i, x ≠ .exit i) ∧ aresults e t a30.results = some (.bool (decide ((⟨[], []⟩ : DCx) = Y) && decide (2 = e2))) ∧ Keep s t) env s := by
  intro env hlen ha
  have h0 : E env 0 = _ := ha 0 _ rfl
  have h1 : E env 1 = _ := ha 1 _ rfl
  have h2 : E env 2 = _ := ha 2 _ rfl
  have h3 : E env 3 = _ := ha 3 _ rfl
  have hlen : elen env = _ := hlen
  simp only [a30] at hlen
  unfold a30
  try dsimp only [oO, oG]
  have hbx := boxV_2 (read_oneD hv).2 (read_oneD hw).2
  have hby := boxV_2 (read_oneD kv).2 (read_oneD kw).2
  have hK2 : Keep s ((s.push (.row [v, w] true)).push (.row [v', w'] true)) := ((Keep.refl s).push _).push _
  have hKx : Keep (s.push (.row [v, w] true)) ((s.push (.row [v, w] true)).push (.row [v', w'] true)) := (Keep.refl _).push _
  obtain ⟨c1, c2, c3, c4⟩ := box_ctx s v w hKx
  obtain ⟨d1, d2, d3, d4⟩ := box_ctx (s.push (.row [v, w] true)) v' w' (.refl _)
  have q1 := q_CAdd_bad false (hK2.read hv) (hK2.read hw) hlv hlw (hK2.read hru) hlu hbad
  have hst := sto_ctx (show sameN ((s.push (.row [v, w] true)).push (.row [v', w'] true)).next ((s.push (.row [v, w] true)).push (.row [v', w'] true)) from rfl) (a := .nils) (b := .nils) rfl rfl
  have hK5 : Keep ((s.push (.row [v, w] true)).push (.row [v', w'] true)) (((s.push (.row [v, w] true)).push (.row [v', w'] true)).lowed.push (.row [.nils, .nils] true)) := (Keep.refl _).lowed.push _
  obtain ⟨d1', d2', d3', d4'⟩ := box_ctx (s.push (.row [v, w] true)) v' w' hK5
  have hK25 := hK2.trans hK5
  have q3 := q_gives false (s := ((s.push (.row [v, w] true)).push (.row [v', w'] true)).lowed.push (.row [.nils, .nils] true)) (X := ⟨[], []⟩) (read_nils dotC _) (read_nils dotC _) (by simp) (by simp) (hK25.read kv) (hK25.read kw) (by unfold lim; omega) (by unfold lim; omega) 2 e2
  simp (config := {contextual := true, maxDischargeDepth := 12}) only [tb_at, h0, h1, h2, h3, hlen, hbx, hby, c1, c2, c3, c4, d1, d2, d3, d4, d1', d4', q1, hst, q3, ↓bD, bU, forall_const, List.all_cons, List.all_nil, Option.map_some, List.map_cons, List.map_nil, ne_eq, implies_true, isNx, eq_self, ↓wp_cond, ↓wp_loop, ↓reduceIte, reduceCtorEq, Nat.reduceEqDiff, Nat.reduceLT, Nat.reduceAdd, Nat.reduceMul, Int.ofNat_lt, Int.ofNat_le, exists_const, Option.map_none, beq_self_eq_true, decide_true, ↓sg_bsl, ↓st_callf, bX, ap_mkfn, ae_callvV, callvV_fn, List.cons_append, List.nil_append, boxV_i, boxV_dot, sto_dot, ap_conv, convV_int, bslV_0, fstep_d0, fstep_d1, bsl_dot, ae_appz, ap_cap, capV_nils, slcV_nils0, slcV_sl0, wrap_0, ae_clr, boxV_f, fstep_f, lod_new2, ↓st_appf, q_known]
  all_goals exact hK25
theorem q_added_bad (cl : Bool) {s : St} {v w : AV} {X : DCx} (hv : read dotC s v = some X.v) (hw : read dotC s w = some X.c) (hlv : X.v.length ≤ 80000) (hlw : X.c.length ≤ 80000) {v' w' : AV} {Y : DCx} (kv : read dotC s v' = some Y.v) (kw : read dotC s w' = some Y.c) (klv : Y.v.length ≤ 80000) (klw : Y.c.length ≤ 80000) {u1 : AV} {l : List Dot} (hru : read dotC s u1 = some l) (hlu : l.length ≤ 80000) (e2 : Int) (hbad : (cvalid X && l.all Dot.valid) = false) : acall R_added cl [.agg [v, w], u1, .agg [v', w'], .int .i64 e2] s = some (.bool (decide ((⟨[], []⟩ : DCx) = Y) && decide (2 = e2)), s) := run_same n_added (by simp [a30]) rfl (w_added_bad (s := lowd s) (read_low' hv) (read_low' hw) hlv hlw (read_low' kv) (read_low' kw) klv klw (read_low' hru) hlu e2 hbad)
noncomputable def R_united : Con := runFn (tb [(34, R_CUnion), (20, R_gives)]) a35
theorem s_united : SoundAt Try.prog 35 R_united := run_sound (tb_sound (l := [(34, R_CUnion), (20, R_gives)]) (by simpa using ⟨s_CUnion, s_gives⟩)) mixed Try.func35 k35 c35
theorem n_united : noNxtC a35.body = true := by kernel_rfl
theorem w_united {s : St} {v w : AV} {X : DCx} (hv : read dotC s v = some X.v) (hw : read dotC s w = some X.c) (hlv : X.v.length ≤ 80000) (hlw : X.c.length ≤ 80000) {v' w' : AV} {Y : DCx} (kv : read dotC s v' = some Y.v) (kw : read dotC s w' = some Y.c) (klv : Y.v.length ≤ 80000) (klw : Y.c.length ≤ 80000) {v3 w3 : AV} {Z : DCx} (mv : read dotC s v3 = some Z.v) (mw : read dotC s w3 = some Z.c) (mlv : Z.v.length ≤ 80000) (mlw : Z.c.length ≤ 80000) (e2 : Int) (hcx : cvalid X = true) (hcy : cvalid Y = true) : ∀ env : Env, elen env = a35.ntmps → (∀ i x_, [.agg [v, w], .agg [v', w'], .agg [v3, w3], .int .i64 e2][i]? = some x_ → E env i = x_) → awp (tb [(34, R_CUnion), (20, R_gives)]) a35.body (fun x e t => (∀ i, x ≠ .exit i) ∧ aresults e t a35.results = some (.bool (decide (uniC X Y = Z) && decide (0 = e2))) ∧ Keep s t) env s := by
  intro env hlen ha
  have h0 : E env 0 = _ := ha 0 _ rfl
  have h1 : E env 1 = _ := ha 1 _ rfl
  have h2 : E env 2 = _ := ha 2 _ rfl
  have h3 : E env 3 = _ := ha 3 _ rfl
  have hlen : elen env = _ := hlen
  simp only [a35] at hlen
  unfold a35
  try dsimp only [oO, oG]
  have hbx := boxV_2 (read_oneD hv).2 (read_oneD hw).2
  have hby := boxV_2 (read_oneD kv).2 (read_oneD kw).2
  have hbz := boxV_2 (read_oneD mv).2 (read_oneD mw).2
  have hk1 : Keep s (s.push (.row [v, w] true)) := (Keep.refl s).push _
  have hk2 : Keep (s.push (.row [v, w] true)) ((s.push (.row [v, w] true)).push (.row [v', w'] true)) := (Keep.refl _).push _
  have hk3 : Keep ((s.push (.row [v, w] true)).push (.row [v', w'] true)) (((s.push (.row [v, w] true)).push (.row [v', w'] true)).push (.row [v3, w3] true)) := (Keep.refl _).push _
  have hK2 := hk1.trans (hk2.trans hk3)
  obtain ⟨c1, c2, c3, c4⟩ := box_ctx s v w (hk2.trans hk3)
  obtain ⟨d1, d2, d3, d4⟩ := box_ctx (s.push (.row [v, w] true)) v' w' hk3
  obtain ⟨f1, f2, f3, f4⟩ := box_ctx ((s.push (.row [v, w] true)).push (.row [v', w'] true)) v3 w3 (.refl _)
  obtain ⟨vv, cc, t1, q1, hR1, hK4⟩ := q_CUnion (hK2.read hv) (hK2.read hw) hlv hlw (hK2.read kv) (hK2.read kw) klv klw hcx hcy
  have hal := uni_len X Y
  have hst := sto_ctx (show sameN t1.next t1 from rfl) (read_oneD hR1.1).2 (read_oneD hR1.2).2
  have hK5 : Keep t1 (t1.lowed.push (.row [vv, cc] true)) := (Keep.refl t1).lowed.push _
  obtain ⟨f1', f2', f3', f4'⟩ := box_ctx ((s.push (.row [v, w] true)).push (.row [v', w'] true)) v3 w3 (hK4.trans hK5)
  have hR5 := hR1.keep hK5
  have hK25 := hK2.trans (hK4.trans hK5)
  have q3 := q_gives false hR5.1 hR5.2 (by unfold lim; omega) (by unfold lim; omega) (hK25.read mv) (hK25.read mw) (by unfold lim; omega) (by unfold lim; omega) 0 e2
  simp (config := {contextual := true, maxDischargeDepth := 12}) only [tb_at, h0, h1, h2, h3, hlen, hbx, hby, hbz, c1, c2, c3, c4, d1, d2, d3, d4, f1, f2, f3, f4, f1', f4', q1, hst, q3, ↓bD, bU, forall_const, List.all_cons, List.all_nil, Option.map_some, List.map_cons, List.map_nil, ne_eq, implies_true, isNx, eq_self, ↓wp_cond, ↓wp_loop, ↓reduceIte, reduceCtorEq, Nat.reduceEqDiff, Nat.reduceLT, Nat.reduceAdd, Nat.reduceMul, Int.ofNat_lt, Int.ofNat_le, exists_const, Option.map_none, beq_self_eq_true, decide_true, ↓sg_bsl, ↓st_callf, bX, ap_mkfn, ae_callvV, callvV_fn, List.cons_append, List.nil_append, boxV_i, boxV_dot, sto_dot, ap_conv, convV_int, bslV_0, fstep_d0, fstep_d1, bsl_dot, ae_appz, ap_cap, capV_nils, slcV_nils0, slcV_sl0, wrap_0, ae_clr, boxV_f, fstep_f, lod_new2, ↓st_appf, q_known]
  all_goals exact hK25
theorem q_united (cl : Bool) {s : St} {v w : AV} {X : DCx} (hv : read dotC s v = some X.v) (hw : read dotC s w = some X.c) (hlv : X.v.length ≤ 80000) (hlw : X.c.length ≤ 80000) {v' w' : AV} {Y : DCx} (kv : read dotC s v' = some Y.v) (kw : read dotC s w' = some Y.c) (klv : Y.v.length ≤ 80000) (klw : Y.c.length ≤ 80000) {v3 w3 : AV} {Z : DCx} (mv : read dotC s v3 = some Z.v) (mw : read dotC s w3 = some Z.c) (mlv : Z.v.length ≤ 80000) (mlw : Z.c.length ≤ 80000) (e2 : Int) (hcx : cvalid X = true) (hcy : cvalid Y = true) : acall R_united cl [.agg [v, w], .agg [v', w'], .agg [v3, w3], .int .i64 e2] s = some (.bool (decide (uniC X Y = Z) && decide (0 = e2)), s) := run_same n_united (by simp [a35]) rfl (w_united (s := lowd s) (read_low' hv) (read_low' hw) hlv hlw (read_low' kv) (read_low' kw) klv klw (read_low' mv) (read_low' mw) mlv mlw e2 hcx hcy)
theorem w_united_bad {s : St} {v w : AV} {X : DCx} (hv : read dotC s v = some X.v) (hw : read dotC s w = some X.c) (hlv : X.v.length ≤ 80000) (hlw : X.c.length ≤ 80000) {v' w' : AV} {Y : DCx} (kv : read dotC s v' = some Y.v) (kw : read dotC s w' = some Y.c) (klv : Y.v.length ≤ 80000) (klw : Y.c.length ≤ 80000) {v3 w3 : AV} {Z : DCx} (mv : read dotC s v3 = some Z.v) (mw : read dotC s w3 = some Z.c) (mlv : Z.v.length ≤ 80000) (mlw : Z.c.length ≤ 80000) (e2 : Int) (hbad : (cvalid X && cvalid Y) = false) : ∀ env : Env, elen env = a35.ntmps → (∀ i x_, [.agg [v, w], .agg [v', w'], .agg [v3, w3], .int .i64 e2][i]? = some x_ → E env i = x_) → awp (tb [(34, R_CUnion), (20, R_gives)]) a35.body (fun x e t => (∀ i, x ≠ .exit i) ∧ aresults e t a35.results = some (.bool (decide ((⟨[], []⟩ : DCx) = Z) && decide (2 = e2))) ∧ Keep s t) env s := by
  intro env hlen ha
  have h0 : E env 0 = _ := ha 0 _ rfl
  have h1 : E env 1 = _ := ha 1 _ rfl
  have h2 : E env 2 = _ := ha 2 _ rfl
  have h3 : E env 3 = _ := ha 3 _ rfl
  have hlen : elen env = _ := hlen
  simp only [a35] at hlen
  unfold a35
  try dsimp only [oO, oG]
  have hbx := boxV_2 (read_oneD hv).2 (read_oneD hw).2
  have hby := boxV_2 (read_oneD kv).2 (read_oneD kw).2
  have hbz := boxV_2 (read_oneD mv).2 (read_oneD mw).2
  have hk1 : Keep s (s.push (.row [v, w] true)) := (Keep.refl s).push _
  have hk2 : Keep (s.push (.row [v, w] true)) ((s.push (.row [v, w] true)).push (.row [v', w'] true)) := (Keep.refl _).push _
  have hk3 : Keep ((s.push (.row [v, w] true)).push (.row [v', w'] true)) (((s.push (.row [v, w] true)).push (.row [v', w'] true)).push (.row [v3, w3] true)) := (Keep.refl _).push _
  have hK2 := hk1.trans (hk2.trans hk3)
  obtain ⟨c1, c2, c3, c4⟩ := box_ctx s v w (hk2.trans hk3)
  obtain ⟨d1, d2, d3, d4⟩ := box_ctx (s.push (.row [v, w] true)) v' w' hk3
  obtain ⟨f1, f2, f3, f4⟩ := box_ctx ((s.push (.row [v, w] true)).push (.row [v', w'] true)) v3 w3 (.refl _)
  have q1 := q_CUnion_bad false (hK2.read hv) (hK2.read hw) hlv hlw (hK2.read kv) (hK2.read kw) klv klw hbad
  have hst := sto_ctx (show sameN (((s.push (.row [v, w] true)).push (.row [v', w'] true)).push (.row [v3, w3] true)).next (((s.push (.row [v, w] true)).push (.row [v', w'] true)).push (.row [v3, w3] true)) from rfl) (a := .nils) (b := .nils) rfl rfl
  have hK5 : Keep (((s.push (.row [v, w] true)).push (.row [v', w'] true)).push (.row [v3, w3] true)) ((((s.push (.row [v, w] true)).push (.row [v', w'] true)).push (.row [v3, w3] true)).lowed.push (.row [.nils, .nils] true)) := (Keep.refl _).lowed.push _
  obtain ⟨f1', f2', f3', f4'⟩ := box_ctx ((s.push (.row [v, w] true)).push (.row [v', w'] true)) v3 w3 hK5
  have hK25 := hK2.trans hK5
  have q3 := q_gives false (s := (((s.push (.row [v, w] true)).push (.row [v', w'] true)).push (.row [v3, w3] true)).lowed.push (.row [.nils, .nils] true)) (X := ⟨[], []⟩) (read_nils dotC _) (read_nils dotC _) (by simp) (by simp) (hK25.read mv) (hK25.read mw) (by unfold lim; omega) (by unfold lim; omega) 2 e2
  simp (config := {contextual := true, maxDischargeDepth := 12}) only [tb_at, h0, h1, h2, h3, hlen, hbx, hby, hbz, c1, c2, c3, c4, d1, d2, d3, d4, f1, f2, f3, f4, f1', f4', q1, hst, q3, ↓bD, bU, forall_const, List.all_cons, List.all_nil, Option.map_some, List.map_cons, List.map_nil, ne_eq, implies_true, isNx, eq_self, ↓wp_cond, ↓wp_loop, ↓reduceIte, reduceCtorEq, Nat.reduceEqDiff, Nat.reduceLT, Nat.reduceAdd, Nat.reduceMul, Int.ofNat_lt, Int.ofNat_le, exists_const, Option.map_none, beq_self_eq_true, decide_true, ↓sg_bsl, ↓st_callf, bX, ap_mkfn, ae_callvV, callvV_fn, List.cons_append, List.nil_append, boxV_i, boxV_dot, sto_dot, ap_conv, convV_int, bslV_0, fstep_d0, fstep_d1, bsl_dot, ae_appz, ap_cap, capV_nils, slcV_nils0, slcV_sl0, wrap_0, ae_clr, boxV_f, fstep_f, lod_new2, ↓st_appf, q_known]
  all_goals exact hK25
theorem q_united_bad (cl : Bool) {s : St} {v w : AV} {X : DCx} (hv : read dotC s v = some X.v) (hw : read dotC s w = some X.c) (hlv : X.v.length ≤ 80000) (hlw : X.c.length ≤ 80000) {v' w' : AV} {Y : DCx} (kv : read dotC s v' = some Y.v) (kw : read dotC s w' = some Y.c) (klv : Y.v.length ≤ 80000) (klw : Y.c.length ≤ 80000) {v3 w3 : AV} {Z : DCx} (mv : read dotC s v3 = some Z.v) (mw : read dotC s w3 = some Z.c) (mlv : Z.v.length ≤ 80000) (mlw : Z.c.length ≤ 80000) (e2 : Int) (hbad : (cvalid X && cvalid Y) = false) : acall R_united cl [.agg [v, w], .agg [v', w'], .agg [v3, w3], .int .i64 e2] s = some (.bool (decide ((⟨[], []⟩ : DCx) = Z) && decide (2 = e2)), s) := run_same n_united (by simp [a35]) rfl (w_united_bad (s := lowd s) (read_low' hv) (read_low' hw) hlv hlw (read_low' kv) (read_low' kw) klv klw (read_low' mv) (read_low' mw) mlv mlw e2 hbad)
noncomputable def R_hwithin : Con := runFn (tb [(33, R_CWithin)]) a36
theorem s_hwithin : SoundAt Try.prog 36 R_hwithin := run_sound (tb_sound (l := [(33, R_CWithin)]) (by simpa using s_CWithin)) mixed Try.func36 k36 c36
theorem n_hwithin : noNxtC a36.body = true := by kernel_rfl
theorem w_hwithin {s : St} {v w : AV} {X : DCx} (hv : read dotC s v = some X.v) (hw : read dotC s w = some X.c) (hlv : X.v.length ≤ 80000) (hlw : X.c.length ≤ 80000) {v' w' : AV} {Y : DCx} (kv : read dotC s v' = some Y.v) (kw : read dotC s w' = some Y.c) (klv : Y.v.length ≤ 80000) (klw : Y.c.length ≤ 80000) (b2 : Bool) (e2 : Int) (hcx : cvalid X = true) (hcy : cvalid Y = true) : ∀ env : Env, elen env = a36.ntmps → (∀ i x_, [.agg [v, w], .agg [v', w'], .bool b2, .int .i64 e2][i]? = some x_ → E env i = x_) → awp (tb [(33, R_CWithin)]) a36.body (fun x e t => (∀ i, x ≠ .exit i) ∧ aresults e t a36.results = some (.bool ((decide (uniC X Y = compC Y) == b2) && decide (0 = e2))) ∧ Keep s t) env s := by
  intro env hlen ha
  have h0 : E env 0 = _ := ha 0 _ rfl
  have h1 : E env 1 = _ := ha 1 _ rfl
  have h2 : E env 2 = _ := ha 2 _ rfl
  have h3 : E env 3 = _ := ha 3 _ rfl
  have hlen : elen env = _ := hlen
  simp only [a36] at hlen
  unfold a36
  try dsimp only [oO, oG]
  have hbx := boxV_2 (read_oneD hv).2 (read_oneD hw).2
  have hby := boxV_2 (read_oneD kv).2 (read_oneD kw).2
  have hK2 : Keep s ((s.push (.row [v, w] true)).push (.row [v', w'] true)) := ((Keep.refl s).push _).push _
  have hKx : Keep (s.push (.row [v, w] true)) ((s.push (.row [v, w] true)).push (.row [v', w'] true)) := (Keep.refl _).push _
  obtain ⟨c1, c2, c3, c4⟩ := box_ctx s v w hKx
  obtain ⟨d1, d2, d3, d4⟩ := box_ctx (s.push (.row [v, w] true)) v' w' (.refl _)
  have q1 := q_CWithin false (hK2.read hv) (hK2.read hw) hlv hlw (hK2.read kv) (hK2.read kw) klv klw hcx hcy
  simp (config := {contextual := true, maxDischargeDepth := 12}) only [tb_at, h0, h1, h2, h3, hlen, hbx, hby, c1, c2, c3, c4, d1, d2, d3, d4, q1, bin_eqb, ↓bD, bU, forall_const, List.all_cons, List.all_nil, Option.map_some, List.map_cons, List.map_nil, ne_eq, implies_true, isNx, eq_self, ↓wp_cond, ↓wp_loop, ↓reduceIte, reduceCtorEq, Nat.reduceEqDiff, Nat.reduceLT, Nat.reduceAdd, Nat.reduceMul, Int.ofNat_lt, Int.ofNat_le, exists_const, Option.map_none, beq_self_eq_true, decide_true, ↓sg_bsl, ↓st_callf, bX, ap_mkfn, ae_callvV, callvV_fn, List.cons_append, List.nil_append, boxV_i, boxV_dot, sto_dot, ap_conv, convV_int, bslV_0, fstep_d0, fstep_d1, bsl_dot, ae_appz, ap_cap, capV_nils, slcV_nils0, slcV_sl0, wrap_0, ae_clr, boxV_f, fstep_f, lod_new2, ↓st_appf, q_known]
  all_goals exact hK2
theorem q_hwithin (cl : Bool) {s : St} {v w : AV} {X : DCx} (hv : read dotC s v = some X.v) (hw : read dotC s w = some X.c) (hlv : X.v.length ≤ 80000) (hlw : X.c.length ≤ 80000) {v' w' : AV} {Y : DCx} (kv : read dotC s v' = some Y.v) (kw : read dotC s w' = some Y.c) (klv : Y.v.length ≤ 80000) (klw : Y.c.length ≤ 80000) (b2 : Bool) (e2 : Int) (hcx : cvalid X = true) (hcy : cvalid Y = true) : acall R_hwithin cl [.agg [v, w], .agg [v', w'], .bool b2, .int .i64 e2] s = some (.bool ((decide (uniC X Y = compC Y) == b2) && decide (0 = e2)), s) := run_same n_hwithin (by simp [a36]) rfl (w_hwithin (s := lowd s) (read_low' hv) (read_low' hw) hlv hlw (read_low' kv) (read_low' kw) klv klw b2 e2 hcx hcy)
theorem w_hwithin_bad {s : St} {v w : AV} {X : DCx} (hv : read dotC s v = some X.v) (hw : read dotC s w = some X.c) (hlv : X.v.length ≤ 80000) (hlw : X.c.length ≤ 80000) {v' w' : AV} {Y : DCx} (kv : read dotC s v' = some Y.v) (kw : read dotC s w' = some Y.c) (klv : Y.v.length ≤ 80000) (klw : Y.c.length ≤ 80000) (b2 : Bool) (e2 : Int) (hbad : (cvalid X && cvalid Y) = false) : ∀ env : Env, elen env = a36.ntmps → (∀ i x_, [.agg [v, w], .agg [v', w'], .bool b2, .int .i64 e2][i]? = some x_ → E env i = x_) → awp (tb [(33, R_CWithin)]) a36.body (fun x e t => (∀ i, x ≠ .exit i) ∧ aresults e t a36.results = some (.bool ((false == b2) && decide (2 = e2))) ∧ Keep s t) env s := by
  intro env hlen ha
  have h0 : E env 0 = _ := ha 0 _ rfl
  have h1 : E env 1 = _ := ha 1 _ rfl
  have h2 : E env 2 = _ := ha 2 _ rfl
  have h3 : E env 3 = _ := ha 3 _ rfl
  have hlen : elen env = _ := hlen
  simp only [a36] at hlen
  unfold a36
  try dsimp only [oO, oG]
  have hbx := boxV_2 (read_oneD hv).2 (read_oneD hw).2
  have hby := boxV_2 (read_oneD kv).2 (read_oneD kw).2
  have hK2 : Keep s ((s.push (.row [v, w] true)).push (.row [v', w'] true)) := ((Keep.refl s).push _).push _
  have hKx : Keep (s.push (.row [v, w] true)) ((s.push (.row [v, w] true)).push (.row [v', w'] true)) := (Keep.refl _).push _
  obtain ⟨c1, c2, c3, c4⟩ := box_ctx s v w hKx
  obtain ⟨d1, d2, d3, d4⟩ := box_ctx (s.push (.row [v, w] true)) v' w' (.refl _)
  have q1 := q_CWithin_bad false (hK2.read hv) (hK2.read hw) hlv hlw (hK2.read kv) (hK2.read kw) klv klw hbad
  simp (config := {contextual := true, maxDischargeDepth := 12}) only [tb_at, h0, h1, h2, h3, hlen, hbx, hby, c1, c2, c3, c4, d1, d2, d3, d4, q1, bin_eqb, ↓bD, bU, forall_const, List.all_cons, List.all_nil, Option.map_some, List.map_cons, List.map_nil, ne_eq, implies_true, isNx, eq_self, ↓wp_cond, ↓wp_loop, ↓reduceIte, reduceCtorEq, Nat.reduceEqDiff, Nat.reduceLT, Nat.reduceAdd, Nat.reduceMul, Int.ofNat_lt, Int.ofNat_le, exists_const, Option.map_none, beq_self_eq_true, decide_true, ↓sg_bsl, ↓st_callf, bX, ap_mkfn, ae_callvV, callvV_fn, List.cons_append, List.nil_append, boxV_i, boxV_dot, sto_dot, ap_conv, convV_int, bslV_0, fstep_d0, fstep_d1, bsl_dot, ae_appz, ap_cap, capV_nils, slcV_nils0, slcV_sl0, wrap_0, ae_clr, boxV_f, fstep_f, lod_new2, ↓st_appf, q_known]
  all_goals exact hK2
theorem q_hwithin_bad (cl : Bool) {s : St} {v w : AV} {X : DCx} (hv : read dotC s v = some X.v) (hw : read dotC s w = some X.c) (hlv : X.v.length ≤ 80000) (hlw : X.c.length ≤ 80000) {v' w' : AV} {Y : DCx} (kv : read dotC s v' = some Y.v) (kw : read dotC s w' = some Y.c) (klv : Y.v.length ≤ 80000) (klw : Y.c.length ≤ 80000) (b2 : Bool) (e2 : Int) (hbad : (cvalid X && cvalid Y) = false) : acall R_hwithin cl [.agg [v, w], .agg [v', w'], .bool b2, .int .i64 e2] s = some (.bool ((false == b2) && decide (2 = e2)), s) := run_same n_hwithin (by simp [a36]) rfl (w_hwithin_bad (s := lowd s) (read_low' hv) (read_low' hw) hlv hlw (read_low' kv) (read_low' kw) klv klw b2 e2 hbad)

end Go.AM
end
/-
  ContextDots and ContextMakes in the abstract machine. Own work of this project; in part printed by a program of it.
-/
section
set_option linter.unusedVariables false
set_option linter.unusedSimpArgs false
set_option maxRecDepth 100000
set_option maxHeartbeats 8000000
namespace Go.AM
open Go Go.Proofs

variable {s t u : St}

theorem sg_callf {call : Nat → List AV → St → Option (AV × St)} {base : Nat} {d : Option Nat} {r : Option Nat} {rest : List AOper} {Q : Env → St → Prop} {env : Env} {s : St} (f : Nat) (l : List AO) (t : Nat) (w : Bool) : awops call base (⟨d, .call f false l, some (t, w), r, true⟩ :: rest) Q env s = gcall s (E env t) w (acallF (call f) (l.map (aev env)) s) fun v t => awops call base rest Q (pE env d v) t := by
  rw [st_guard, st_callf]
  rfl
theorem q_CMissF {s : St} {v w : AV} {X : DCx} (hv : read dotC s v = some X.v) (hw : read dotC s w = some X.c) (hlv : X.v.length ≤ lim) (hlw : X.c.length ≤ lim) {u1 : AV} {l : List Dot} (hru : read dotC s u1 = some l) (hlu : l.length ≤ lim) : ∃ w3 t, acallF R_CMiss [.agg [v, w], u1] s = some (w3, t) ∧ read dotC t w3 = some ((setL l).filter fun d => !chas X d) ∧ Keep s t := by
  obtain ⟨w3, t, h1, h2, h3⟩ := q_CMiss (s := lowd s) (read_low' hv) (read_low' hw) hlv hlw (read_low' hru) hlu
  obtain ⟨t', g1, g2, g3, g4⟩ := acallF_keep h1 h3
  exact ⟨w3, t', g1, read_mono h2.read fun id b hb => by rw [g2]; exact hb, g4⟩
theorem q_RAddF {s : St} {v w : AV} {X : DCx} (hv : read dotC s v = some X.v) (hw : read dotC s w = some X.c) (hlv : X.v.length ≤ 80000) (hlw : X.c.length ≤ 80000) {u1 : AV} {l : List Dot} (hru : read dotC s u1 = some l) (hlu : l.length ≤ 80000) (hcv : cvalid X = true) (hlv2 : l.all Dot.valid = true) : ∃ vv cc t, acallF R_RAdd [.agg [v, w], u1] s = some (.agg [vv, cc], t) ∧ CR t vv cc (addC X l) ∧ Keep s t := by
  obtain ⟨vv, cc, t, h1, h2, h3⟩ := q_RAdd (s := lowd s) (read_low' hv) (read_low' hw) hlv hlw (read_low' hru) hlu hcv hlv2
  obtain ⟨t', g1, g2, g3, g4⟩ := acallF_keep h1 h3
  exact ⟨vv, cc, t', g1, h2.mono fun id b hb => by rw [g2]; exact hb, g4⟩
theorem s_ContextDots : SoundAt Try.prog 4 (lawC Try.prog 8 [25, 38, 22]) :=
  con_keep (tb_sound (l := [(8, R_light), (9, closed [] (.bool true)), (23, R_CHas), (24, R_RCHas), (26, R_CMiss), (27, R_RMiss), (25, R_RSame)]) (by simpa using ⟨s_light, s_known, s_CHas, s_RCHas, s_CMiss, s_RMiss, s_RSame⟩)) mixed Try.func4 k4 c4 fun args s r s' h => by
    obtain ⟨hh, rfl, rfl⟩ := lawC_some h
    obtain ⟨v0, w0, u0, rfl, hv0, hw0, hu0⟩ := rdas_3 hh
    obtain ⟨v, w, X, rfl, hv, hw⟩ := rda_ctx hv0
    obtain ⟨d, rfl⟩ := rda_dot hw0
    obtain ⟨l, hru⟩ := rda_dots hu0
    refine ⟨rfl, rfl, by simp [a4], fun env hlen ha => ?_⟩
    have h0 : E env 0 = _ := ha 0 _ rfl
    have h1 : E env 1 = _ := ha 1 _ rfl
    have h2 : E env 2 = _ := ha 2 _ rfl
    have hlen : elen env = _ := hlen
    simp only [a4] at hlen
    unfold a4
    try dsimp only [oO, oG]
    have hbx := boxV_2 (read_oneD hv).2 (read_oneD hw).2
    have hLu := lenV_read hru
    have hK2 : Keep s ((s.push (.row [v, w] true)).push (.row (Dot.av d) true)) := ((Keep.refl s).push _).push _
    have hKx : Keep (s.push (.row [v, w] true)) ((s.push (.row [v, w] true)).push (.row (Dot.av d) true)) := (Keep.refl _).push _
    obtain ⟨c1, c2, c3, c4⟩ := box_ctx s v w hKx
    obtain ⟨b1, b2, b3, b4⟩ := box_dot (s.push (.row [v, w] true)) d (.refl _)
    have ql := q_light false (hK2.read hv) (hK2.read hw)
    cases hX : (decide ((X.v.length : Int) ≤ 40) && decide ((X.c.length : Int) ≤ 40))
    · rw [hX] at ql
      simp (config := {contextual := true, maxDischargeDepth := 12}) only [tb_at, h0, h1, h2, hlen, hbx, c1, c2, c3, c4, b1, b2, b3, b4, ql, notV_bool, Bool.not_false, gpure_tf, pickV_t, ↓bD, bU, forall_const, List.all_cons, List.all_nil, Option.map_some, List.map_cons, List.map_nil, ne_eq, implies_true, isNx, eq_self, ↓wp_cond, ↓wp_loop, ↓reduceIte, reduceCtorEq, Nat.reduceEqDiff, Nat.reduceLT, Nat.reduceAdd, Nat.reduceMul, Int.ofNat_lt, Int.ofNat_le, exists_const, Option.map_none, beq_self_eq_true, decide_true, ↓sg_bsl, ↓st_callf, bX, ap_mkfn, ae_callvV, callvV_fn, List.cons_append, List.nil_append, boxV_i, boxV_dot, sto_dot, ap_conv, convV_int, bslV_0, fstep_d0, fstep_d1, bsl_dot, ae_appz, ap_cap, capV_nils, slcV_nils0, slcV_sl0, wrap_0, ae_clr, boxV_f, fstep_f, lod_new2, ↓st_appf, q_known, ↓sg_callf]
      all_goals exact hK2
    · rw [hX] at ql
      simp only [Bool.and_eq_true, decide_eq_true_eq] at hX
      by_cases hl : 40 < l.length
      · have hz := eq_true (show (40 : Int) < (l.length : Int) by omega)
        simp (config := {contextual := true, maxDischargeDepth := 12}) only [tb_at, h0, h1, h2, hlen, hbx, c1, c2, c3, c4, b1, b2, b3, b4, ql, notV_bool, Bool.not_true, hLu, hz, ↓bD, bU, forall_const, List.all_cons, List.all_nil, Option.map_some, List.map_cons, List.map_nil, ne_eq, implies_true, isNx, eq_self, ↓wp_cond, ↓wp_loop, ↓reduceIte, reduceCtorEq, Nat.reduceEqDiff, Nat.reduceLT, Nat.reduceAdd, Nat.reduceMul, Int.ofNat_lt, Int.ofNat_le, exists_const, Option.map_none, beq_self_eq_true, decide_true, ↓sg_bsl, ↓st_callf, bX, ap_mkfn, ae_callvV, callvV_fn, List.cons_append, List.nil_append, boxV_i, boxV_dot, sto_dot, ap_conv, convV_int, bslV_0, fstep_d0, fstep_d1, bsl_dot, ae_appz, ap_cap, capV_nils, slcV_nils0, slcV_sl0, wrap_0, ae_clr, boxV_f, fstep_f, lod_new2, ↓st_appf, q_known, ↓sg_callf]
        all_goals exact hK2
      · have hz := eq_false (show ¬ (40 : Int) < (l.length : Int) by omega)
        have q1 := q_CHas true (hK2.read hv) (hK2.read hw) (by unfold lim; omega) (by unfold lim; omega) d
        have q2 := q_RCHas false (hK2.read hv) (hK2.read hw) (by unfold lim; omega) (by unfold lim; omega) d
        obtain ⟨w3, t3, q3, hr3, hK3⟩ := q_CMissF (hK2.read hv) (hK2.read hw) (by unfold lim; omega) (by unfold lim; omega) (hK2.read hru) (by unfold lim; omega)
        obtain ⟨c1', c2', c3', c4'⟩ := box_ctx s v w (hKx.trans hK3)
        have hK23 := hK2.trans hK3
        obtain ⟨w4, t4, q4, hO4, hK4⟩ := q_RMiss (hK23.read hv) (hK23.read hw) (by unfold lim; omega) (by unfold lim; omega) (hK23.read hru) (by unfold lim; omega)
        have hl1 : ((setL l).filter fun d => !chas X d).length ≤ lim := Nat.le_trans (List.length_filter_le _ _) (Nat.le_trans (setL_len l) (by unfold lim; omega))
        have hl2 : (setL (l.filter fun d => !chas X d)).length ≤ lim := Nat.le_trans (setL_len _) (Nat.le_trans (List.length_filter_le _ _) (by unfold lim; omega))
        have q5 := q_RSame false (hK4.read hr3) hl1 hO4.read hl2
        rw [setL_filter, decide_eq_true rfl] at q5
        simp (config := {contextual := true, maxDischargeDepth := 12}) only [tb_at, h0, h1, h2, hlen, hbx, c1, c2, c3, c4, b1, b2, b3, b4, ql, notV_bool, Bool.not_true, hLu, hz, q1, q2, q3, c1', c4', q4, q5, reserve0, bin_eqb, gcall_tt, pickV_and, pickV_t, ↓bD, bU, forall_const, List.all_cons, List.all_nil, Option.map_some, List.map_cons, List.map_nil, ne_eq, implies_true, isNx, eq_self, ↓wp_cond, ↓wp_loop, ↓reduceIte, reduceCtorEq, Nat.reduceEqDiff, Nat.reduceLT, Nat.reduceAdd, Nat.reduceMul, Int.ofNat_lt, Int.ofNat_le, exists_const, Option.map_none, beq_self_eq_true, decide_true, ↓sg_bsl, ↓st_callf, bX, ap_mkfn, ae_callvV, callvV_fn, List.cons_append, List.nil_append, boxV_i, boxV_dot, sto_dot, ap_conv, convV_int, bslV_0, fstep_d0, fstep_d1, bsl_dot, ae_appz, ap_cap, capV_nils, slcV_nils0, slcV_sl0, wrap_0, ae_clr, boxV_f, fstep_f, lod_new2, ↓st_appf, q_known, ↓sg_callf]
        all_goals exact hK23.trans hK4
noncomputable def R_own : Con := runFn (tb []) a18
theorem s_own : SoundAt Try.prog 18 R_own := run_sound (tb_sound (l := []) (by simp)) mixed Try.func18 k18 c18
theorem n_own : noNxtC a18.body = true := by kernel_rfl
theorem w_own {s : St} {v w : AV} {X : DCx} (hv : read dotC s v = some X.v) (hw : read dotC s w = some X.c) (hlv : X.v.length ≤ 400000) (hlw : X.c.length ≤ 400000) : ∀ env : Env, elen env = a18.ntmps → (∀ i x_, [.agg [v, w]][i]? = some x_ → E env i = x_) → awp (tb []) a18.body (fun x e t => (∀ i, x ≠ .exit i) ∧ ∃ r, aresults e t a18.results = some r ∧ (∃ vv cc, r = .agg [vv, cc] ∧ CR t vv cc (X)) ∧ Keep s t) env s := by
  intro env hlen ha
  have h0 : E env 0 = _ := ha 0 _ rfl
  have hlen : elen env = _ := hlen
  simp only [a18] at hlen
  unfold a18
  try dsimp only [oO, oG]
  have hbx := boxV_2 (read_oneD hv).2 (read_oneD hw).2
  have hK1 : Keep s ((s.push (.row [v, w] true)).push (.row [.nils, .nils] true)) := ((Keep.refl s).push _).push _
  have hK1' : Keep (s.push (.row [v, w] true)) ((s.push (.row [v, w] true)).push (.row [.nils, .nils] true)) := (Keep.refl _).push _
  obtain ⟨c1, c2, c3, c4⟩ := box_ctx s v w hK1'
  have hst0 := sto_ctx (show sameN (s.push (.row [v, w] true)).next (s.push (.row [v, w] true)) from rfl) (a := .nils) (b := .nils) rfl rfl
  have hl0 : lod ((s.push (.row [v, w] true)).lowed.push (.row [.nils, .nils] true)) 2 (.ptr (s.push (.row [v, w] true)).next 0) = some (.agg [.nils, .nils]) := lod_row2 (St.get_push_new _ _)
  obtain ⟨w1, t1, ap1, hO1, hKa⟩ := appF_nil (hK1.read hv) (by omega)
  obtain ⟨c1', c2', c3', c4'⟩ := box_ctx s v w (hK1'.trans hKa)
  obtain ⟨w2, t2, ap2, hKb, hO2⟩ := appV_list (C := dotC) (Keep.refl t1) (.nil dotC t1 t1) ((hK1.trans hKa).read hw) 16 (by simp; unfold roomBytes; omega)
  rw [List.nil_append] at hO2
  have ap2 : appV t1 2 16 .nils w = some (w2, t2) := ap2
  have hKr := hKa.trans hKb
  have hR1 := hKb.read hO1.read
  have hone := read_oneD hR1
  have hone2 := read_oneD hO2.read
  have hf0 := fstep_s0 hone.1 hone.2 .nils .nils
  have hf1 := fstep_s1 hone2.1 hone2.2 w1 .nils
  have hR : CR t2 w1 w2 X := ⟨hR1, hO2.read⟩
  have hrb : t2.get (s.push (.row [v, w] true)).next = some (.row [.nils, .nils] true) := hKr.blk (St.get_push_new (s.push (.row [v, w] true)) _)
  have hstr := sto_row2 hrb (read_oneD hR.1).2 (read_oneD hR.2).2
  have hlr := St.get_lt hrb
  have hlo : lod (t2.put (s.push (.row [v, w] true)).next (.row [w1, w2] true)) 2 (.ptr (s.push (.row [v, w] true)).next 0) = some (.agg [w1, w2]) := lod_row2 (St.get_put_same hrb)
  simp (config := {contextual := true, maxDischargeDepth := 12}) only [tb_at, h0, hlen, hbx, c1, c2, c3, c4, c1', c2', c3', c4', ap1, ap2, ap_build, hf0, hf1, fillP_nil, fillP_cons, hstr, hlo, rc1, reserve0, ↓bD, bU, forall_const, List.all_cons, List.all_nil, Option.map_some, List.map_cons, List.map_nil, ne_eq, implies_true, isNx, eq_self, ↓wp_cond, ↓wp_loop, ↓reduceIte, reduceCtorEq, Nat.reduceEqDiff, Nat.reduceLT, Nat.reduceAdd, Nat.reduceMul, Int.ofNat_lt, Int.ofNat_le, exists_const, Option.map_none, beq_self_eq_true, decide_true, ↓sg_bsl, ↓st_callf, bX, ap_mkfn, ae_callvV, callvV_fn, List.cons_append, List.nil_append, boxV_i, boxV_dot, sto_dot, ap_conv, convV_int, bslV_0, fstep_d0, fstep_d1, bsl_dot, ae_appz, ap_cap, capV_nils, slcV_nils0, slcV_sl0, wrap_0, ae_clr, boxV_f, fstep_f, lod_new2, ↓st_appf, q_known, ↓sg_callf]
  exact ⟨_, rfl, ⟨w1, w2, rfl, cr_put hrb (by intro k n h; cases h) hR⟩, (hK1.trans hKr).put _ (by simp) hlr⟩
theorem q_own {s : St} {v w : AV} {X : DCx} (hv : read dotC s v = some X.v) (hw : read dotC s w = some X.c) (hlv : X.v.length ≤ 400000) (hlw : X.c.length ≤ 400000) : ∃ vv cc t, acall R_own false [.agg [v, w]] s = some (.agg [vv, cc], t) ∧ CR t vv cc (X) ∧ Keep s t := runC n_own (by simp [a18]) (w_own (s := lowd s) (read_low' hv) (read_low' hw) hlv hlw)
theorem s_ContextMakes : SoundAt Try.prog 5 (lawC Try.prog 8 [25, 22]) :=
  con_keep (tb_sound (l := [(8, R_light), (9, closed [] (.bool true)), (28, R_RDots), (29, R_made), (30, R_added), (31, R_RAdd), (11, R_RCValid), (18, R_own), (15, R_RCEqual), (25, R_RSame)]) (by simpa using ⟨s_light, s_known, s_RDots, s_made, s_added, s_RAdd, s_RCValid, s_own, s_RCEqual, s_RSame⟩)) mixed Try.func5 k5 c5 fun args s r s' h => by
    obtain ⟨hh, rfl, rfl⟩ := lawC_some h
    obtain ⟨v0, w0, rfl, hv0, hw0⟩ := rdas_2 hh
    obtain ⟨v, w, X, rfl, hv, hw⟩ := rda_ctx hv0
    obtain ⟨l, hru⟩ := rda_dots hw0
    refine ⟨rfl, rfl, by simp [a5], fun env hlen ha => ?_⟩
    have h0 : E env 0 = _ := ha 0 _ rfl
    have h1 : E env 1 = _ := ha 1 _ rfl
    have hlen : elen env = _ := hlen
    simp only [a5] at hlen
    unfold a5
    try dsimp only [oO, oG]
    have hbx := boxV_2 (read_oneD hv).2 (read_oneD hw).2
    have hLu := lenV_read hru
    have hK1 : Keep s (s.push (.row [v, w] true)) := (Keep.refl s).push _
    obtain ⟨c1, c2, c3, c4⟩ := box_ctx s v w (.refl _)
    have ql := q_light false (hK1.read hv) (hK1.read hw)
    cases hX : (decide ((X.v.length : Int) ≤ 40) && decide ((X.c.length : Int) ≤ 40))
    · rw [hX] at ql
      simp (config := {contextual := true, maxDischargeDepth := 12}) only [tb_at, h0, h1, hlen, hbx, c1, c2, c3, c4, ql, notV_bool, hLu, Bool.not_false, gpure_tf, pickV_t, ↓bD, bU, forall_const, List.all_cons, List.all_nil, Option.map_some, List.map_cons, List.map_nil, ne_eq, implies_true, isNx, eq_self, ↓wp_cond, ↓wp_loop, ↓reduceIte, reduceCtorEq, Nat.reduceEqDiff, Nat.reduceLT, Nat.reduceAdd, Nat.reduceMul, Int.ofNat_lt, Int.ofNat_le, exists_const, Option.map_none, beq_self_eq_true, decide_true, ↓sg_bsl, ↓st_callf, bX, ap_mkfn, ae_callvV, callvV_fn, List.cons_append, List.nil_append, boxV_i, boxV_dot, sto_dot, ap_conv, convV_int, bslV_0, fstep_d0, fstep_d1, bsl_dot, ae_appz, ap_cap, capV_nils, slcV_nils0, slcV_sl0, wrap_0, ae_clr, boxV_f, fstep_f, lod_new2, ↓st_appf, q_known, ↓sg_callf]
      all_goals exact hK1
    rw [hX] at ql
    simp only [Bool.and_eq_true, decide_eq_true_eq] at hX
    by_cases hl : 40 < l.length
    · have hz := eq_true (show (40 : Int) < (l.length : Int) by omega)
      simp (config := {contextual := true, maxDischargeDepth := 12}) only [tb_at, h0, h1, hlen, hbx, c1, c2, c3, c4, ql, notV_bool, hLu, Bool.not_true, hz, ↓bD, bU, forall_const, List.all_cons, List.all_nil, Option.map_some, List.map_cons, List.map_nil, ne_eq, implies_true, isNx, eq_self, ↓wp_cond, ↓wp_loop, ↓reduceIte, reduceCtorEq, Nat.reduceEqDiff, Nat.reduceLT, Nat.reduceAdd, Nat.reduceMul, Int.ofNat_lt, Int.ofNat_le, exists_const, Option.map_none, beq_self_eq_true, decide_true, ↓sg_bsl, ↓st_callf, bX, ap_mkfn, ae_callvV, callvV_fn, List.cons_append, List.nil_append, boxV_i, boxV_dot, sto_dot, ap_conv, convV_int, bslV_0, fstep_d0, fstep_d1, bsl_dot, ae_appz, ap_cap, capV_nils, slcV_nils0, slcV_sl0, wrap_0, ae_clr, boxV_f, fstep_f, lod_new2, ↓st_appf, q_known, ↓sg_callf]
      all_goals exact hK1
    have hz := eq_false (show ¬ (40 : Int) < (l.length : Int) by omega)
    have qd := q_RDots false (hK1.read hru) (by unfold lim; omega)
    have hv1 := hK1.read hv
    have hw1 := hK1.read hw
    have hu1 := hK1.read hru
    cases hld : l.all Dot.valid
    · rw [hld] at qd
      have q1 := q_made_bad false hu1 (by omega) (Y := ⟨[], []⟩) (read_nils dotC _) (read_nils dotC _) (by simp) (by simp) 2 hld
      have q2 := q_added_bad false hv1 hw1 (by omega) (by omega) (Y := ⟨[], []⟩) (read_nils dotC _) (read_nils dotC _) (by simp) (by simp) hu1 (by omega) 2 (by rw [hld, Bool.and_false])
      have hb : (decide ((⟨[], []⟩ : DCx) = ⟨[], []⟩) && decide ((2 : Int) = 2)) = true := by decide
      rw [hb] at q1 q2
      simp (config := {contextual := true, maxDischargeDepth := 12}) only [tb_at, h0, h1, hlen, hbx, c1, c2, c3, c4, ql, notV_bool, hLu, Bool.not_true, Bool.not_false, hz, qd, q1, q2, ap_build, fillP_nil, gcall_tt, pickV_t, pickV_and, ↓bD, bU, forall_const, List.all_cons, List.all_nil, Option.map_some, List.map_cons, List.map_nil, ne_eq, implies_true, isNx, eq_self, ↓wp_cond, ↓wp_loop, ↓reduceIte, reduceCtorEq, Nat.reduceEqDiff, Nat.reduceLT, Nat.reduceAdd, Nat.reduceMul, Int.ofNat_lt, Int.ofNat_le, exists_const, Option.map_none, beq_self_eq_true, decide_true, ↓sg_bsl, ↓st_callf, bX, ap_mkfn, ae_callvV, callvV_fn, List.cons_append, List.nil_append, boxV_i, boxV_dot, sto_dot, ap_conv, convV_int, bslV_0, fstep_d0, fstep_d1, bsl_dot, ae_appz, ap_cap, capV_nils, slcV_nils0, slcV_sl0, wrap_0, ae_clr, boxV_f, fstep_f, lod_new2, ↓st_appf, q_known, ↓sg_callf]
      all_goals exact hK1
    rw [hld] at qd
    have hA0 := add_len ⟨[], []⟩ l
    simp only [List.length_nil, Nat.zero_add] at hA0
    obtain ⟨ve, ce, t1, q1, hR1, hKa⟩ := q_RAdd (s := s.push (.row [v, w] true)) (X := ⟨[], []⟩) (read_nils dotC _) (read_nils dotC _) (by simp) (by simp) hu1 (by omega) cvalid_nil hld
    have q2 := q_made false (hKa.read hu1) (by omega) hR1.1 hR1.2 (by omega) (by omega) 0 hld
    have hb2 : (decide (addC ⟨[], []⟩ l = addC ⟨[], []⟩ l) && decide ((0 : Int) = 0)) = true := by simp
    rw [hb2] at q2
    obtain ⟨c1a, c2a, c3a, c4a⟩ := box_ctx s v w hKa
    have hKs := hK1.trans hKa
    have q3 := q_RCValid false (hKs.read hv) (hKs.read hw) (by unfold lim; omega) (by unfold lim; omega)
    cases hcv : cvalid X
    · rw [hcv] at q3
      have q4 := q_added_bad false (hKs.read hv) (hKs.read hw) (by omega) (by omega) (Y := ⟨[], []⟩) (read_nils dotC _) (read_nils dotC _) (by simp) (by simp) (hKs.read hru) (by omega) 2 (by rw [hcv, Bool.false_and])
      have hb : (decide ((⟨[], []⟩ : DCx) = ⟨[], []⟩) && decide ((2 : Int) = 2)) = true := by decide
      rw [hb] at q4
      simp (config := {contextual := true, maxDischargeDepth := 12}) only [tb_at, h0, h1, hlen, hbx, c1, c2, c3, c4, ql, notV_bool, hLu, Bool.not_true, Bool.not_false, hz, qd, q1, q2, c1a, c4a, q3, q4, ap_build, fillP_nil, gcall_tt, pickV_t, pickV_and, ↓bD, bU, forall_const, List.all_cons, List.all_nil, Option.map_some, List.map_cons, List.map_nil, ne_eq, implies_true, isNx, eq_self, ↓wp_cond, ↓wp_loop, ↓reduceIte, reduceCtorEq, Nat.reduceEqDiff, Nat.reduceLT, Nat.reduceAdd, Nat.reduceMul, Int.ofNat_lt, Int.ofNat_le, exists_const, Option.map_none, beq_self_eq_true, decide_true, ↓sg_bsl, ↓st_callf, bX, ap_mkfn, ae_callvV, callvV_fn, List.cons_append, List.nil_append, boxV_i, boxV_dot, sto_dot, ap_conv, convV_int, bslV_0, fstep_d0, fstep_d1, bsl_dot, ae_appz, ap_cap, capV_nils, slcV_nils0, slcV_sl0, wrap_0, ae_clr, boxV_f, fstep_f, lod_new2, ↓st_appf, q_known, ↓sg_callf]
      all_goals exact hKs
    rw [hcv] at q3
    obtain ⟨vo, co, t2, q4, hR2, hKb⟩ := q_own (hKs.read hv) (hKs.read hw) (by omega) (by omega)
    have hK2 := hKs.trans hKb
    obtain ⟨u2, t3, ap3, hKc, hO3⟩ := appV_list (C := dotC) (Keep.refl t2) (.nil dotC t2 t2) (hK2.read hru) 16 (by simp; unfold roomBytes; omega)
    rw [List.nil_append] at hO3
    have ap3 : appV t2 2 16 .nils w0 = some (u2, t3) := ap3
    have hR3 := hR2.keep hKc
    have hst := sto_ctx (show sameN t3.next t3 from rfl) (read_oneD hR3.1).2 (read_oneD hR3.2).2
    have hKd : Keep t3 (t3.lowed.push (.row [vo, co] true)) := (Keep.refl t3).lowed.push _
    have hR4 := hR3.keep hKd
    have hK4 := hK2.trans (hKc.trans hKd)
    obtain ⟨c1b, c2b, c3b, c4b⟩ := box_ctx s v w (hKa.trans (hKb.trans (hKc.trans hKd)))
    have hAl := add_len X l
    obtain ⟨vf, cf, t5, q5, hR5, hKe⟩ := q_RAddF (hK4.read hv) (hK4.read hw) (by omega) (by omega) (hK4.read hru) (by omega) hcv hld
    have hK5 := hK4.trans hKe
    have hR6 := hR4.keep hKe
    have q6 := q_added false hR6.1 hR6.2 (by omega) (by omega) hR5.1 hR5.2 (by omega) (by omega) (hKe.read (hKd.read hO3.read)) (by omega) 0 hcv hld
    have hb6 : (decide (addC X l = addC X l) && decide ((0 : Int) = 0)) = true := by simp
    rw [hb6] at q6
    obtain ⟨c1c, c2c, c3c, c4c⟩ := box_ctx s v w (hKa.trans (hKb.trans (hKc.trans (hKd.trans hKe))))
    have hbo : t5.get t3.next = some (.row [vo, co] true) := hKe.blk (St.get_push_new t3.lowed _)
    have hlo := lod_row2 hbo
    have hlto := lt_of_get hbo
    have q7 := q_RCEqual false hR6.1 hR6.2 (by unfold lim; omega) (by unfold lim; omega) (hK5.read hv) (hK5.read hw) (by unfold lim; omega) (by unfold lim; omega)
    rw [decide_eq_true rfl] at q7
    have q8 := q_RSame false (hKe.read (hKd.read hO3.read)) (by unfold lim; omega) (hK5.read hru) (by unfold lim; omega)
    rw [decide_eq_true rfl] at q8
    simp (config := {contextual := true, maxDischargeDepth := 12}) only [tb_at, h0, h1, hlen, hbx, c1, c2, c3, c4, ql, notV_bool, hLu, Bool.not_true, Bool.not_false, hz, qd, q1, q2, c1a, c4a, q3, q4, ap3, hst, c1b, c4b, q5, q6, c1c, c4c, hlo, hlto, q7, q8, ap_build, fillP_nil, gcall_tt, pickV_t, pickV_and, reserve0, ↓bD, bU, forall_const, List.all_cons, List.all_nil, Option.map_some, List.map_cons, List.map_nil, ne_eq, implies_true, isNx, eq_self, ↓wp_cond, ↓wp_loop, ↓reduceIte, reduceCtorEq, Nat.reduceEqDiff, Nat.reduceLT, Nat.reduceAdd, Nat.reduceMul, Int.ofNat_lt, Int.ofNat_le, exists_const, Option.map_none, beq_self_eq_true, decide_true, ↓sg_bsl, ↓st_callf, bX, ap_mkfn, ae_callvV, callvV_fn, List.cons_append, List.nil_append, boxV_i, boxV_dot, sto_dot, ap_conv, convV_int, bslV_0, fstep_d0, fstep_d1, bsl_dot, ae_appz, ap_cap, capV_nils, slcV_nils0, slcV_sl0, wrap_0, ae_clr, boxV_f, fstep_f, lod_new2, ↓st_appf, q_known, ↓sg_callf]
    all_goals exact hK5

end Go.AM
end
/-
  ContextLooks in the abstract machine. Own work of this project; in part printed by a program of it.
-/
section
set_option linter.unusedVariables false
set_option linter.unusedSimpArgs false
set_option maxRecDepth 100000
set_option maxHeartbeats 8000000
namespace Go.AM
open Go Go.Proofs

variable {s t u : St}

theorem q_RCompF {s : St} {v w : AV} {X : DCx} (hv : read dotC s v = some X.v) (hw : read dotC s w = some X.c) (hlv : X.v.length ≤ 200000) (hlw : X.c.length ≤ 200000) (hcv : cvalid X = true) : ∃ vv cc t, acallF R_RComp [.agg [v, w]] s = some (.agg [vv, cc], t) ∧ CR t vv cc (compC X) ∧ Keep s t := by
  obtain ⟨vv, cc, t, h1, h2, h3⟩ := q_RComp (s := lowd s) (read_low' hv) (read_low' hw) hlv hlw hcv
  obtain ⟨t', g1, g2, g3, g4⟩ := acallF_keep h1 h3
  exact ⟨vv, cc, t', g1, h2.mono fun id b hb => by rw [g2]; exact hb, g4⟩
/-- A list of one's own whose cells are numbers, whatever they are. -/
def IsI (v : AV) : Prop := ∃ k, v = .int .i64 k
def IR (t : St) (v : AV) (n : Nat) : Prop := (v = .nils ∧ n = 0) ∨ ∃ j cap cs, v = .sl j 0 n cap 2 ∧ t.get j = some (.row cs true) ∧ n * 2 ≤ cs.length ∧ ∀ c ∈ cs, IsI c
theorem cells_ints (l : List Dot) : ∀ c ∈ dotC.cells l, IsI c := by
  intro c hc
  simp only [Cod.cells, List.mem_flatten, List.mem_map] at hc
  obtain ⟨x, ⟨d, _, rfl⟩, hx⟩ := hc
  have e : dotC.enc d = [.int .i64 d.r, .int .i64 d.c] := rfl
  rw [e] at hx
  simp only [List.mem_cons, List.not_mem_nil, or_false] at hx
  rcases hx with rfl | rfl <;> exact ⟨_, rfl⟩
theorem NewX.ir {v : AV} {l : List Dot} (h : NewX dotC s t v l) : IR t v l.length := by
  rcases h with ⟨rfl, rfl⟩ | ⟨j, cap, rfl, _, h⟩
  · exact .inl ⟨rfl, rfl⟩
  · exact .inr ⟨j, cap, _, rfl, h, by rw [cells_len]; exact Nat.le_refl _, cells_ints l⟩
theorem IR.mono {v : AV} {n : Nat} (h : IR t v n) (k : ∀ id b, t.get id = some b → u.get id = some b) : IR u v n := h.imp id fun ⟨j, cap, cs, h1, h2, h3, h4⟩ => ⟨j, cap, cs, h1, k _ _ h2, h3, h4⟩
theorem IR.put {v : AV} {n j : Nat} {cs cs' : List AV} (h : IR t v n) (hg : t.get j = some (.row cs true)) (hl : cs'.length = cs.length) (hi : ∀ c ∈ cs', IsI c) : IR (t.put j (.row cs' true)) v n := by
  rcases h with h | ⟨j', cap, cs0, rfl, h2, h3, h4⟩
  · exact .inl h
  · by_cases e : j' = j
    · subst e
      rw [hg] at h2
      injection h2 with h2
      injection h2 with h2 _
      subst h2
      exact .inr ⟨j', cap, cs', rfl, St.get_put_same hg, by omega, hi⟩
    · exact .inr ⟨j', cap, cs0, rfl, by rw [St.get_put_ne _ _ (St.get_lt hg) e]; exact h2, h3, h4⟩
theorem IR.len {v : AV} {n : Nat} (h : IR t v n) : lenV v = some (.int .i64 (n : Int)) := by
  rcases h with ⟨rfl, rfl⟩ | ⟨j, cap, cs, rfl, _⟩ <;> rfl
/-- One more to an element's counter. -/
theorem IR.bump {v w : AV} {n m i : Nat} (h : IR t v n) (h' : IR t w m) (hi : i < n) (M : List Nat) (hM : ∀ id ∈ vids v, id ∈ M) : ∃ j k, iadV 2 v (.int .i64 (i : Int)) = some (.ptr j (i * 2)) ∧ lod1 t (.ptr j (i * 2 + 1)) = some (.int .i64 k) ∧
    ∀ x, ∃ t', sto t 1 (.ptr j (i * 2 + 1)) (.int .i64 x) = some (.und, t') ∧ IR t' v n ∧ IR t' w m ∧ Chg M t t' := by
  have h0 := h
  rcases h with ⟨_, rfl⟩ | ⟨j, cap, cs, rfl, h2, h3, h4⟩
  · omega
  · have hlt : i * 2 + 1 < cs.length := by omega
    obtain ⟨k, hk⟩ := h4 cs[i * 2 + 1] (by simp)
    refine ⟨j, k, by rw [iadV_nat hi, Nat.zero_add], by simp only [lod1, h2]; rw [List.getElem?_eq_getElem hlt, hk], fun x => ?_⟩
    have hl : (setAt cs (i * 2 + 1) [.int .i64 x]).length = cs.length := by simp [setAt]; omega
    have hint : ∀ c ∈ setAt cs (i * 2 + 1) [.int .i64 x], IsI c := by
      intro c hc
      simp only [setAt, List.mem_append, List.mem_singleton] at hc
      rcases hc with (hc | rfl) | hc
      · exact h4 c (List.mem_of_mem_take hc)
      · exact ⟨_, rfl⟩
      · exact h4 c (List.mem_of_mem_drop hc)
    refine ⟨t.put j (.row (setAt cs (i * 2 + 1) [.int .i64 x]) true), ?_, h0.put h2 hl hint, h'.put h2 hl hint, (Chg.refl M t).put _ (.inl (hM j (by simp [vids]))) (St.get_lt h2)⟩
    have hcond : (AV.int .i64 x).cells.length = 1 ∧ (AV.int .i64 x).cells.all AV.one = true ∧ i * 2 + 1 + 1 ≤ cs.length := ⟨rfl, rfl, by omega⟩
    simp only [sto, h2]
    rw [if_pos hcond]
    rfl
theorem s_ContextLooks : SoundAt Try.prog 3 (lawC Try.prog 8 [25, 25]) :=
  con_keep (tb_sound (l := [(8, R_light), (9, closed [] (.bool true)), (10, R_CValid), (11, R_RCValid), (12, R_IsC), (13, R_RIsC), (14, R_CEqual), (15, R_RCEqual), (16, R_compacts), (17, R_CSize), (18, R_own), (19, R_CComp), (21, R_RComp), (20, R_gives), (22, R_RSize)]) (by simpa using ⟨s_light, s_known, s_CValid, s_RCValid, s_IsC, s_RIsC, s_CEqual, s_RCEqual, s_compacts, s_CSize, s_own, s_CComp, s_RComp, s_gives, s_RSize⟩)) mixed Try.func3 k3 c3 fun args s r s' h => by
    obtain ⟨hh, rfl, rfl⟩ := lawC_some h
    obtain ⟨v0, w0, rfl, hv0, hw0⟩ := rdas_2 hh
    obtain ⟨v, w, X, rfl, hv, hw⟩ := rda_ctx hv0
    obtain ⟨v', w', Y, rfl, kv, kw⟩ := rda_ctx hw0
    refine ⟨rfl, rfl, by simp [a3], fun env hlen ha => ?_⟩
    have h0 : E env 0 = _ := ha 0 _ rfl
    have h1 : E env 1 = _ := ha 1 _ rfl
    have hlen : elen env = _ := hlen
    simp only [a3] at hlen
    unfold a3
    try dsimp only [oO, oG]
    have hbx := boxV_2 (read_oneD hv).2 (read_oneD hw).2
    have hby := boxV_2 (read_oneD kv).2 (read_oneD kw).2
    have hK2 : Keep s ((s.push (.row [v, w] true)).push (.row [v', w'] true)) := ((Keep.refl s).push _).push _
    have hKx : Keep (s.push (.row [v, w] true)) ((s.push (.row [v, w] true)).push (.row [v', w'] true)) := (Keep.refl _).push _
    obtain ⟨c1, c2, c3, c4⟩ := box_ctx s v w hKx
    obtain ⟨d1, d2, d3, d4⟩ := box_ctx (s.push (.row [v, w] true)) v' w' (.refl _)
    have qa := q_light false (hK2.read hv) (hK2.read hw)
    have qb := q_light false (hK2.read kv) (hK2.read kw)
    cases hX : (decide ((X.v.length : Int) ≤ 40) && decide ((X.c.length : Int) ≤ 40))
    · rw [hX] at qa
      simp (config := {contextual := true, maxDischargeDepth := 12}) only [tb_at, h0, h1, hlen, hbx, hby, c1, c2, c3, c4, d1, d2, d3, d4, qa, notV_bool, Bool.not_false, gpure_tf, gcall_tf, pickV_t, ↓bD, bU, forall_const, List.all_cons, List.all_nil, Option.map_some, List.map_cons, List.map_nil, ne_eq, implies_true, isNx, eq_self, ↓wp_cond, ↓wp_loop, ↓reduceIte, reduceCtorEq, Nat.reduceEqDiff, Nat.reduceLT, Nat.reduceAdd, Nat.reduceMul, Int.ofNat_lt, Int.ofNat_le, exists_const, Option.map_none, beq_self_eq_true, decide_true, ↓sg_bsl, ↓st_callf, bX, ap_mkfn, ae_callvV, callvV_fn, List.cons_append, List.nil_append, boxV_i, boxV_dot, sto_dot, ap_conv, convV_int, bslV_0, fstep_d0, fstep_d1, bsl_dot, ae_appz, ap_cap, capV_nils, slcV_nils0, slcV_sl0, wrap_0, ae_clr, boxV_f, fstep_f, lod_new2, ↓st_appf, q_known, ↓sg_callf]
      all_goals exact hK2
    rw [hX] at qa
    cases hY : (decide ((Y.v.length : Int) ≤ 40) && decide ((Y.c.length : Int) ≤ 40))
    · rw [hY] at qb
      simp (config := {contextual := true, maxDischargeDepth := 12}) only [tb_at, h0, h1, hlen, hbx, hby, c1, c2, c3, c4, d1, d2, d3, d4, qa, notV_bool, qb, Bool.not_true, Bool.not_false, ↓bD, bU, forall_const, List.all_cons, List.all_nil, Option.map_some, List.map_cons, List.map_nil, ne_eq, implies_true, isNx, eq_self, ↓wp_cond, ↓wp_loop, ↓reduceIte, reduceCtorEq, Nat.reduceEqDiff, Nat.reduceLT, Nat.reduceAdd, Nat.reduceMul, Int.ofNat_lt, Int.ofNat_le, exists_const, Option.map_none, beq_self_eq_true, decide_true, ↓sg_bsl, ↓st_callf, bX, ap_mkfn, ae_callvV, callvV_fn, List.cons_append, List.nil_append, boxV_i, boxV_dot, sto_dot, ap_conv, convV_int, bslV_0, fstep_d0, fstep_d1, bsl_dot, ae_appz, ap_cap, capV_nils, slcV_nils0, slcV_sl0, wrap_0, ae_clr, boxV_f, fstep_f, lod_new2, ↓st_appf, q_known, ↓sg_callf]
      all_goals exact hK2
    rw [hY] at qb
    simp only [Bool.and_eq_true, decide_eq_true_eq] at hX hY
    have hv2 := hK2.read hv
    have hw2 := hK2.read hw
    have kv2 := hK2.read kv
    have kw2 := hK2.read kw
    have q1 := q_CValid true hv2 hw2 (by unfold lim; omega) (by unfold lim; omega)
    have q2 := q_RCValid false hv2 hw2 (by unfold lim; omega) (by unfold lim; omega)
    have q3 := q_IsC true hv2 hw2 (by unfold lim; omega) (by unfold lim; omega)
    have q4 := q_RIsC false hv2 hw2 (by unfold lim; omega) (by unfold lim; omega)
    have q5 := q_CEqual true hv2 hw2 (by unfold lim; omega) (by unfold lim; omega) kv2 kw2 (by unfold lim; omega) (by unfold lim; omega)
    have q6 := q_RCEqual false hv2 hw2 (by unfold lim; omega) (by unfold lim; omega) kv2 kw2 (by unfold lim; omega) (by unfold lim; omega)
    have q7 := q_CEqual false hv2 hw2 (by unfold lim; omega) (by unfold lim; omega) hv2 hw2 (by unfold lim; omega) (by unfold lim; omega)
    rw [decide_eq_true rfl] at q7
    cases hcv : cvalid X
    · rw [hcv] at q1 q2
      have q8 := q_compacts_bad false hv2 hw2 (by omega) (by omega) (Y := ⟨[], []⟩) (read_nils dotC _) (read_nils dotC _) (by simp) (by simp) 2 hcv
      have hb : (decide ((⟨[], []⟩ : DCx) = ⟨[], []⟩) && decide ((2 : Int) = 2)) = true := by decide
      rw [hb] at q8
      have q9 := q_CSize_bad false hv2 hw2 (by omega) (by omega) hcv
      simp (config := {contextual := true, maxDischargeDepth := 12}) only [tb_at, h0, h1, hlen, hbx, hby, c1, c2, c3, c4, d1, d2, d3, d4, qa, notV_bool, qb, Bool.not_true, Bool.not_false, q1, q2, q3, q4, q5, q6, q7, q8, q9, reserve0, bin_neb, pickV_t, pickV_and, gcall_tt, ap_build, fillP_nil, ↓bD, bU, forall_const, List.all_cons, List.all_nil, Option.map_some, List.map_cons, List.map_nil, ne_eq, implies_true, isNx, eq_self, ↓wp_cond, ↓wp_loop, ↓reduceIte, reduceCtorEq, Nat.reduceEqDiff, Nat.reduceLT, Nat.reduceAdd, Nat.reduceMul, Int.ofNat_lt, Int.ofNat_le, exists_const, Option.map_none, beq_self_eq_true, decide_true, ↓sg_bsl, ↓st_callf, bX, ap_mkfn, ae_callvV, callvV_fn, List.cons_append, List.nil_append, boxV_i, boxV_dot, sto_dot, ap_conv, convV_int, bslV_0, fstep_d0, fstep_d1, bsl_dot, ae_appz, ap_cap, capV_nils, slcV_nils0, slcV_sl0, wrap_0, ae_clr, boxV_f, fstep_f, lod_new2, ↓st_appf, q_known, ↓sg_callf]
      all_goals exact hK2
    rw [hcv] at q1 q2
    have hcl := comp_len X
    obtain ⟨vm, cm, t1, q8, hRm, hKa⟩ := q_own hv2 hw2 (by omega) (by omega)
    have hst := sto_ctx (show sameN t1.next t1 from rfl) (read_oneD hRm.1).2 (read_oneD hRm.2).2
    have hKb : Keep t1 (t1.lowed.push (.row [vm, cm] true)) := (Keep.refl t1).lowed.push _
    have hRm2 := hRm.keep hKb
    obtain ⟨vx, cx, t2, q9, hNx, hOx, hKc⟩ := q_CComp hRm2.1 hRm2.2 (by omega) (by omega) hcv
    have hst2 := sto_ctx (show sameN t2.next t2 from rfl) (read_oneD hNx.read).2 (read_oneD hOx.read).2
    have hKd : Keep t2 (t2.lowed.push (.row [vx, cx] true)) := (Keep.refl t2).lowed.push _
    have hK24 := hKa.trans (hKb.trans (hKc.trans hKd))
    obtain ⟨c1a, c2a, c3a, c4a⟩ := box_ctx s v w (hKx.trans hK24)
    have hKs := hK2.trans hK24
    obtain ⟨vr, cr, t3, q10, hRr, hKe⟩ := q_RCompF (hKs.read hv) (hKs.read hw) (by omega) (by omega) hcv
    have hVx3 := hKe.read (hKd.read hNx.read)
    have hCx3 := hKe.read (hKd.read hOx.read)
    have q11 := q_gives false hVx3 hCx3 (by unfold lim; omega) (by unfold lim; omega) hRr.1 hRr.2 (by unfold lim; omega) (by unfold lim; omega) 0 0
    rw [decide_eq_true rfl, decide_eq_true rfl] at q11
    have hK3 := hKs.trans hKe
    obtain ⟨c1b, c2b, c3b, c4b⟩ := box_ctx s v w (hKx.trans (hK24.trans hKe))
    have q12 := q_CSize true (hK3.read hv) (hK3.read hw) (by omega) (by omega) hcv
    have q13 := q_RSize false (hK3.read hv) (hK3.read hw) (by omega) (by omega) hcv
    have hbx3 : t3.get t2.next = some (.row [vx, cx] true) := hKe.blk (St.get_push_new t2.lowed _)
    have hbm3 : t3.get t1.next = some (.row [vm, cm] true) := hKe.blk (hKd.blk (hKc.blk (St.get_push_new t1.lowed _)))
    obtain ⟨g1, g2, g3⟩ := row2_lod hbx3
    have g4 := lod_row2 hbx3
    have hIx : IR t3 vx (compC X).v.length := hNx.ir.mono fun _ _ k => hKe.blk (hKd.blk k)
    have hIc : IR t3 cx (compC X).c.length := hOx.newX.ir.mono fun _ _ k => hKe.blk (hKd.blk k)
    have hMl : ∀ id ∈ vids vx ++ vids cx, t1.next < id ∧ id < t2.next := by
      intro id hid
      rcases List.mem_append.1 hid with h | h
      · have a1 := newX_vids hNx id h
        have a2 := newX_vidl hNx id h
        simp at a1
        have : t1.lowed.next = t1.next := rfl
        omega
      · have a1 := own_vids hOx id h
        have a2 := own_vidl hOx id h
        simp at a1
        have : t1.lowed.next = t1.next := rfl
        omega
    have hLx := hIx.len
    have hLc := hIc.len
    have hn2 : s.next + 2 ≤ t1.next := hKa.next
    have hn12 : t1.next < t2.next := hKc.next
    simp (config := {contextual := true, maxDischargeDepth := 12}) only [tb_at, h0, h1, hlen, hbx, hby, c1, c2, c3, c4, d1, d2, d3, d4, qa, notV_bool, qb, Bool.not_true, Bool.not_false, q1, q2, q3, q4, q5, q6, q7, q8, q9, hst, hst2, lod_new2, c1a, c4a, q10, q11, c1b, c4b, q12, q13, g1, g2, g3, g4, hLx, reserve0, bin_neb, pickV_t, pickV_and, gcall_tt, ↓bD, bU, forall_const, List.all_cons, List.all_nil, Option.map_some, List.map_cons, List.map_nil, ne_eq, implies_true, isNx, eq_self, ↓wp_cond, ↓wp_loop, ↓reduceIte, reduceCtorEq, Nat.reduceEqDiff, Nat.reduceLT, Nat.reduceAdd, Nat.reduceMul, Int.ofNat_lt, Int.ofNat_le, exists_const, Option.map_none, beq_self_eq_true, decide_true, ↓sg_bsl, ↓st_callf, bX, ap_mkfn, ae_callvV, callvV_fn, List.cons_append, List.nil_append, boxV_i, boxV_dot, sto_dot, ap_conv, convV_int, bslV_0, fstep_d0, fstep_d1, bsl_dot, ae_appz, ap_cap, capV_nils, slcV_nils0, slcV_sl0, wrap_0, ae_clr, boxV_f, fstep_f, lod_new2, ↓st_appf, q_known, ↓sg_callf]
    obtain ⟨I, hI⟩ : ∃ I : Nat → Env → St → Prop, ∀ n e t, I n e t = (Chg (vids vx ++ vids cx) t3 t ∧ ∃ i : Nat, n + i = (compC X).v.length ∧ elen e = 118 ∧ E e 2 = .ptr s.next 0 ∧ E e 5 = .ptr t1.next 0 ∧ E e 6 = .ptr t2.next 0 ∧ E e 82 = .int .i64 ((compC X).v.length : Int) ∧ E e 83 = .int .i64 (i : Int) ∧ IR t vx (compC X).v.length ∧ IR t cx (compC X).c.length) := ⟨fun n e t => (Chg (vids vx ++ vids cx) t3 t ∧ ∃ i : Nat, n + i = (compC X).v.length ∧ elen e = 118 ∧ E e 2 = .ptr s.next 0 ∧ E e 5 = .ptr t1.next 0 ∧ E e 6 = .ptr t2.next 0 ∧ E e 82 = .int .i64 ((compC X).v.length : Int) ∧ E e 83 = .int .i64 (i : Int) ∧ IR t vx (compC X).v.length ∧ IR t cx (compC X).c.length), fun _ _ _ => rfl⟩
    refine lwp_inv I (n := (compC X).v.length) ?_ ?_
    · rw [hI]
      exact ⟨Chg.refl _ _, 0, by omega, (by simp only [bE, Nat.reduceEqDiff, ne_eq, not_false_eq_true, Nat.reduceLT, hlen]; try rfl), (by simp only [bE, Nat.reduceEqDiff, ne_eq, not_false_eq_true, Nat.reduceLT, hlen]; try rfl), (by simp only [bE, Nat.reduceEqDiff, ne_eq, not_false_eq_true, Nat.reduceLT, hlen]; try rfl), (by simp only [bE, Nat.reduceEqDiff, ne_eq, not_false_eq_true, Nat.reduceLT, hlen]; try rfl), (by simp only [bE, Nat.reduceEqDiff, ne_eq, not_false_eq_true, Nat.reduceLT, hlen]; try rfl), (by simp only [bE, Nat.reduceEqDiff, ne_eq, not_false_eq_true, Nat.reduceLT, hlen]; try rfl), hIx, hIc⟩
    clear h0 h1 hlen hst hst2 q1 q2 q3 q4 q5 q6 q7 q8 q9 q10 q11 q12 q13 c1 c2 c3 c4 d1 d2 d3 d4 c1a c2a c3a c4a c1b c2b c3b c4b g1 g2 g3 g4
    intro n e t hi
    rw [hI] at hi
    obtain ⟨hK, i, hni, he, e2, e5, e6, e82, e83, hV, hC⟩ := hi
    have hbx := hK.blk hbx3 fun q => by have := hMl _ q; omega
    obtain ⟨g1, g2, g3⟩ := row2_lod hbx
    by_cases hlt : i < (compC X).v.length
    · have hw3 := wrap_add1 (n := i) (by omega)
      obtain ⟨j, k, i1, a1, hsto⟩ := hV.bump hC hlt (vids vx ++ vids cx) (fun id h => by simp [h])
      obtain ⟨t', hs', hV', hC', hch⟩ := hsto (IntKind.i64.wrap (k + 1))
      simp (config := {contextual := true, maxDischargeDepth := 12}) only [tb_at, he, e2, e5, e6, e82, e83, hlt, hw3, g1, g2, g3, i1, a1, hs', ↓bD, bU, forall_const, List.all_cons, List.all_nil, Option.map_some, List.map_cons, List.map_nil, ne_eq, implies_true, isNx, eq_self, ↓wp_cond, ↓wp_loop, ↓reduceIte, reduceCtorEq, Nat.reduceEqDiff, Nat.reduceLT, Nat.reduceAdd, Nat.reduceMul, Int.ofNat_lt, Int.ofNat_le, exists_const, Option.map_none, beq_self_eq_true, decide_true, ↓sg_bsl, ↓st_callf, bX, ap_mkfn, ae_callvV, callvV_fn, List.cons_append, List.nil_append, boxV_i, boxV_dot, sto_dot, ap_conv, convV_int, bslV_0, fstep_d0, fstep_d1, bsl_dot, ae_appz, ap_cap, capV_nils, slcV_nils0, slcV_sl0, wrap_0, ae_clr, boxV_f, fstep_f, lod_new2, ↓st_appf, q_known, ↓sg_callf]
      refine ⟨n - 1, by omega, ?_⟩
      rw [hI]
      exact ⟨hK.trans hch fun id h => .inl h, i + 1, by omega, (by simp only [bE, Nat.reduceEqDiff, ne_eq, not_false_eq_true, Nat.reduceLT, he, e2, e5, e6, e82, e83]; try rfl), (by simp only [bE, Nat.reduceEqDiff, ne_eq, not_false_eq_true, Nat.reduceLT, he, e2, e5, e6, e82, e83]; try rfl), (by simp only [bE, Nat.reduceEqDiff, ne_eq, not_false_eq_true, Nat.reduceLT, he, e2, e5, e6, e82, e83]; try rfl), (by simp only [bE, Nat.reduceEqDiff, ne_eq, not_false_eq_true, Nat.reduceLT, he, e2, e5, e6, e82, e83]; try rfl), (by simp only [bE, Nat.reduceEqDiff, ne_eq, not_false_eq_true, Nat.reduceLT, he, e2, e5, e6, e82, e83]; try rfl), (by simp only [bE, Nat.reduceEqDiff, ne_eq, not_false_eq_true, Nat.reduceLT, he, e2, e5, e6, e82, e83]; try rfl), hV', hC'⟩
    · obtain rfl : i = (compC X).v.length := by omega
      simp (config := {contextual := true, maxDischargeDepth := 12}) only [tb_at, he, e2, e5, e6, e82, e83, hlt, g1, g2, g3, hLc, ↓bD, bU, forall_const, List.all_cons, List.all_nil, Option.map_some, List.map_cons, List.map_nil, ne_eq, implies_true, isNx, eq_self, ↓wp_cond, ↓wp_loop, ↓reduceIte, reduceCtorEq, Nat.reduceEqDiff, Nat.reduceLT, Nat.reduceAdd, Nat.reduceMul, Int.ofNat_lt, Int.ofNat_le, exists_const, Option.map_none, beq_self_eq_true, decide_true, ↓sg_bsl, ↓st_callf, bX, ap_mkfn, ae_callvV, callvV_fn, List.cons_append, List.nil_append, boxV_i, boxV_dot, sto_dot, ap_conv, convV_int, bslV_0, fstep_d0, fstep_d1, bsl_dot, ae_appz, ap_cap, capV_nils, slcV_nils0, slcV_sl0, wrap_0, ae_clr, boxV_f, fstep_f, lod_new2, ↓st_appf, q_known, ↓sg_callf]
      obtain ⟨I2, hI2⟩ : ∃ I : Nat → Env → St → Prop, ∀ n e t, I n e t = (Chg (vids vx ++ vids cx) t3 t ∧ ∃ i : Nat, n + i = (compC X).c.length ∧ elen e = 118 ∧ E e 2 = .ptr s.next 0 ∧ E e 5 = .ptr t1.next 0 ∧ E e 6 = .ptr t2.next 0 ∧ E e 98 = .int .i64 ((compC X).c.length : Int) ∧ E e 99 = .int .i64 (i : Int) ∧ IR t vx (compC X).v.length ∧ IR t cx (compC X).c.length) := ⟨fun n e t => (Chg (vids vx ++ vids cx) t3 t ∧ ∃ i : Nat, n + i = (compC X).c.length ∧ elen e = 118 ∧ E e 2 = .ptr s.next 0 ∧ E e 5 = .ptr t1.next 0 ∧ E e 6 = .ptr t2.next 0 ∧ E e 98 = .int .i64 ((compC X).c.length : Int) ∧ E e 99 = .int .i64 (i : Int) ∧ IR t vx (compC X).v.length ∧ IR t cx (compC X).c.length), fun _ _ _ => rfl⟩
      refine lwp_inv I2 (n := (compC X).c.length) ?_ ?_
      · rw [hI2]
        exact ⟨hK, 0, by omega, (by simp only [bE, Nat.reduceEqDiff, ne_eq, not_false_eq_true, Nat.reduceLT, he]; try rfl), (by simp only [bE, Nat.reduceEqDiff, ne_eq, not_false_eq_true, Nat.reduceLT, he, e2]; try rfl), (by simp only [bE, Nat.reduceEqDiff, ne_eq, not_false_eq_true, Nat.reduceLT, he, e5]; try rfl), (by simp only [bE, Nat.reduceEqDiff, ne_eq, not_false_eq_true, Nat.reduceLT, he, e6]; try rfl), (by simp only [bE, Nat.reduceEqDiff, ne_eq, not_false_eq_true, Nat.reduceLT, he]; try rfl), (by simp only [bE, Nat.reduceEqDiff, ne_eq, not_false_eq_true, Nat.reduceLT, he]; try rfl), hV, hC⟩
      clear hbx g1 g2 g3
      intro n e t hi
      rw [hI2] at hi
      obtain ⟨hK, i, hni, he, e2, e5, e6, e98, e99, hV, hC⟩ := hi
      have hbx := hK.blk hbx3 fun q => by have := hMl _ q; omega
      obtain ⟨g1, g2, g3⟩ := row2_lod hbx
      by_cases hlt : i < (compC X).c.length
      · have hw3 := wrap_add1 (n := i) (by omega)
        obtain ⟨j, k, i1, a1, hsto⟩ := hC.bump hV hlt (vids vx ++ vids cx) (fun id h => by simp [h])
        obtain ⟨t', hs', hC', hV', hch⟩ := hsto (IntKind.i64.wrap (k + 1))
        simp (config := {contextual := true, maxDischargeDepth := 12}) only [tb_at, he, e2, e5, e6, e98, e99, hlt, hw3, g1, g2, g3, i1, a1, hs', ↓bD, bU, forall_const, List.all_cons, List.all_nil, Option.map_some, List.map_cons, List.map_nil, ne_eq, implies_true, isNx, eq_self, ↓wp_cond, ↓wp_loop, ↓reduceIte, reduceCtorEq, Nat.reduceEqDiff, Nat.reduceLT, Nat.reduceAdd, Nat.reduceMul, Int.ofNat_lt, Int.ofNat_le, exists_const, Option.map_none, beq_self_eq_true, decide_true, ↓sg_bsl, ↓st_callf, bX, ap_mkfn, ae_callvV, callvV_fn, List.cons_append, List.nil_append, boxV_i, boxV_dot, sto_dot, ap_conv, convV_int, bslV_0, fstep_d0, fstep_d1, bsl_dot, ae_appz, ap_cap, capV_nils, slcV_nils0, slcV_sl0, wrap_0, ae_clr, boxV_f, fstep_f, lod_new2, ↓st_appf, q_known, ↓sg_callf]
        refine ⟨n - 1, by omega, ?_⟩
        rw [hI2]
        exact ⟨hK.trans hch fun id h => .inl h, i + 1, by omega, (by simp only [bE, Nat.reduceEqDiff, ne_eq, not_false_eq_true, Nat.reduceLT, he, e2, e5, e6, e98, e99]; try rfl), (by simp only [bE, Nat.reduceEqDiff, ne_eq, not_false_eq_true, Nat.reduceLT, he, e2, e5, e6, e98, e99]; try rfl), (by simp only [bE, Nat.reduceEqDiff, ne_eq, not_false_eq_true, Nat.reduceLT, he, e2, e5, e6, e98, e99]; try rfl), (by simp only [bE, Nat.reduceEqDiff, ne_eq, not_false_eq_true, Nat.reduceLT, he, e2, e5, e6, e98, e99]; try rfl), (by simp only [bE, Nat.reduceEqDiff, ne_eq, not_false_eq_true, Nat.reduceLT, he, e2, e5, e6, e98, e99]; try rfl), (by simp only [bE, Nat.reduceEqDiff, ne_eq, not_false_eq_true, Nat.reduceLT, he, e2, e5, e6, e98, e99]; try rfl), hV', hC'⟩
      · obtain rfl : i = (compC X).c.length := by omega
        have hbm := hK.blk hbm3 fun q => by have := hMl _ q; omega
        have hba := hK.blk (((hKx.trans (hK24.trans hKe)).blk (St.get_push_new s (.row [v, w] true)))) fun q => by have := hMl _ q; omega
        have m1 := lod_row2 hbm
        have m2 := lt_of_get hbm
        have m3 := lod_row2 hba
        have m4 := lt_of_get hba
        have hRm3 := hRm2.keep (hKc.trans (hKd.trans hKe))
        have hRa3 : CR t3 v w X := ⟨hK3.read hv, hK3.read hw⟩
        have hv0' := read_vidl hv
        have hw0' := read_vidl hw
        have hvm' := read_vidl hRm.1
        have hcm' := read_vidl hRm.2
        have r1 := read_chg hRm3.1 hK fun id h q => by have := hMl _ q; have := hvm' id h; omega
        have r2 := read_chg hRm3.2 hK fun id h q => by have := hMl _ q; have := hcm' id h; omega
        have r3 := read_chg hRa3.1 hK fun id h q => by have := hMl _ q; have := hv0' id h; omega
        have r4 := read_chg hRa3.2 hK fun id h q => by have := hMl _ q; have := hw0' id h; omega
        have q20 := q_RCEqual false r1 r2 (by unfold lim; omega) (by unfold lim; omega) r3 r4 (by unfold lim; omega) (by unfold lim; omega)
        rw [decide_eq_true rfl] at q20
        simp (config := {contextual := true, maxDischargeDepth := 12}) only [tb_at, he, e2, e5, e6, e98, e99, hlt, m1, m2, m3, m4, q20, gcall_tt, pickV_and, pickV_t, ↓bD, bU, forall_const, List.all_cons, List.all_nil, Option.map_some, List.map_cons, List.map_nil, ne_eq, implies_true, isNx, eq_self, ↓wp_cond, ↓wp_loop, ↓reduceIte, reduceCtorEq, Nat.reduceEqDiff, Nat.reduceLT, Nat.reduceAdd, Nat.reduceMul, Int.ofNat_lt, Int.ofNat_le, exists_const, Option.map_none, beq_self_eq_true, decide_true, ↓sg_bsl, ↓st_callf, bX, ap_mkfn, ae_callvV, callvV_fn, List.cons_append, List.nil_append, boxV_i, boxV_dot, sto_dot, ap_conv, convV_int, bslV_0, fstep_d0, fstep_d1, bsl_dot, ae_appz, ap_cap, capV_nils, slcV_nils0, slcV_sl0, wrap_0, ae_clr, boxV_f, fstep_f, lod_new2, ↓st_appf, q_known, ↓sg_callf]
        all_goals exact hK3.chgn hK fun id q => by have := hMl _ q; omega

end Go.AM
end
