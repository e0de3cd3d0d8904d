/-
  Contexts as the reference of layer 14 looks at them. Own work of this project; in part printed by a program of it.
-/
import Derived.Test.YtoacffbhciccnaaGreatP4
import Derived.KernelRfl
set_option linter.unusedVariables false
set_option linter.unusedSimpArgs false
section
set_option maxRecDepth 100000
set_option maxHeartbeats 8000000
namespace Go.AM
open Go Go.Proofs

variable {s t u : St}
noncomputable def R_JLast : Con := runFn (tb []) a55
theorem s_JLast : SoundAt Tryz.prog 55 R_JLast := run_sound (tb_sound (l := []) (by simp)) mixed Tryz.func55 k55 c55
theorem n_JLast : noNxtC a55.body = true := by kernel_rfl
theorem w_JLast {s : St} {v : AV} {l : List Dot} (hr : read dotC s v = some l) (hl : l.length ≤ lim) (q : Int) : ∀ env : Env, elen env = a55.ntmps → (∀ i x_, [v, .int .i64 q][i]? = some x_ → E env i = x_) → awp (tb []) a55.body (fun x e t => (∀ i, x ≠ .exit i) ∧ aresults e t a55.results = some (.int .i64 (vget l q)) ∧ Keep s t) env s := by
  intro env hlen ha
  have h0 : E env 0 = _ := ha 0 _ rfl
  have h1 : E env 1 = _ := ha 1 _ rfl
  have hlen : elen env = _ := hlen
  simp only [a55] at hlen
  unfold a55
  try dsimp only [oO, oG]
  have hL := lenV_read hr
  simp (config := {contextual := true, maxDischargeDepth := 12}) only [tb_at, h0, h1, hlen, hL, ↓bD, bU, forall_const, bS, implies_true, isNx, eq_self, ↓wp_cond, ↓wp_loop, ↓reduceIte, reduceCtorEq, Nat.reduceEqDiff, Nat.reduceLT, Nat.reduceAdd, Nat.reduceMul, bT, ↓sg_bsl, ↓st_callf, bX, ap_mkfn, ae_callvV, callvV_fn, List.cons_append, List.nil_append, boxV_i]
  obtain ⟨I, hI⟩ : ∃ I : Nat → Env → St → Prop, ∀ n e t, I n e t = (t = s ∧ ∃ i : Nat, n + i = l.length ∧ elen e = 24 ∧ E e 0 = v ∧ E e 1 = .int .i64 q ∧ E e 5 = .int .i64 (i : Int) ∧ ∀ k y, k < i → l[k]? = some y → y.r ≠ q) := ⟨fun n e t => (t = s ∧ ∃ i : Nat, n + i = l.length ∧ elen e = 24 ∧ E e 0 = v ∧ E e 1 = .int .i64 q ∧ E e 5 = .int .i64 (i : Int) ∧ ∀ k y, k < i → l[k]? = some y → y.r ≠ q), fun _ _ _ => rfl⟩
  refine lwp_inv I (n := l.length) ?_ ?_
  · rw [hI]
    exact ⟨rfl, 0, by omega, (by simp only [bE, Nat.reduceEqDiff, bN, Nat.reduceLT, hlen]; try rfl), (by simp only [bE, Nat.reduceEqDiff, bN, Nat.reduceLT, hlen, h0]; try rfl), (by simp only [bE, Nat.reduceEqDiff, bN, Nat.reduceLT, hlen, h1]; try rfl), (by simp only [bE, Nat.reduceEqDiff, bN, Nat.reduceLT, hlen]; try rfl), fun k y hk => by omega⟩
  intro n e t hi
  rw [hI] at hi
  obtain ⟨hK, i, hni, he, e0, e1, e5, hpre⟩ := hi
  subst hK
  by_cases hlt : i < l.length
  · obtain ⟨x, hx⟩ := getsome hlt
    have hw2 := wrap_add1 (n := i) (by unfold lim at hl; omega)
    obtain ⟨a1, a2, a3, a4⟩ := dot_lods hr (.refl _) hx
    have i1 := dot_idx hr hx .i64
    by_cases hp : x.r = q
    · have hz := eq_true hp
      have hS := vget_hit hx hp hpre
      simp (config := {contextual := true, maxDischargeDepth := 12}) only [tb_at, he, e0, e1, e5, hL, hlt, hw2, a1, a2, a3, i1, hz, hS, ↓bD, bU, forall_const, bS, implies_true, isNx, eq_self, ↓wp_cond, ↓wp_loop, ↓reduceIte, reduceCtorEq, Nat.reduceEqDiff, Nat.reduceLT, Nat.reduceAdd, Nat.reduceMul, bT, ↓sg_bsl, ↓st_callf, bX, ap_mkfn, ae_callvV, callvV_fn, List.cons_append, List.nil_append, boxV_i]
      all_goals first | exact .refl _ | skip
    · have hz := eq_false hp
      simp (config := {contextual := true, maxDischargeDepth := 12}) only [tb_at, he, e0, e1, e5, hL, hlt, hw2, a1, a2, a3, i1, hz, ↓bD, bU, forall_const, bS, implies_true, isNx, eq_self, ↓wp_cond, ↓wp_loop, ↓reduceIte, reduceCtorEq, Nat.reduceEqDiff, Nat.reduceLT, Nat.reduceAdd, Nat.reduceMul, bT, ↓sg_bsl, ↓st_callf, bX, ap_mkfn, ae_callvV, callvV_fn, List.cons_append, List.nil_append, boxV_i]
      refine ⟨n - 1, by omega, ?_⟩
      rw [hI]
      exact ⟨rfl, i + 1, by omega, (by simp only [bE, Nat.reduceEqDiff, bN, Nat.reduceLT, he, e0, e1, e5]; try rfl), (by simp only [bE, Nat.reduceEqDiff, bN, Nat.reduceLT, he, e0, e1, e5]; try rfl), (by simp only [bE, Nat.reduceEqDiff, bN, Nat.reduceLT, he, e0, e1, e5]; try rfl), (by simp only [bE, Nat.reduceEqDiff, bN, Nat.reduceLT, he, e0, e1, e5]; try rfl), pre_next (P := fun k y => y.r ≠ q) hx hpre hp⟩
  · obtain rfl : i = l.length := by omega
    have hS : vget l q = 0 := vget_none fun x hx => by
      obtain ⟨k, hk⟩ := List.getElem?_of_mem hx
      exact hpre k x (getlt hk) hk
    simp (config := {contextual := true, maxDischargeDepth := 12}) only [tb_at, he, e0, e1, e5, hL, hlt, hS, ↓bD, bU, forall_const, bS, implies_true, isNx, eq_self, ↓wp_cond, ↓wp_loop, ↓reduceIte, reduceCtorEq, Nat.reduceEqDiff, Nat.reduceLT, Nat.reduceAdd, Nat.reduceMul, bT, ↓sg_bsl, ↓st_callf, bX, ap_mkfn, ae_callvV, callvV_fn, List.cons_append, List.nil_append, boxV_i]
    all_goals first | exact .refl _ | skip
theorem q_JLast (cl : Bool) {s : St} {v : AV} {l : List Dot} (hr : read dotC s v = some l) (hl : l.length ≤ lim) (q : Int) : acall R_JLast cl [v, .int .i64 q] s = some (.int .i64 (vget l q), s) := run_same n_JLast (by simp [a55]) rfl (w_JLast (s := lowd s) (read_low' hr) hl q)
noncomputable def R_JSameD : Con := runFn (tb []) a67
theorem s_JSameD : SoundAt Tryz.prog 67 R_JSameD := run_sound (tb_sound (l := []) (by simp)) mixed Tryz.func67 k67 c67
theorem n_JSameD : noNxtC a67.body = true := by kernel_rfl
theorem w_JSameD {s : St} {v : AV} {l : List Dot} (hr : read dotC s v = some l) (hl : l.length ≤ lim) {w : AV} {m : List Dot} (hrw : read dotC s w = some m) (hm : m.length ≤ lim) : ∀ env : Env, elen env = a67.ntmps → (∀ i x_, [v, w][i]? = some x_ → E env i = x_) → awp (tb []) a67.body (fun x e t => (∀ i, x ≠ .exit i) ∧ aresults e t a67.results = some (.bool (decide (l = m))) ∧ Keep s t) env s := by
  intro env hlen ha
  have h0 : E env 0 = _ := ha 0 _ rfl
  have h1 : E env 1 = _ := ha 1 _ rfl
  have hlen : elen env = _ := hlen
  simp only [a67] at hlen
  unfold a67
  try dsimp only [oO, oG]
  have hL := lenV_read hr
  have hM := lenV_read hrw
  by_cases hlm : l.length = m.length
  · have hz : ((l.length : Int) = (m.length : Int)) = True := eq_true (by omega)
    simp (config := {contextual := true, maxDischargeDepth := 12}) only [tb_at, h0, h1, hlen, hL, hM, hz, ↓bD, bU, forall_const, bS, implies_true, isNx, eq_self, ↓wp_cond, ↓wp_loop, ↓reduceIte, reduceCtorEq, Nat.reduceEqDiff, Nat.reduceLT, Nat.reduceAdd, Nat.reduceMul, bT, ↓sg_bsl, ↓st_callf, bX, ap_mkfn, ae_callvV, callvV_fn, List.cons_append, List.nil_append, boxV_i]
    obtain ⟨I, hI⟩ : ∃ I : Nat → Env → St → Prop, ∀ n e t, I n e t = (t = s ∧ ∃ i : Nat, n + i = l.length ∧ elen e = 26 ∧ E e 0 = v ∧ E e 1 = w ∧ E e 5 = .int .i64 (i : Int) ∧ ∀ k y, k < i → l[k]? = some y → m[k]? = some y) := ⟨fun n e t => (t = s ∧ ∃ i : Nat, n + i = l.length ∧ elen e = 26 ∧ E e 0 = v ∧ E e 1 = w ∧ E e 5 = .int .i64 (i : Int) ∧ ∀ k y, k < i → l[k]? = some y → m[k]? = some y), fun _ _ _ => rfl⟩
    refine lwp_inv I (n := l.length) ?_ ?_
    · rw [hI]
      exact ⟨rfl, 0, by omega, (by simp only [bE, Nat.reduceEqDiff, bN, Nat.reduceLT, hlen]; try rfl), (by simp only [bE, Nat.reduceEqDiff, bN, Nat.reduceLT, hlen, h0]; try rfl), (by simp only [bE, Nat.reduceEqDiff, bN, Nat.reduceLT, hlen, h1]; try rfl), (by simp only [bE, Nat.reduceEqDiff, bN, Nat.reduceLT, hlen]; try rfl), fun k y hk => by omega⟩
    intro n e t hi
    rw [hI] at hi
    obtain ⟨hK, i, hni, he, e0, e1, e5, hpre⟩ := hi
    subst hK
    by_cases hlt : i < l.length
    · obtain ⟨x, hx⟩ := getsome hlt
      obtain ⟨y, hy⟩ := getsome (l := m) (i := i) (by omega)
      have hw2 := wrap_add1 (n := i) (by unfold lim at hl; omega)
      obtain ⟨a1, a2, a3, a4⟩ := dot_lods hr (.refl _) hx
      have i1 := dot_idx hr hx .i64
      obtain ⟨b1, b2, b3, b4⟩ := dot_lods hrw (.refl _) hy
      have i2 := dot_idx hrw hy .i64
      by_cases hp : x = y
      · have hz := eq_true hp
        simp (config := {contextual := true, maxDischargeDepth := 12}) only [tb_at, he, e0, e1, e5, hL, hM, hlt, hw2, a1, i1, b1, i2, hz, reserve0, ↓bD, bU, forall_const, bS, implies_true, isNx, eq_self, ↓wp_cond, ↓wp_loop, ↓reduceIte, reduceCtorEq, Nat.reduceEqDiff, Nat.reduceLT, Nat.reduceAdd, Nat.reduceMul, bT, ↓sg_bsl, ↓st_callf, bX, ap_mkfn, ae_callvV, callvV_fn, List.cons_append, List.nil_append, boxV_i]
        refine ⟨n - 1, by omega, ?_⟩
        rw [hI]
        exact ⟨rfl, i + 1, by omega, (by simp only [bE, Nat.reduceEqDiff, bN, Nat.reduceLT, he, e0, e1, e5]; try rfl), (by simp only [bE, Nat.reduceEqDiff, bN, Nat.reduceLT, he, e0, e1, e5]; try rfl), (by simp only [bE, Nat.reduceEqDiff, bN, Nat.reduceLT, he, e0, e1, e5]; try rfl), (by simp only [bE, Nat.reduceEqDiff, bN, Nat.reduceLT, he, e0, e1, e5]; try rfl), pre_next (P := fun k y => m[k]? = some y) hx hpre (by rw [hp]; exact hy)⟩
      · have hz := eq_false hp
        have hS : decide (l = m) = false := decide_eq_false (ne_at hx hy hp)
        simp (config := {contextual := true, maxDischargeDepth := 12}) only [tb_at, he, e0, e1, e5, hL, hM, hlt, hw2, a1, i1, b1, i2, hz, hS, reserve0, ↓bD, bU, forall_const, bS, implies_true, isNx, eq_self, ↓wp_cond, ↓wp_loop, ↓reduceIte, reduceCtorEq, Nat.reduceEqDiff, Nat.reduceLT, Nat.reduceAdd, Nat.reduceMul, bT, ↓sg_bsl, ↓st_callf, bX, ap_mkfn, ae_callvV, callvV_fn, List.cons_append, List.nil_append, boxV_i]
        all_goals first | exact .refl _ | skip
    · obtain rfl : i = l.length := by omega
      have hS : decide (l = m) = true := decide_eq_true (eq_of_at hlm fun k x y hx hy => by
        have := hpre k x (getlt hx) hx
        rw [hy] at this
        exact (Option.some.inj this).symm)
      simp (config := {contextual := true, maxDischargeDepth := 12}) only [tb_at, he, e0, e1, e5, hL, hM, hlt, hS, ↓bD, bU, forall_const, bS, implies_true, isNx, eq_self, ↓wp_cond, ↓wp_loop, ↓reduceIte, reduceCtorEq, Nat.reduceEqDiff, Nat.reduceLT, Nat.reduceAdd, Nat.reduceMul, bT, ↓sg_bsl, ↓st_callf, bX, ap_mkfn, ae_callvV, callvV_fn, List.cons_append, List.nil_append, boxV_i]
      all_goals first | exact .refl _ | skip
  · have hz : ((l.length : Int) = (m.length : Int)) = False := eq_false (by omega)
    have hS : decide (l = m) = false := decide_eq_false fun h => hlm (by rw [h])
    simp (config := {contextual := true, maxDischargeDepth := 12}) only [tb_at, h0, h1, hlen, hL, hM, hz, hS, ↓bD, bU, forall_const, bS, implies_true, isNx, eq_self, ↓wp_cond, ↓wp_loop, ↓reduceIte, reduceCtorEq, Nat.reduceEqDiff, Nat.reduceLT, Nat.reduceAdd, Nat.reduceMul, bT, ↓sg_bsl, ↓st_callf, bX, ap_mkfn, ae_callvV, callvV_fn, List.cons_append, List.nil_append, boxV_i]
    all_goals first | exact .refl _ | skip
theorem q_JSameD (cl : Bool) {s : St} {v : AV} {l : List Dot} (hr : read dotC s v = some l) (hl : l.length ≤ lim) {w : AV} {m : List Dot} (hrw : read dotC s w = some m) (hm : m.length ≤ lim) : acall R_JSameD cl [v, w] s = some (.bool (decide (l = m)), s) := run_same n_JSameD (by simp [a67]) rfl (w_JSameD (s := lowd s) (read_low' hr) hl (read_low' hrw) hm)
noncomputable def R_JSameC : Con := runFn (tb [(67, R_JSameD)]) a47
theorem s_JSameC : SoundAt Tryz.prog 47 R_JSameC := run_sound (tb_sound (l := [(67, R_JSameD)]) (by simpa using s_JSameD)) mixed Tryz.func47 k47 c47
theorem n_JSameC : noNxtC a47.body = true := by kernel_rfl
theorem w_JSameC {s : St} {v w : AV} {X : DCx} (hv : read dotC s v = some X.v) (hw : read dotC s w = some X.c) (hlv : X.v.length ≤ lim) (hlw : X.c.length ≤ lim) {v' w' : AV} {Y : DCx} (kv : read dotC s v' = some Y.v) (kw : read dotC s w' = some Y.c) (klv : Y.v.length ≤ lim) (klw : Y.c.length ≤ lim) : ∀ env : Env, elen env = a47.ntmps → (∀ i x_, [.agg [v, w], .agg [v', w']][i]? = some x_ → E env i = x_) → awp (tb [(67, R_JSameD)]) a47.body (fun x e t => (∀ i, x ≠ .exit i) ∧ aresults e t a47.results = some (.bool (decide (X = Y))) ∧ Keep s t) env s := by
  intro env hlen ha
  have h0 : E env 0 = _ := ha 0 _ rfl
  have h1 : E env 1 = _ := ha 1 _ rfl
  have hlen : elen env = _ := hlen
  simp only [a47] at hlen
  unfold a47
  try dsimp only [oO, oG]
  have hbx := boxV_2 (read_oneD hv).2 (read_oneD hw).2
  have hby := boxV_2 (read_oneD kv).2 (read_oneD kw).2
  have hK2 : Keep s ((s.push (.row [v, w] true)).push (.row [v', w'] true)) := ((Keep.refl s).push _).push _
  obtain ⟨c1, c2, c3, c4⟩ := box_ctx s v w ((Keep.refl _).push (.row [v', w'] true))
  obtain ⟨d1, d2, d3, d4⟩ := box_ctx (s.push (.row [v, w] true)) v' w' (.refl _)
  have q1 := q_JSameD false (hK2.read hv) hlv (hK2.read kv) klv
  have q2 := q_JSameD false (hK2.read hw) hlw (hK2.read kw) klw
  have hS : (decide (X.v = Y.v) && decide (X.c = Y.c)) = decide (X = Y) := by
    obtain ⟨xv, xc⟩ := X
    obtain ⟨yv, yc⟩ := Y
    rw [Bool.eq_iff_iff]
    simp
  simp (config := {contextual := true, maxDischargeDepth := 12}) only [tb_at, h0, h1, hlen, hbx, hby, c1, c2, c3, c4, d1, d2, d3, d4, q1, q2, hS, ↓bD, bU, forall_const, bS, implies_true, isNx, eq_self, ↓wp_cond, ↓wp_loop, ↓reduceIte, reduceCtorEq, Nat.reduceEqDiff, Nat.reduceLT, Nat.reduceAdd, Nat.reduceMul, bT, ↓sg_bsl, ↓st_callf, bX, ap_mkfn, ae_callvV, callvV_fn, List.cons_append, List.nil_append, boxV_i, boxV_dot, sto_dot]
  all_goals exact hK2
theorem q_JSameC (cl : Bool) {s : St} {v w : AV} {X : DCx} (hv : read dotC s v = some X.v) (hw : read dotC s w = some X.c) (hlv : X.v.length ≤ lim) (hlw : X.c.length ≤ lim) {v' w' : AV} {Y : DCx} (kv : read dotC s v' = some Y.v) (kw : read dotC s w' = some Y.c) (klv : Y.v.length ≤ lim) (klw : Y.c.length ≤ lim) : acall R_JSameC cl [.agg [v, w], .agg [v', w']] s = some (.bool (decide (X = Y)), s) := run_same n_JSameC (by simp [a47]) rfl (w_JSameC (s := lowd s) (read_low' hv) (read_low' hw) hlv hlw (read_low' kv) (read_low' kw) klv klw)
noncomputable def R_JHas : Con := runFn (tb [(55, R_JLast)]) a40
theorem s_JHas : SoundAt Tryz.prog 40 R_JHas := run_sound (tb_sound (l := [(55, R_JLast)]) (by simpa using s_JLast)) mixed Tryz.func40 k40 c40
theorem n_JHas : noNxtC a40.body = true := by kernel_rfl
theorem w_JHas {s : St} {v w : AV} {X : DCx} (hv : read dotC s v = some X.v) (hw : read dotC s w = some X.c) (hlv : X.v.length ≤ lim) (hlw : X.c.length ≤ lim) (d : Dot) : ∀ env : Env, elen env = a40.ntmps → (∀ i x_, [.agg [v, w], .agg (Dot.av d)][i]? = some x_ → E env i = x_) → awp (tb [(55, R_JLast)]) a40.body (fun x e t => (∀ i, x ≠ .exit i) ∧ aresults e t a40.results = some (.bool (jhas X d)) ∧ Keep s t) env s := by
  intro env hlen ha
  have h0 : E env 0 = _ := ha 0 _ rfl
  have h1 : E env 1 = _ := ha 1 _ rfl
  have hlen : elen env = _ := hlen
  simp only [a40] at hlen
  unfold a40
  try dsimp only [oO, oG]
  have hbx := boxV_2 (read_oneD hv).2 (read_oneD hw).2
  have hK2 : Keep s ((s.push (.row [v, w] true)).push (.row (Dot.av d) true)) := ((Keep.refl s).push _).push _
  have hK12 : Keep (s.push (.row [v, w] true)) ((s.push (.row [v, w] true)).push (.row (Dot.av d) true)) := (Keep.refl _).push _
  have hLc := lenV_read hw
  obtain ⟨c1, c2, c3, c4⟩ := box_ctx s v w hK12
  obtain ⟨b1, b2, b3, b4⟩ := box_dot (s.push (.row [v, w] true)) d (.refl _)
  have q1 := q_JLast true (hK2.read hv) hlv d.r
  by_cases hle : d.c ≤ vget X.v d.r
  · have hz := eq_true hle
    have hS : jhas X d = true := by unfold jhas; rw [decide_eq_true hle, Bool.true_or]
    rw [hS]
    simp (config := {contextual := true, maxDischargeDepth := 12}) only [tb_at, h0, h1, hlen, hbx, c1, c2, c3, c4, b1, b2, b3, b4, q1, hz, ↓bD, bU, forall_const, bS, implies_true, isNx, eq_self, ↓wp_cond, ↓wp_loop, ↓reduceIte, reduceCtorEq, Nat.reduceEqDiff, Nat.reduceLT, Nat.reduceAdd, Nat.reduceMul, bT, ↓sg_bsl, ↓st_callf, bX, List.cons_append, List.nil_append, ↓st_appf, bY, slcV_nils0N, slcV_sl0N, bslV_0N, bin_shr1, bsl_nd]
    all_goals first | exact hK2 | skip
  have hz := eq_false hle
  simp (config := {contextual := true, maxDischargeDepth := 12}) only [tb_at, h0, h1, hlen, hbx, c1, c2, c3, c4, b1, b2, b3, b4, q1, hz, ↓bD, bU, forall_const, bS, implies_true, isNx, eq_self, ↓wp_cond, ↓wp_loop, ↓reduceIte, reduceCtorEq, Nat.reduceEqDiff, Nat.reduceLT, Nat.reduceAdd, Nat.reduceMul, bT, ↓sg_bsl, ↓st_callf, bX, List.cons_append, List.nil_append, ↓st_appf, bY, slcV_nils0N, slcV_sl0N, bslV_0N, bin_shr1, bsl_nd]
  obtain ⟨I, hI⟩ : ∃ I : Nat → Env → St → Prop, ∀ n e t, I n e t = (Keep ((s.push (.row [v, w] true)).push (.row (Dot.av d) true)) t ∧ ∃ i : Nat, n + i = X.c.length ∧ elen e = 28 ∧ E e 2 = .ptr s.next 0 ∧ E e 3 = .ptr (s.push (.row [v, w] true)).next 0 ∧ E e 5 = .int .i64 (i : Int) ∧ ∀ k y, k < i → X.c[k]? = some y → y ≠ d) := ⟨fun n e t => (Keep ((s.push (.row [v, w] true)).push (.row (Dot.av d) true)) t ∧ ∃ i : Nat, n + i = X.c.length ∧ elen e = 28 ∧ E e 2 = .ptr s.next 0 ∧ E e 3 = .ptr (s.push (.row [v, w] true)).next 0 ∧ E e 5 = .int .i64 (i : Int) ∧ ∀ k y, k < i → X.c[k]? = some y → y ≠ d), fun _ _ _ => rfl⟩
  refine lwp_inv I (n := X.c.length) ?_ ?_
  · rw [hI]
    exact ⟨.refl _, 0, by omega, (by simp only [bE, Nat.reduceEqDiff, bN, Nat.reduceLT, hlen]; try rfl), (by simp only [bE, Nat.reduceEqDiff, bN, Nat.reduceLT, hlen]; try rfl), (by simp only [bE, Nat.reduceEqDiff, bN, Nat.reduceLT, hlen]; try rfl), (by simp only [bE, Nat.reduceEqDiff, bN, Nat.reduceLT, hlen]; try rfl), fun k y hk => by omega⟩
  clear h0 h1 hlen q1
  intro n e t hi
  rw [hI] at hi
  obtain ⟨hK, i, hni, he, e2, e3, e5, hpre⟩ := hi
  have hKt := hK2.trans hK
  obtain ⟨c1, c2, c3, c4⟩ := box_ctx s v w (hK12.trans hK)
  obtain ⟨b1, b2, b3, b4⟩ := box_dot (s.push (.row [v, w] true)) d hK
  by_cases hlt : i < X.c.length
  · obtain ⟨x, hx⟩ := getsome hlt
    have hw2 := wrap_add1 (n := i) (by unfold lim at hlw; omega)
    obtain ⟨a1, a2, a3, a4⟩ := dot_lods hw hKt hx
    have i1 := dot_idx hw hx .i64
    by_cases hp : x = d
    · have hzz := eq_true hp
      have hS : jhas X d = true := by unfold jhas; rw [decide_eq_true (show d ∈ X.c by rw [← hp]; exact mem_at hx), Bool.or_true]
      rw [hS]
      simp (config := {contextual := true, maxDischargeDepth := 12}) only [tb_at, he, e2, e3, e5, hLc, hlt, a1, a4, i1, b1, b4, c3, c4, hzz, ↓bD, bU, forall_const, bS, implies_true, isNx, eq_self, ↓wp_cond, ↓wp_loop, ↓reduceIte, reduceCtorEq, Nat.reduceEqDiff, Nat.reduceLT, Nat.reduceAdd, Nat.reduceMul, bT, ↓sg_bsl, ↓st_callf, bX, List.cons_append, List.nil_append, ↓st_appf, bY, slcV_nils0N, slcV_sl0N, bslV_0N, bin_shr1, bsl_nd]
      all_goals first | exact hKt | skip
    · have hzz := eq_false hp
      simp (config := {contextual := true, maxDischargeDepth := 12}) only [tb_at, he, e2, e3, e5, hLc, hlt, hw2, a1, a4, i1, b1, b4, c3, c4, hzz, ↓bD, bU, forall_const, bS, implies_true, isNx, eq_self, ↓wp_cond, ↓wp_loop, ↓reduceIte, reduceCtorEq, Nat.reduceEqDiff, Nat.reduceLT, Nat.reduceAdd, Nat.reduceMul, bT, ↓sg_bsl, ↓st_callf, bX, List.cons_append, List.nil_append, ↓st_appf, bY, slcV_nils0N, slcV_sl0N, bslV_0N, bin_shr1, bsl_nd]
      refine ⟨n - 1, by omega, ?_⟩
      rw [hI]
      exact ⟨hK, i + 1, by omega, (by simp only [bE, Nat.reduceEqDiff, bN, Nat.reduceLT, he, e2, e3, e5]; try rfl), (by simp only [bE, Nat.reduceEqDiff, bN, Nat.reduceLT, he, e2, e3, e5]; try rfl), (by simp only [bE, Nat.reduceEqDiff, bN, Nat.reduceLT, he, e2, e3, e5]; try rfl), (by simp only [bE, Nat.reduceEqDiff, bN, Nat.reduceLT, he, e2, e3, e5]; try rfl), pre_next (P := fun k y => y ≠ d) hx hpre hp⟩
  · obtain rfl : i = X.c.length := by omega
    have hS : jhas X d = false := by
      unfold jhas
      rw [decide_eq_false hle, Bool.false_or]
      refine decide_eq_false fun h => ?_
      obtain ⟨k, hk⟩ := List.getElem?_of_mem h
      exact hpre k d (getlt hk) hk rfl
    rw [hS]
    simp (config := {contextual := true, maxDischargeDepth := 12}) only [tb_at, he, e2, e3, e5, hLc, hlt, c3, c4, ↓bD, bU, forall_const, bS, implies_true, isNx, eq_self, ↓wp_cond, ↓wp_loop, ↓reduceIte, reduceCtorEq, Nat.reduceEqDiff, Nat.reduceLT, Nat.reduceAdd, Nat.reduceMul, bT, ↓sg_bsl, ↓st_callf, bX, List.cons_append, List.nil_append, ↓st_appf, bY, slcV_nils0N, slcV_sl0N, bslV_0N, bin_shr1, bsl_nd]
    all_goals first | exact hKt | skip
theorem q_JHas (cl : Bool) {s : St} {v w : AV} {X : DCx} (hv : read dotC s v = some X.v) (hw : read dotC s w = some X.c) (hlv : X.v.length ≤ lim) (hlw : X.c.length ≤ lim) (d : Dot) : acall R_JHas cl [.agg [v, w], .agg (Dot.av d)] s = some (.bool (jhas X d), s) := run_same n_JHas (by simp [a40]) rfl (w_JHas (s := lowd s) (read_low' hv) (read_low' hw) hlv hlw d)

theorem isC_false_v {X : DCx} (h : vvalid X.v = false) : isC X = false := by unfold isC cvalid; rw [h]; rfl
theorem isC_false_c {X : DCx} (h : setD X.c = false) : isC X = false := by unfold isC cvalid; rw [h]; cases vvalid X.v <;> rfl
theorem isC_false_d {X : DCx} {i : Nat} {x : Dot} (hx : X.c[i]? = some x) (h : x.valid = false) : isC X = false := by unfold isC cvalid; rw [all_false hx h]; cases vvalid X.v <;> cases setD X.c <;> rfl
theorem isC_false_n {X : DCx} {i : Nat} {x : Dot} (hx : X.c[i]? = some x) (h : x.c ≤ vget X.v x.r + 1) : isC X = false := by
  unfold isC
  have : X.c.any (near X.v) = true := List.any_eq_true.2 ⟨x, mem_at hx, by simpa [near] using h⟩
  rw [this]
  cases cvalid X <;> rfl
theorem prev_of {α : Type} {l : List α} {i j : Nat} {y z : α} (hy : l[i]? = some y) (hj : j + 1 = i + 1) (hz : l[j]? = some z) : z = y := by
  have : j = i := by omega
  subst this
  rw [hy] at hz
  injection hz with hz
  exact hz.symm
theorem isC_good {X : DCx} (hv : vvalid X.v = true) (h : ∀ k y, k < X.c.length → X.c[k]? = some y → y.valid = true ∧ (∀ j z, j + 1 = k → X.c[j]? = some z → z.before y = true) ∧ vget X.v y.r + 1 < y.c) : isC X = true := by
  refine (isC_iff X).2 ⟨?_, fun d hd => ?_⟩
  · unfold cvalid
    rw [hv, Bool.true_and, Bool.and_eq_true]
    exact ⟨(chain_iff Dot.before X.c).2 fun i x y hx hy => (h (i + 1) y (getlt hy) hy).2.1 i x rfl hx, all_at fun k y hk hy => (h k y hk hy).1⟩
  · obtain ⟨k, hk⟩ := List.getElem?_of_mem hd
    exact (h k d (getlt hk) hk).2.2
noncomputable def R_JComp : Con := runFn (tb [(53, conD fIsDot), (33, conDD fBefore), (55, R_JLast)]) a38
theorem s_JComp : SoundAt Tryz.prog 38 R_JComp := run_sound (tb_sound (l := [(53, conD fIsDot), (33, conDD fBefore), (55, R_JLast)]) (by simpa using ⟨s_IsDot, s_Before, s_JLast⟩)) mixed Tryz.func38 k38 c38
theorem n_JComp : noNxtC a38.body = true := by kernel_rfl
theorem w_JComp {s : St} {v w : AV} {X : DCx} (hv : read dotC s v = some X.v) (hw : read dotC s w = some X.c) (hlv : X.v.length ≤ lim) (hlw : X.c.length ≤ lim) : ∀ env : Env, elen env = a38.ntmps → (∀ i x_, [.agg [v, w]][i]? = some x_ → E env i = x_) → awp (tb [(53, conD fIsDot), (33, conDD fBefore), (55, R_JLast)]) a38.body (fun x e t => (∀ i, x ≠ .exit i) ∧ aresults e t a38.results = some (.bool (isC X)) ∧ Keep s t) env s := by
  intro env hlen ha
  have h0 : E env 0 = _ := ha 0 _ rfl
  have hlen : elen env = _ := hlen
  simp only [a38] at hlen
  unfold a38
  try dsimp only [oO, oG]
  have hbx := boxV_2 (read_oneD hv).2 (read_oneD hw).2
  have hLv := lenV_read hv
  have hLc := lenV_read hw
  simp (config := {contextual := true, maxDischargeDepth := 12}) only [tb_at, h0, hlen, hbx, ↓bD, bU, forall_const, bS, implies_true, isNx, eq_self, ↓wp_cond, ↓wp_loop, ↓reduceIte, reduceCtorEq, Nat.reduceEqDiff, Nat.reduceLT, Nat.reduceAdd, Nat.reduceMul, bT, ↓sg_bsl, ↓st_callf, bX, List.cons_append, List.nil_append, ↓st_appf, bY, slcV_nils0N, slcV_sl0N, bslV_0N, bin_shr1, bsl_nd]
  obtain ⟨I, hI⟩ : ∃ I : Nat → Env → St → Prop, ∀ n e t, I n e t = (Keep (s.push (.row [v, w] true)) t ∧ ∃ i : Nat, n + i = X.v.length ∧ elen e = 81 ∧ E e 1 = .ptr s.next 0 ∧ E e 3 = .int .i64 (i : Int) ∧ ∀ k y, k < i → X.v[k]? = some y → y.valid = true ∧ ∀ j z, j + 1 = k → X.v[j]? = some z → z.r < y.r) := ⟨fun n e t => (Keep (s.push (.row [v, w] true)) t ∧ ∃ i : Nat, n + i = X.v.length ∧ elen e = 81 ∧ E e 1 = .ptr s.next 0 ∧ E e 3 = .int .i64 (i : Int) ∧ ∀ k y, k < i → X.v[k]? = some y → y.valid = true ∧ ∀ j z, j + 1 = k → X.v[j]? = some z → z.r < y.r), fun _ _ _ => rfl⟩
  refine lwp_inv I (n := X.v.length) ?_ ?_
  · rw [hI]
    exact ⟨.refl _, 0, by omega, (by simp only [bE, Nat.reduceEqDiff, bN, Nat.reduceLT, hlen]; try rfl), (by simp only [bE, Nat.reduceEqDiff, bN, Nat.reduceLT, hlen]; try rfl), (by simp only [bE, Nat.reduceEqDiff, bN, Nat.reduceLT, hlen]; try rfl), fun k y hk => by omega⟩
  clear h0 hlen
  intro n e t hi
  rw [hI] at hi
  obtain ⟨hK, i, hni, he, e1, e3, hpre⟩ := hi
  have hK0 : Keep s t := ((Keep.refl s).push _).trans hK
  obtain ⟨c1, c2, c3, c4⟩ := box_ctx s v w hK
  by_cases hlt : i < X.v.length
  · obtain ⟨x, hx⟩ := getsome hlt
    have hw2 := wrap_add1 (n := i) (by unfold lim at hlv; omega)
    obtain ⟨a1, a2, a3, a4⟩ := dot_lods hv hK0 hx
    have i1 := dot_idx hv hx .i64
    have q1 := q_IsDot false x t
    cases hxv : x.valid
    · rw [hxv] at q1
      rw [isC_false_v (vvalid_bad hx hxv)]
      simp (config := {contextual := true, maxDischargeDepth := 12}) only [tb_at, he, e1, e3, hLv, hlt, a1, a4, i1, c2, c4, q1, notV_bool, Bool.not_true, Bool.not_false, ↓bD, bU, forall_const, bS, implies_true, isNx, eq_self, ↓wp_cond, ↓wp_loop, ↓reduceIte, reduceCtorEq, Nat.reduceEqDiff, Nat.reduceLT, Nat.reduceAdd, Nat.reduceMul, bT, ↓sg_bsl, ↓st_callf, bX, List.cons_append, List.nil_append, ↓st_appf, bY, slcV_nils0N, slcV_sl0N, bslV_0N, bin_shr1, bsl_nd]
      all_goals first | exact hK0 | skip
    rw [hxv] at q1
    rcases Nat.eq_zero_or_pos i with h0i | h0i
    · have hpos := eq_false (show ¬ (0 : Int) < (i : Int) by omega)
      simp (config := {contextual := true, maxDischargeDepth := 12}) only [tb_at, he, e1, e3, hLv, hlt, hw2, a1, a4, i1, c2, c4, q1, hpos, notV_bool, Bool.not_true, Bool.not_false, ↓bD, bU, forall_const, bS, implies_true, isNx, eq_self, ↓wp_cond, ↓wp_loop, ↓reduceIte, reduceCtorEq, Nat.reduceEqDiff, Nat.reduceLT, Nat.reduceAdd, Nat.reduceMul, bT, ↓sg_bsl, ↓st_callf, bX, List.cons_append, List.nil_append, ↓st_appf, bY, slcV_nils0N, slcV_sl0N, bslV_0N, bin_shr1, bsl_nd]
      refine ⟨n - 1, by omega, ?_⟩
      rw [hI]
      exact ⟨hK, i + 1, by omega, (by simp only [bE, Nat.reduceEqDiff, bN, Nat.reduceLT, he, e1, e3]; try rfl), (by simp only [bE, Nat.reduceEqDiff, bN, Nat.reduceLT, he, e1, e3]; try rfl), (by simp only [bE, Nat.reduceEqDiff, bN, Nat.reduceLT, he, e1, e3]; try rfl), pre_next (P := fun k y => y.valid = true ∧ ∀ j z, j + 1 = k → X.v[j]? = some z → z.r < y.r) hx hpre ⟨hxv, fun j z hj => by omega⟩⟩
    · obtain ⟨i, rfl⟩ : ∃ k, i = k + 1 := ⟨i - 1, by omega⟩
      obtain ⟨y, hy⟩ := getsome (l := X.v) (i := i) (by omega)
      have hw1 := wrap_sub1 (n := i) (by unfold lim at hlv; omega)
      obtain ⟨p1, p2, p3, p4⟩ := dot_lods hv hK0 hy
      have i2 := dot_idx hv hy .i64
      have hpos := eq_true (show (0 : Int) < ((i + 1 : Nat) : Int) by omega)
      by_cases hge : x.r ≤ y.r
      · have hz := eq_true hge
        rw [isC_false_v (vvalid_unsorted hy hx hge)]
        simp (config := {contextual := true, maxDischargeDepth := 12}) only [tb_at, he, e1, e3, hLv, hlt, hw1, a1, a2, a4, i1, p2, p4, i2, c2, c4, q1, hpos, hz, notV_bool, Bool.not_true, Bool.not_false, ↓bD, bU, forall_const, bS, implies_true, isNx, eq_self, ↓wp_cond, ↓wp_loop, ↓reduceIte, reduceCtorEq, Nat.reduceEqDiff, Nat.reduceLT, Nat.reduceAdd, Nat.reduceMul, bT, ↓sg_bsl, ↓st_callf, bX, List.cons_append, List.nil_append, ↓st_appf, bY, slcV_nils0N, slcV_sl0N, bslV_0N, bin_shr1, bsl_nd]
        all_goals first | exact hK0 | skip
      · have hz := eq_false hge
        simp (config := {contextual := true, maxDischargeDepth := 12}) only [tb_at, he, e1, e3, hLv, hlt, hw1, hw2, a1, a2, a4, i1, p2, p4, i2, c2, c4, q1, hpos, hz, notV_bool, Bool.not_true, Bool.not_false, ↓bD, bU, forall_const, bS, implies_true, isNx, eq_self, ↓wp_cond, ↓wp_loop, ↓reduceIte, reduceCtorEq, Nat.reduceEqDiff, Nat.reduceLT, Nat.reduceAdd, Nat.reduceMul, bT, ↓sg_bsl, ↓st_callf, bX, List.cons_append, List.nil_append, ↓st_appf, bY, slcV_nils0N, slcV_sl0N, bslV_0N, bin_shr1, bsl_nd]
        refine ⟨n - 1, by omega, ?_⟩
        rw [hI]
        exact ⟨hK, i + 1 + 1, by omega, (by simp only [bE, Nat.reduceEqDiff, bN, Nat.reduceLT, he, e1, e3]; try rfl), (by simp only [bE, Nat.reduceEqDiff, bN, Nat.reduceLT, he, e1, e3]; try rfl), (by simp only [bE, Nat.reduceEqDiff, bN, Nat.reduceLT, he, e1, e3]; try rfl), pre_next (P := fun k y => y.valid = true ∧ ∀ j z, j + 1 = k → X.v[j]? = some z → z.r < y.r) hx hpre ⟨hxv, fun j z hj hz2 => (by rw [prev_of hy hj hz2]; omega)⟩⟩
  · obtain rfl : i = X.v.length := by omega
    have hvv : vvalid X.v = true := vvalid_good fun k y hk hy => hpre k y hk hy
    simp (config := {contextual := true, maxDischargeDepth := 12}) only [tb_at, he, e1, e3, hLv, hlt, c2, c4, ↓bD, bU, forall_const, bS, implies_true, isNx, eq_self, ↓wp_cond, ↓wp_loop, ↓reduceIte, reduceCtorEq, Nat.reduceEqDiff, Nat.reduceLT, Nat.reduceAdd, Nat.reduceMul, bT, ↓sg_bsl, ↓st_callf, bX, List.cons_append, List.nil_append, ↓st_appf, bY, slcV_nils0N, slcV_sl0N, bslV_0N, bin_shr1, bsl_nd]
    obtain ⟨I2, hI2⟩ : ∃ I : Nat → Env → St → Prop, ∀ n e t, I n e t = (Keep (s.push (.row [v, w] true)) t ∧ ∃ i : Nat, n + i = X.c.length ∧ elen e = 81 ∧ E e 1 = .ptr s.next 0 ∧ E e 4 = .int .i64 (i : Int) ∧ ∀ k y, k < i → X.c[k]? = some y → y.valid = true ∧ (∀ j z, j + 1 = k → X.c[j]? = some z → z.before y = true) ∧ vget X.v y.r + 1 < y.c) := ⟨fun n e t => (Keep (s.push (.row [v, w] true)) t ∧ ∃ i : Nat, n + i = X.c.length ∧ elen e = 81 ∧ E e 1 = .ptr s.next 0 ∧ E e 4 = .int .i64 (i : Int) ∧ ∀ k y, k < i → X.c[k]? = some y → y.valid = true ∧ (∀ j z, j + 1 = k → X.c[j]? = some z → z.before y = true) ∧ vget X.v y.r + 1 < y.c), fun _ _ _ => rfl⟩
    refine lwp_inv I2 (n := X.c.length) ?_ ?_
    · rw [hI2]
      exact ⟨hK, 0, by omega, (by simp only [bE, Nat.reduceEqDiff, bN, Nat.reduceLT, he]; try rfl), (by simp only [bE, Nat.reduceEqDiff, bN, Nat.reduceLT, he, e1]; try rfl), (by simp only [bE, Nat.reduceEqDiff, bN, Nat.reduceLT, he]; try rfl), fun k y hk => by omega⟩
    clear hni he e3 hpre
    intro n e t hi
    rw [hI2] at hi
    obtain ⟨hK, i, hni, he, e1, e4, hpre2⟩ := hi
    have hK0 : Keep s t := ((Keep.refl s).push _).trans hK
    obtain ⟨c1, c2, c3, c4⟩ := box_ctx s v w hK
    by_cases hlt : i < X.c.length
    · obtain ⟨x, hx⟩ := getsome hlt
      have hw2 := wrap_add1 (n := i) (by unfold lim at hlw; omega)
      obtain ⟨a1, a2, a3, a4⟩ := dot_lods hw hK0 hx
      have i1 := dot_idx hw hx .i64
      have hKx : Keep t (t.lowed.push (.row (Dot.av x) true)) := (Keep.refl t).lowed.push _
      have hK0x := hK0.trans hKx
      have hKx1 := hK.trans hKx
      obtain ⟨d1, d2, d3, d4⟩ := box_ctx s v w hKx1
      obtain ⟨b1, b2, b3, b4⟩ := box_dot t.lowed x (.refl _)
      have q1 := q_IsDot false x (t.lowed.push (.row (Dot.av x) true))
      have q3 := q_JLast true (hK0x.read hv) hlv x.r
      have hwv := wrap_vget hvv x.r
      cases hxv : x.valid
      · rw [hxv] at q1
        rw [isC_false_d hx hxv]
        simp (config := {contextual := true, maxDischargeDepth := 12}) only [tb_at, he, e1, e4, hLc, hlt, a1, a4, i1, c3, c4, b1, b2, b3, b4, d1, d2, d3, d4, q1, q3, notV_bool, Bool.not_true, Bool.not_false, ↓bD, bU, forall_const, bS, implies_true, isNx, eq_self, ↓wp_cond, ↓wp_loop, ↓reduceIte, reduceCtorEq, Nat.reduceEqDiff, Nat.reduceLT, Nat.reduceAdd, Nat.reduceMul, bT, ↓sg_bsl, ↓st_callf, bX, List.cons_append, List.nil_append, ↓st_appf, bY, slcV_nils0N, slcV_sl0N, bslV_0N, bin_shr1, bsl_nd]
        all_goals first | exact hK0x | skip
      rw [hxv] at q1
      rcases Nat.eq_zero_or_pos i with h0i | h0i
      · have hpos := eq_false (show ¬ (0 : Int) < (i : Int) by omega)
        by_cases hn : x.c ≤ vget X.v x.r + 1
        · have hz := eq_true hn
          rw [isC_false_n hx hn]
          simp (config := {contextual := true, maxDischargeDepth := 12}) only [tb_at, he, e1, e4, hLc, hlt, a1, a4, i1, c3, c4, b1, b2, b3, b4, d1, d2, d3, d4, q1, q3, hwv, hz, hpos, notV_bool, Bool.not_true, Bool.not_false, ↓bD, bU, forall_const, bS, implies_true, isNx, eq_self, ↓wp_cond, ↓wp_loop, ↓reduceIte, reduceCtorEq, Nat.reduceEqDiff, Nat.reduceLT, Nat.reduceAdd, Nat.reduceMul, bT, ↓sg_bsl, ↓st_callf, bX, List.cons_append, List.nil_append, ↓st_appf, bY, slcV_nils0N, slcV_sl0N, bslV_0N, bin_shr1, bsl_nd]
          all_goals first | exact hK0x | skip
        · have hz := eq_false hn
          simp (config := {contextual := true, maxDischargeDepth := 12}) only [tb_at, he, e1, e4, hLc, hlt, hw2, a1, a4, i1, c3, c4, b1, b2, b3, b4, d1, d2, d3, d4, q1, q3, hwv, hz, hpos, notV_bool, Bool.not_true, Bool.not_false, ↓bD, bU, forall_const, bS, implies_true, isNx, eq_self, ↓wp_cond, ↓wp_loop, ↓reduceIte, reduceCtorEq, Nat.reduceEqDiff, Nat.reduceLT, Nat.reduceAdd, Nat.reduceMul, bT, ↓sg_bsl, ↓st_callf, bX, List.cons_append, List.nil_append, ↓st_appf, bY, slcV_nils0N, slcV_sl0N, bslV_0N, bin_shr1, bsl_nd]
          refine ⟨n - 1, by omega, ?_⟩
          rw [hI2]
          exact ⟨hKx1, i + 1, by omega, (by simp only [bE, Nat.reduceEqDiff, bN, Nat.reduceLT, he, e1, e4]; try rfl), (by simp only [bE, Nat.reduceEqDiff, bN, Nat.reduceLT, he, e1, e4]; try rfl), (by simp only [bE, Nat.reduceEqDiff, bN, Nat.reduceLT, he, e1, e4]; try rfl), pre_next (P := fun k y => y.valid = true ∧ (∀ j z, j + 1 = k → X.c[j]? = some z → z.before y = true) ∧ vget X.v y.r + 1 < y.c) hx hpre2 ⟨hxv, fun j z hj => by omega, by omega⟩⟩
      · obtain ⟨i, rfl⟩ : ∃ k, i = k + 1 := ⟨i - 1, by omega⟩
        obtain ⟨y, hy⟩ := getsome (l := X.c) (i := i) (by omega)
        have hw1 := wrap_sub1 (n := i) (by unfold lim at hlw; omega)
        obtain ⟨p1, p2, p3, p4⟩ := dot_lods hw hK0x hy
        have i2 := dot_idx hw hy .i64
        have hpos := eq_true (show (0 : Int) < ((i + 1 : Nat) : Int) by omega)
        have q2 := q_Before false y x (t.lowed.push (.row (Dot.av x) true))
        cases hb : y.before x
        · rw [hb] at q2
          rw [isC_false_c (setD_bad hy hx hb)]
          simp (config := {contextual := true, maxDischargeDepth := 12}) only [tb_at, he, e1, e4, hLc, hlt, hw1, a1, a4, i1, p1, p4, i2, c3, c4, b1, b2, b3, b4, d1, d2, d3, d4, q1, q2, q3, hpos, notV_bool, Bool.not_true, Bool.not_false, ↓bD, bU, forall_const, bS, implies_true, isNx, eq_self, ↓wp_cond, ↓wp_loop, ↓reduceIte, reduceCtorEq, Nat.reduceEqDiff, Nat.reduceLT, Nat.reduceAdd, Nat.reduceMul, bT, ↓sg_bsl, ↓st_callf, bX, List.cons_append, List.nil_append, ↓st_appf, bY, slcV_nils0N, slcV_sl0N, bslV_0N, bin_shr1, bsl_nd]
          all_goals first | exact hK0x | skip
        rw [hb] at q2
        by_cases hn : x.c ≤ vget X.v x.r + 1
        · have hz := eq_true hn
          rw [isC_false_n hx hn]
          simp (config := {contextual := true, maxDischargeDepth := 12}) only [tb_at, he, e1, e4, hLc, hlt, hw1, a1, a4, i1, p1, p4, i2, c3, c4, b1, b2, b3, b4, d1, d2, d3, d4, q1, q2, q3, hwv, hpos, hz, notV_bool, Bool.not_true, Bool.not_false, ↓bD, bU, forall_const, bS, implies_true, isNx, eq_self, ↓wp_cond, ↓wp_loop, ↓reduceIte, reduceCtorEq, Nat.reduceEqDiff, Nat.reduceLT, Nat.reduceAdd, Nat.reduceMul, bT, ↓sg_bsl, ↓st_callf, bX, List.cons_append, List.nil_append, ↓st_appf, bY, slcV_nils0N, slcV_sl0N, bslV_0N, bin_shr1, bsl_nd]
          all_goals first | exact hK0x | skip
        · have hz := eq_false hn
          simp (config := {contextual := true, maxDischargeDepth := 12}) only [tb_at, he, e1, e4, hLc, hlt, hw1, hw2, a1, a4, i1, p1, p4, i2, c3, c4, b1, b2, b3, b4, d1, d2, d3, d4, q1, q2, q3, hwv, hpos, hz, notV_bool, Bool.not_true, Bool.not_false, ↓bD, bU, forall_const, bS, implies_true, isNx, eq_self, ↓wp_cond, ↓wp_loop, ↓reduceIte, reduceCtorEq, Nat.reduceEqDiff, Nat.reduceLT, Nat.reduceAdd, Nat.reduceMul, bT, ↓sg_bsl, ↓st_callf, bX, List.cons_append, List.nil_append, ↓st_appf, bY, slcV_nils0N, slcV_sl0N, bslV_0N, bin_shr1, bsl_nd]
          refine ⟨n - 1, by omega, ?_⟩
          rw [hI2]
          exact ⟨hKx1, i + 1 + 1, by omega, (by simp only [bE, Nat.reduceEqDiff, bN, Nat.reduceLT, he, e1, e4]; try rfl), (by simp only [bE, Nat.reduceEqDiff, bN, Nat.reduceLT, he, e1, e4]; try rfl), (by simp only [bE, Nat.reduceEqDiff, bN, Nat.reduceLT, he, e1, e4]; try rfl), pre_next (P := fun k y => y.valid = true ∧ (∀ j z, j + 1 = k → X.c[j]? = some z → z.before y = true) ∧ vget X.v y.r + 1 < y.c) hx hpre2 ⟨hxv, fun j z hj hz2 => (by rw [prev_of hy hj hz2]; exact hb), by omega⟩⟩
    · obtain rfl : i = X.c.length := by omega
      rw [isC_good hvv hpre2]
      simp (config := {contextual := true, maxDischargeDepth := 12}) only [tb_at, he, e1, e4, hLc, hlt, c3, c4, ↓bD, bU, forall_const, bS, implies_true, isNx, eq_self, ↓wp_cond, ↓wp_loop, ↓reduceIte, reduceCtorEq, Nat.reduceEqDiff, Nat.reduceLT, Nat.reduceAdd, Nat.reduceMul, bT, ↓sg_bsl, ↓st_callf, bX, List.cons_append, List.nil_append, ↓st_appf, bY, slcV_nils0N, slcV_sl0N, bslV_0N, bin_shr1, bsl_nd]
      all_goals first | exact hK0 | skip
theorem q_JComp (cl : Bool) {s : St} {v w : AV} {X : DCx} (hv : read dotC s v = some X.v) (hw : read dotC s w = some X.c) (hlv : X.v.length ≤ lim) (hlw : X.c.length ≤ lim) : acall R_JComp cl [.agg [v, w]] s = some (.bool (isC X), s) := run_same n_JComp (by simp [a38]) rfl (w_JComp (s := lowd s) (read_low' hv) (read_low' hw) hlv hlw)

end Go.AM
end
/-
  Contexts as the reference of layer 14 makes them. Own work of this project; in part printed by a program of it.
-/
section
set_option maxRecDepth 100000
set_option maxHeartbeats 8000000
namespace Go.AM
open Go Go.Proofs

variable {s t u : St}

/-- A context that is being made: the result's box, its own box, its two lists. -/
structure CB (s t : St) (rb b : Nat) (vv cc : AV) (V C : List Dot) : Prop where
  keep : Keep s t
  rbox : t.get rb = some (.row [.nils, .nils] true)
  obox : t.get b = some (.row [vv, cc] true)
  vec : Own dotC s t vv V
  cld : Own dotC s t cc C
  vdis : ∀ id ∈ vids vv, id ≠ b ∧ id ≠ rb ∧ id ∉ vids cc
  cdis : ∀ id ∈ vids cc, id ≠ b ∧ id ≠ rb
  rge : s.next ≤ rb
  bge : s.next ≤ b
  ne : rb ≠ b
theorem CB.start (s : St) : CB s ((s.push (.row [.nils, .nils] true)).push (.row [.nils, .nils] true)) s.next (s.next + 1) .nils .nils [] [] :=
  ⟨((Keep.refl s).push _).push _, get_push_some _ (St.get_push_new s _), St.get_push_new (s.push (.row [.nils, .nils] true)) _, .nil _ _ _, .nil _ _ _, by simp [vids], by simp [vids], Nat.le_refl _, by omega, by omega⟩
theorem CB.low {rb b : Nat} {vv cc : AV} {V C : List Dot} (h : CB s t rb b vv cc V C) (x : List AV) : CB s (t.lowed.push (.row x true)) rb b vv cc V C :=
  ⟨h.keep.lowed.push _, get_push_some _ h.rbox, get_push_some _ h.obox, h.vec.mono fun _ _ k => get_push_some _ k, h.cld.mono fun _ _ k => get_push_some _ k, h.vdis, h.cdis, h.rge, h.bge, h.ne⟩
theorem CB.lowed {rb b : Nat} {vv cc : AV} {V C : List Dot} (h : CB s t rb b vv cc V C) : CB s t.lowed rb b vv cc V C :=
  ⟨h.keep.lowed, h.rbox, h.obox, h.vec.mono fun _ _ k => k, h.cld.mono fun _ _ k => k, h.vdis, h.cdis, h.rge, h.bge, h.ne⟩
theorem CB.appv {rb b : Nat} {vv cc : AV} {V C : List Dot} (h : CB s t rb b vv cc V C) (x : Dot) (hb : V.length + 1 ≤ 4000000) : ∃ vv' t', appV (t.push (.row (Dot.av x) true)) 2 16 vv (.sl t.next 0 1 (some 1) 2) = some (vv', t') ∧ sto t' 1 (.ptr b 0) vv' = some (.und, t'.put b (.row [vv', cc] true)) ∧ ltN b t' ∧ CB s (t'.put b (.row [vv', cc] true)) rb b vv' cc (V ++ [x]) C := by
  obtain ⟨t', h1, h2, h3, h4⟩ := app1D h.vec x hb
  have hob : t'.get b = some (.row [vv, cc] true) := h3.blk h.obox fun q => (h.vdis _ q).1 rfl
  have hrb : t'.get rb = some (.row [.nils, .nils] true) := h3.blk h.rbox fun q => (h.vdis _ q).2.1 rfl
  have hK : Keep s t' := h.keep.chgn h3 (own_vids h.vec)
  have hlb' := St.get_lt hob
  have hlo := St.get_lt h.obox
  have hlr := St.get_lt h.rbox
  refine ⟨_, t', h1, (row2_sto hob rfl rfl).1, hlb', ⟨hK.put _ h.bge hlb', ?_, St.get_put_same hob, .inr ⟨t.next + 1, by simp; rfl, by simp, ?_, ?_⟩, ?_, fun id hid => ?_, h.cdis, h.rge, h.bge, h.ne⟩⟩
  · rw [St.get_put_ne _ _ hlb' h.ne]; exact hrb
  · have := h.keep.next
    omega
  · rw [St.get_put_ne _ _ hlb' (by omega)]; exact h2
  · exact (h.cld.keep h3 fun id hid q => (h.vdis id q).2.2 hid).keep ((Chg.refl [b] t').put _ (.inl (by simp)) hlb') fun id hid => by
      have := (h.cdis id hid).1
      simpa using this
  · simp [vids] at hid
    refine ⟨by omega, by omega, fun q => ?_⟩
    have := own_vidl h.cld id q
    omega
/-- Another cloud, made beside. -/
theorem CB.setc {rb b : Nat} {vv cc : AV} {V C : List Dot} (h : CB s t rb b vv cc V C) {cc' : AV} {C' : List Dot} (hO : Own dotC t u cc' C') (hK : Keep t u) : sto u 1 (.ptr b 1) cc' = some (.und, u.put b (.row [vv, cc'] true)) ∧ ltN b u ∧ CB s (u.put b (.row [vv, cc'] true)) rb b vv cc' V C' := by
  have hob := hK.blk h.obox
  have hlb := St.get_lt hob
  have hlo := St.get_lt h.obox
  have hlr := St.get_lt h.rbox
  have hone := read_oneD hO.read
  have hge := own_vids hO
  refine ⟨(row2_sto hob hone.1 hone.2).2, hlb, ⟨(h.keep.trans hK).put _ h.bge hlb, ?_, St.get_put_same hob, ?_, ?_, fun id hid => ⟨(h.vdis id hid).1, (h.vdis id hid).2.1, fun q => ?_⟩, fun id hid => ?_, h.rge, h.bge, h.ne⟩⟩
  · rw [St.get_put_ne _ _ hlb h.ne]; exact hK.blk h.rbox
  · exact (h.vec.mono fun _ _ k => hK.blk k).keep ((Chg.refl [b] u).put _ (.inl (by simp)) hlb) fun id hid => by
      have := (h.vdis id hid).1
      simpa using this
  · refine (Own.from (s0 := s) hO h.keep.next).keep ((Chg.refl [b] u).put _ (.inl (by simp)) hlb) fun id hid => ?_
    have := hge id hid
    simp
    omega
  · have h1 := hge id q
    have h2 := own_vidl h.vec id hid
    omega
  · have := hge id hid
    omega
theorem CB.done {rb b : Nat} {vv cc : AV} {V C : List Dot} (h : CB s t rb b vv cc V C) : lod t 2 (.ptr b 0) = some (.agg [vv, cc]) ∧ sto t 2 (.ptr rb 0) (.agg [vv, cc]) = some (.und, t.put rb (.row [vv, cc] true)) ∧ ltN rb t ∧ lod (t.put rb (.row [vv, cc] true)) 2 (.ptr rb 0) = some (.agg [vv, cc]) ∧ CR (t.put rb (.row [vv, cc] true)) vv cc ⟨V, C⟩ ∧ Keep s (t.put rb (.row [vv, cc] true)) := by
  have hlr := St.get_lt h.rbox
  have hC : Chg [rb] t (t.put rb (.row [vv, cc] true)) := (Chg.refl _ _).put _ (.inl (by simp)) hlr
  refine ⟨lod_row2 h.obox, sto_row2 h.rbox (read_oneD h.vec.read).2 (read_oneD h.cld.read).2, hlr, lod_row2 (St.get_put_same h.rbox), ⟨(h.vec.keep hC fun id hid => ?_).read, (h.cld.keep hC fun id hid => ?_).read⟩, h.keep.put _ h.rge hlr⟩
  · have := (h.vdis id hid).2.1
    simpa using this
  · have := (h.cdis id hid).2
    simpa using this
end Go.AM
end
/-
  Plain laws of digests: the theorem of stage 16. Own work of this project.
-/
section
namespace Go.AM
open Go Go.Proofs

/-- The digest of a store. -/
def deadN (l : List Nd) : List Nd := l.filter fun n => decide (n.x = 0)
def dgOf (l : List Nd) : DDg := ⟨addC ⟨[], []⟩ (l.map Nd.d), addC ⟨[], []⟩ ((deadN l).map Nd.d)⟩
def dgMerge (a b : DDg) : DDg := ⟨uniC a.all b.all, uniC a.gone b.gone⟩
def dgWithin (a b : DDg) : Bool := jwithin a.all b.all && jwithin a.gone b.gone
structure DHolds (a b : List Nd) : Prop where
  sj : storeL (refJ a b) = true
  sd : storeL (diffD a (dgOf b)) = true
  j1 : joinsP a b = (refJ a b, 0)
  j2 : joinsP b (diffD a (dgOf b)) = (refJ a b, 0)
  w1 : withinP (diffD a (dgOf b)) a = (true, 0)
  m : dgOf (refJ a b) = dgMerge (dgOf a) (dgOf b)
  w2 : withinP a b = (dgWithin (dgOf a) (dgOf b), 0)
end Go.AM
end
/-
  Digests as the reference of layer 16 looks at them. Own work of this project; in part printed by a program of it.
-/
section
set_option maxRecDepth 100000
set_option maxHeartbeats 8000000
namespace Go.AM
open Go Go.Proofs

variable {s t u : St}

theorem boxV_4 {a b c d : AV} (ha : a.one = true) (hb : b.one = true) (hc : c.one = true) (hd : d.one = true) : boxV 4 (.agg [a, b, c, d]) = some (fun id => .ptr id 0, .row [a, b, c, d] true) := by
  simp [boxV, AV.cells, ha, hb, hc, hd]
theorem row4_lods {id : Nat} {a b c d : AV} {own : Bool} (h : t.get id = some (.row [a, b, c, d] own)) : lod t 4 (.ptr id 0) = some (.agg [a, b, c, d]) ∧ lod t 2 (.ptr id 0) = some (.agg [a, b]) ∧ lod t 2 (.ptr id 2) = some (.agg [c, d]) ∧ lod1 t (.ptr id 0) = some a ∧ lod1 t (.ptr id 1) = some b ∧ lod1 t (.ptr id 2) = some c ∧ lod1 t (.ptr id 3) = some d ∧ ltN id t :=
  ⟨by simp [lod, h], by simp [lod, h], by simp [lod, h], by simp [lod1, h], by simp [lod1, h], by simp [lod1, h], by simp [lod1, h], St.get_lt h⟩
theorem box_dg (s : St) (a b c d : AV) (hK : Keep (s.push (.row [a, b, c, d] true)) t) : lod t 4 (.ptr s.next 0) = some (.agg [a, b, c, d]) ∧ lod t 2 (.ptr s.next 0) = some (.agg [a, b]) ∧ lod t 2 (.ptr s.next 2) = some (.agg [c, d]) ∧ lod1 t (.ptr s.next 0) = some a ∧ lod1 t (.ptr s.next 1) = some b ∧ lod1 t (.ptr s.next 2) = some c ∧ lod1 t (.ptr s.next 3) = some d ∧ ltN s.next t :=
  row4_lods (hK.blk (St.get_push_new s _))
structure DgR (t : St) (a b c d : AV) (D : DDg) : Prop where
  r1 : read dotC t a = some D.all.v
  r2 : read dotC t b = some D.all.c
  r3 : read dotC t c = some D.gone.v
  r4 : read dotC t d = some D.gone.c
theorem DgR.mono {a b c d : AV} {D : DDg} (h : DgR t a b c d D) (k : ∀ id b, t.get id = some b → u.get id = some b) : DgR u a b c d D := ⟨read_mono h.r1 k, read_mono h.r2 k, read_mono h.r3 k, read_mono h.r4 k⟩
theorem DgR.keep {a b c d : AV} {D : DDg} (h : DgR t a b c d D) (k : Keep t u) : DgR u a b c d D := h.mono fun _ _ => k.blk
theorem DgR.low {a b c d : AV} {D : DDg} (h : DgR s a b c d D) : DgR (lowd s) a b c d D := ⟨read_low' h.r1, read_low' h.r2, read_low' h.r3, read_low' h.r4⟩
theorem DgR.box {a b c d : AV} {D : DDg} (h : DgR t a b c d D) : boxV 4 (.agg [a, b, c, d]) = some (fun id => .ptr id 0, .row [a, b, c, d] true) := boxV_4 (read_oneD h.r1).2 (read_oneD h.r2).2 (read_oneD h.r3).2 (read_oneD h.r4).2
theorem DgR.nils : DgR t .nils .nils .nils .nils ⟨⟨[], []⟩, ⟨[], []⟩⟩ := ⟨rfl, rfl, rfl, rfl⟩
theorem DgR.ground {a b c d : AV} {D : DDg} (h : DgR t a b c d D) (h1 : a.ground = true) (h2 : b.ground = true) (h3 : c.ground = true) (h4 : d.ground = true) : DgR u a b c d D := by
  obtain ⟨rfl, e1⟩ := read_ground h.r1 h1
  obtain ⟨rfl, e2⟩ := read_ground h.r2 h2
  obtain ⟨rfl, e3⟩ := read_ground h.r3 h3
  obtain ⟨rfl, e4⟩ := read_ground h.r4 h4
  exact ⟨by rw [e1]; rfl, by rw [e2]; rfl, by rw [e3]; rfl, by rw [e4]; rfl⟩
theorem sto_dg {n : Nat} {s : St} (h : sameN n s) {a b c d : AV} {D : DDg} {u : St} (k : DgR u a b c d D) : sto (s.push (.row [.nils, .nils, .nils, .nils] true)) 4 (.ptr n 0) (.agg [a, b, c, d]) = some (.und, s.lowed.push (.row [a, b, c, d] true)) := by
  unfold sameN at h
  subst h
  simp [sto, St.get_push_new, push_put, AV.cells, (read_oneD k.r1).2, (read_oneD k.r2).2, (read_oneD k.r3).2, (read_oneD k.r4).2, setAt]
theorem sto_row4 {id : Nat} {x1 x2 x3 x4 a b c d : AV} (h : t.get id = some (.row [x1, x2, x3, x4] true)) {D : DDg} {u : St} (k : DgR u a b c d D) : sto t 4 (.ptr id 0) (.agg [a, b, c, d]) = some (.und, t.put id (.row [a, b, c, d] true)) := by
  simp [sto, h, AV.cells, (read_oneD k.r1).2, (read_oneD k.r2).2, (read_oneD k.r3).2, (read_oneD k.r4).2, setAt]
theorem fstep_q0 {a b : AV} (ha : a.one = true) (hb : b.one = true) (w x y z : AV) (K : List AV → Option (List AV)) : fstep [w, x, y, z] 0 2 (.agg [a, b]) K = K [a, b, y, z] := by
  simp [fstep, AV.cells, ha, hb, setAt]
theorem fstep_q2 {a b : AV} (ha : a.one = true) (hb : b.one = true) (w x y z : AV) (K : List AV → Option (List AV)) : fstep [w, x, y, z] 2 2 (.agg [a, b]) K = K [w, x, a, b] := by
  simp [fstep, AV.cells, ha, hb, setAt]
structure DgL (D : DDg) (n : Nat) : Prop where
  l1 : D.all.v.length ≤ n
  l2 : D.all.c.length ≤ n
  l3 : D.gone.v.length ≤ n
  l4 : D.gone.c.length ≤ n
theorem lim_1000 {n : Nat} (h : n ≤ 1000) : n ≤ lim := by unfold lim; omega
theorem lim_80 {n : Nat} (h : n ≤ 1000) : n ≤ 80000 := by omega
noncomputable def R_RgSmall : Con := runFn (tb []) a13
theorem s_RgSmall : SoundAt Tryz.prog 13 R_RgSmall := run_sound (tb_sound (l := []) (by simp)) mixed Tryz.func13 k13 c13
theorem n_RgSmall : noNxtC a13.body = true := by kernel_rfl
theorem w_RgSmall {s : St} {a1 b1 c1 d1 : AV} {D : DDg} (hD : DgR s a1 b1 c1 d1 D) : ∀ env : Env, elen env = a13.ntmps → (∀ i x_, [.agg [a1, b1, c1, d1]][i]? = some x_ → E env i = x_) → awp (tb []) a13.body (fun x e t => (∀ i, x ≠ .exit i) ∧ aresults e t a13.results = some (.bool (((decide ((D.all.v.length : Int) ≤ 40) && decide ((D.all.c.length : Int) ≤ 40)) && decide ((D.gone.v.length : Int) ≤ 40)) && decide ((D.gone.c.length : Int) ≤ 40))) ∧ Keep s t) env s := by
  intro env hlen ha
  have h0 : E env 0 = _ := ha 0 _ rfl
  have hlen : elen env = _ := hlen
  simp only [a13] at hlen
  unfold a13
  try dsimp only [oO, oG]
  have hbx := hD.box
  have hK1 : Keep s (s.push (.row [a1, b1, c1, d1] true)) := (Keep.refl s).push _
  obtain ⟨p1, p2, p3, p4, p5, p6, p7, p8⟩ := box_dg s a1 b1 c1 d1 (.refl _)
  have l1 := lenV_read hD.r1
  have l2 := lenV_read hD.r2
  have l3 := lenV_read hD.r3
  have l4 := lenV_read hD.r4
  simp (config := {contextual := true, maxDischargeDepth := 12}) only [tb_at, h0, hlen, l1, l2, l3, l4, hbx, p1, p2, p3, p4, p5, p6, p7, p8, ↓bD, bU, forall_const, bS, implies_true, isNx, eq_self, ↓wp_cond, ↓wp_loop, ↓reduceIte, reduceCtorEq, Nat.reduceEqDiff, Nat.reduceLT, Nat.reduceAdd, Nat.reduceMul, bT, ↓sg_bsl, ↓st_callf, bX, List.cons_append, List.nil_append, ↓st_appf, bY, slcV_nils0N, slcV_sl0N, bslV_0N, bin_shr1, bsl_nd]
  all_goals first | exact hK1 | skip
theorem q_RgSmall (cl : Bool) {s : St} {a1 b1 c1 d1 : AV} {D : DDg} (hD : DgR s a1 b1 c1 d1 D) : acall R_RgSmall cl [.agg [a1, b1, c1, d1]] s = some (.bool (((decide ((D.all.v.length : Int) ≤ 40) && decide ((D.all.c.length : Int) ≤ 40)) && decide ((D.gone.v.length : Int) ≤ 40)) && decide ((D.gone.c.length : Int) ≤ 40)), s) := run_same n_RgSmall (by simp [a13]) rfl (w_RgSmall (s := lowd s) hD.low)
noncomputable def R_Rgw : Con := runFn (tb [(55, R_JLast), (40, R_JHas)]) a39
theorem s_Rgw : SoundAt Tryz.prog 39 R_Rgw := run_sound (tb_sound (l := [(55, R_JLast), (40, R_JHas)]) (by simpa using ⟨s_JLast, s_JHas⟩)) mixed Tryz.func39 k39 c39
theorem n_Rgw : noNxtC a39.body = true := by kernel_rfl

theorem wrapI {x : Int} (h1 : -4611686018427387904 ≤ x) (h2 : x < 4611686018427387904) : IntKind.i64.wrap x = x := by
  have e : (2 : Int) ^ IntKind.i64.bits = 18446744073709551616 := by decide
  have e3 : (2 : Int) ^ (IntKind.i64.bits - 1) = 9223372036854775808 := by decide
  have e2 : IntKind.i64.signed = true := rfl
  simp only [IntKind.wrap, e, e2, e3]
  simp
  omega
theorem jwithin_no_v {a b : DCx} {i : Nat} {x : Dot} (hx : a.v[i]? = some x) (h : ¬ x.c ≤ vget b.v x.r) : jwithin a b = false := by
  unfold jwithin
  rw [all_false hx (decide_eq_false h), Bool.false_and]
theorem jwithin_no_c {a b : DCx} {i : Nat} {x : Dot} (hx : a.c[i]? = some x) (h : jhas b x = false) : jwithin a b = false := by
  unfold jwithin
  rw [all_false hx h, Bool.and_false]
theorem jwithin_yes {a b : DCx} (h1 : ∀ k y, k < a.v.length → a.v[k]? = some y → y.c ≤ vget b.v y.r) (h2 : ∀ k y, k < a.c.length → a.c[k]? = some y → jhas b y = true) : jwithin a b = true := by
  unfold jwithin
  rw [all_at fun k y hk hy => decide_eq_true (h1 k y hk hy), all_at h2]
  rfl
theorem w_Rgw {s : St} {v w : AV} {X : DCx} (hv : read dotC s v = some X.v) (hw : read dotC s w = some X.c) (hlv : X.v.length ≤ lim) (hlw : X.c.length ≤ lim) {v' w' : AV} {Y : DCx} (kv : read dotC s v' = some Y.v) (kw : read dotC s w' = some Y.c) (klv : Y.v.length ≤ lim) (klw : Y.c.length ≤ lim) (hcx : isC X = true) (hcy : isC Y = true) : ∀ env : Env, elen env = a39.ntmps → (∀ i x_, [.agg [v, w], .agg [v', w']][i]? = some x_ → E env i = x_) → awp (tb [(55, R_JLast), (40, R_JHas)]) a39.body (fun x e t => (∀ i, x ≠ .exit i) ∧ aresults e t a39.results = some (.bool (jwithin X Y)) ∧ Keep s t) env s := by
  intro env hlen ha
  have h0 : E env 0 = _ := ha 0 _ rfl
  have h1 : E env 1 = _ := ha 1 _ rfl
  have hlen : elen env = _ := hlen
  simp only [a39] at hlen
  unfold a39
  try dsimp only [oO, oG]
  have hbx := boxV_2 (read_oneD hv).2 (read_oneD hw).2
  have hby := boxV_2 (read_oneD kv).2 (read_oneD kw).2
  have hK2 : Keep s ((s.push (.row [v, w] true)).push (.row [v', w'] true)) := ((Keep.refl s).push _).push _
  have hK12 : Keep (s.push (.row [v, w] true)) ((s.push (.row [v, w] true)).push (.row [v', w'] true)) := (Keep.refl _).push _
  have hLv := lenV_read hv
  have hLc := lenV_read hw
  have hLd := lenV_read kw
  have cx := ((isC_iff X).1 hcx).1
  have cy := ((isC_iff Y).1 hcy).1
  obtain ⟨vx, _, wx⟩ := (cvalid_iff X).1 cx
  have vy := ((cvalid_iff Y).1 cy).1
  have vxm := ((vvalid_iff X.v).1 vx).2
  simp (config := {contextual := true, maxDischargeDepth := 12}) only [tb_at, h0, h1, hlen, hbx, hby, ↓bD, bU, forall_const, bS, implies_true, isNx, eq_self, ↓wp_cond, ↓wp_loop, ↓reduceIte, reduceCtorEq, Nat.reduceEqDiff, Nat.reduceLT, Nat.reduceAdd, Nat.reduceMul, bT, ↓sg_bsl, ↓st_callf, bX, List.cons_append, List.nil_append, ↓st_appf, bY, slcV_nils0N, slcV_sl0N, bslV_0N, bin_shr1, bsl_nd]
  obtain ⟨I, hI⟩ : ∃ I : Nat → Env → St → Prop, ∀ n e t, I n e t = (Keep ((s.push (.row [v, w] true)).push (.row [v', w'] true)) t ∧ ∃ i : Nat, n + i = X.v.length ∧ elen e = 83 ∧ E e 2 = .ptr s.next 0 ∧ E e 3 = .ptr (s.push (.row [v, w] true)).next 0 ∧ E e 5 = .int .i64 (i : Int) ∧ ∀ k y, k < i → X.v[k]? = some y → y.c ≤ vget Y.v y.r) := ⟨fun n e t => (Keep ((s.push (.row [v, w] true)).push (.row [v', w'] true)) t ∧ ∃ i : Nat, n + i = X.v.length ∧ elen e = 83 ∧ E e 2 = .ptr s.next 0 ∧ E e 3 = .ptr (s.push (.row [v, w] true)).next 0 ∧ E e 5 = .int .i64 (i : Int) ∧ ∀ k y, k < i → X.v[k]? = some y → y.c ≤ vget Y.v y.r), fun _ _ _ => rfl⟩
  refine lwp_inv I (n := X.v.length) ?_ ?_
  · rw [hI]
    exact ⟨.refl _, 0, by omega, (by simp only [bE, Nat.reduceEqDiff, bN, Nat.reduceLT, hlen]; try rfl), (by simp only [bE, Nat.reduceEqDiff, bN, Nat.reduceLT, hlen]; try rfl), (by simp only [bE, Nat.reduceEqDiff, bN, Nat.reduceLT, hlen]; try rfl), (by simp only [bE, Nat.reduceEqDiff, bN, Nat.reduceLT, hlen]; try rfl), fun k y hk => by omega⟩
  clear h0 h1 hlen
  intro n e t hi
  rw [hI] at hi
  obtain ⟨hK, i, hni, he, e2, e3, e5, hpre⟩ := hi
  obtain ⟨c1, c2, c3, c4⟩ := box_ctx s v w (hK12.trans hK)
  obtain ⟨e1_, e2_, e3_, e4_⟩ := box_ctx (s.push (.row [v, w] true)) v' w' hK
  have hKt := hK2.trans hK
  by_cases hlt : i < X.v.length
  · obtain ⟨x, hx⟩ := getsome hlt
    have hw2 := wrap_add1 (n := i) (by unfold lim at hlv; omega)
    obtain ⟨a1, a2, a3, a4⟩ := dot_lods hv hKt hx
    have i1 := dot_idx hv hx .i64
    have q1 := q_JLast false (hKt.read kv) klv x.r
    have hxv := (valid_iff x).1 (vxm x (mem_at hx))
    have hnn := vget_nn vy x.r
    have hwv := wrap_vget vy x.r
    by_cases hle : x.c ≤ vget Y.v x.r
    · have z1 := eq_true hle
      simp (config := {contextual := true, maxDischargeDepth := 12}) only [tb_at, he, e2, e3, e5, hLv, hlt, hw2, a1, a2, a3, a4, i1, q1, z1, c1, c2, c3, c4, e1_, e2_, e3_, e4_, ↓bD, bU, forall_const, bS, implies_true, isNx, eq_self, ↓wp_cond, ↓wp_loop, ↓reduceIte, reduceCtorEq, Nat.reduceEqDiff, Nat.reduceLT, Nat.reduceAdd, Nat.reduceMul, bT, ↓sg_bsl, ↓st_callf, bX, List.cons_append, List.nil_append, ↓st_appf, bY, slcV_nils0N, slcV_sl0N, bslV_0N, bin_shr1, bsl_nd]
      refine ⟨n - 1, by omega, ?_⟩
      rw [hI]
      exact ⟨hK, i + 1, by omega, (by simp only [bE, Nat.reduceEqDiff, bN, Nat.reduceLT, he, e2, e3, e5]; try rfl), (by simp only [bE, Nat.reduceEqDiff, bN, Nat.reduceLT, he, e2, e3, e5]; try rfl), (by simp only [bE, Nat.reduceEqDiff, bN, Nat.reduceLT, he, e2, e3, e5]; try rfl), (by simp only [bE, Nat.reduceEqDiff, bN, Nat.reduceLT, he, e2, e3, e5]; try rfl), pre_next (P := fun k y => y.c ≤ vget Y.v y.r) hx hpre hle⟩
    · have z1 := eq_false hle
      have hws : IntKind.i64.wrap (x.c - vget Y.v x.r) = x.c - vget Y.v x.r := wrapI (by omega) (by omega)
      rw [jwithin_no_v hx hle]
      by_cases hbig : (Y.c.length : Int) < x.c - vget Y.v x.r
      · have z2 := eq_true hbig
        simp (config := {contextual := true, maxDischargeDepth := 12}) only [tb_at, he, e2, e3, e5, hLv, hLd, hlt, hw2, a1, a2, a3, a4, i1, q1, z1, z2, hws, c1, c2, c3, c4, e1_, e2_, e3_, e4_, ↓bD, bU, forall_const, bS, implies_true, isNx, eq_self, ↓wp_cond, ↓wp_loop, ↓reduceIte, reduceCtorEq, Nat.reduceEqDiff, Nat.reduceLT, Nat.reduceAdd, Nat.reduceMul, bT, ↓sg_bsl, ↓st_callf, bX, List.cons_append, List.nil_append, ↓st_appf, bY, slcV_nils0N, slcV_sl0N, bslV_0N, bin_shr1, bsl_nd]
        all_goals first | exact hKt | skip
      · have z2 := eq_false hbig
        simp (config := {contextual := true, maxDischargeDepth := 12}) only [tb_at, he, e2, e3, e5, hLv, hLd, hlt, hw2, a1, a2, a3, a4, i1, q1, z1, z2, hws, hwv, c1, c2, c3, c4, e1_, e2_, e3_, e4_, ↓bD, bU, forall_const, bS, implies_true, isNx, eq_self, ↓wp_cond, ↓wp_loop, ↓reduceIte, reduceCtorEq, Nat.reduceEqDiff, Nat.reduceLT, Nat.reduceAdd, Nat.reduceMul, bT, ↓sg_bsl, ↓st_callf, bX, List.cons_append, List.nil_append, ↓st_appf, bY, slcV_nils0N, slcV_sl0N, bslV_0N, bin_shr1, bsl_nd]
        obtain ⟨i0, hi0⟩ : ∃ i0, i0 = i := ⟨_, rfl⟩
        obtain ⟨t0, ht0⟩ : ∃ t0, t0 = t := ⟨_, rfl⟩
        rw [← hi0] at e5 i1 a1 a2 a3 hx
        rw [← ht0] at hK hKt a1 a2 a3 a4 c1 c2 c3 c4 e1_ e2_ e3_ e4_
        obtain ⟨I2, hI2⟩ : ∃ I : Nat → Env → St → Prop, ∀ n e t, I n e t = (t = t0 ∧ ∃ i : Nat, n + i = 0 ∧ elen e = 83 ∧ E e 2 = .ptr s.next 0 ∧ E e 3 = .ptr (s.push (.row [v, w] true)).next 0 ∧ E e 5 = .int .i64 (i0 : Int) ∧ E e 7 = .int .i64 (vget Y.v x.r + 1)) := ⟨fun n e t => (t = t0 ∧ ∃ i : Nat, n + i = 0 ∧ elen e = 83 ∧ E e 2 = .ptr s.next 0 ∧ E e 3 = .ptr (s.push (.row [v, w] true)).next 0 ∧ E e 5 = .int .i64 (i0 : Int) ∧ E e 7 = .int .i64 (vget Y.v x.r + 1)), fun _ _ _ => rfl⟩
        refine lwp_inv I2 (n := 0) ?_ ?_
        · rw [hI2]
          exact ⟨ht0.symm, 0, by omega, (by simp only [bE, Nat.reduceEqDiff, bN, Nat.reduceLT, he]; try rfl), (by simp only [bE, Nat.reduceEqDiff, bN, Nat.reduceLT, he, e2]; try rfl), (by simp only [bE, Nat.reduceEqDiff, bN, Nat.reduceLT, he, e3]; try rfl), (by simp only [bE, Nat.reduceEqDiff, bN, Nat.reduceLT, he, e5]; try rfl), (by simp only [bE, Nat.reduceEqDiff, bN, Nat.reduceLT, he]; try rfl)⟩
        clear he e2 e3 e5 hni
        intro n2 e t hi
        rw [hI2] at hi
        obtain ⟨hKe, j, hni, he, e2, e3, e5, e7⟩ := hi
        subst hKe
        have hkle := eq_true (show vget Y.v x.r + 1 ≤ x.c by omega)
        have q2 := q_JHas false (hKt.read kv) (hKt.read kw) klv klw ⟨x.r, vget Y.v x.r + 1⟩
        rw [jhas_next hcy] at q2
        simp (config := {contextual := true, maxDischargeDepth := 12}) only [tb_at, he, e2, e3, e5, e7, a1, a2, a3, a4, i1, q2, hkle, ap_build, fillP_nil, fillP_cons, notV_bool, Bool.not_false, c1, c2, c3, c4, e1_, e2_, e3_, e4_, ↓bD, bU, forall_const, bS, implies_true, isNx, eq_self, ↓wp_cond, ↓wp_loop, ↓reduceIte, reduceCtorEq, Nat.reduceEqDiff, Nat.reduceLT, Nat.reduceAdd, Nat.reduceMul, bT, ↓sg_bsl, ↓st_callf, bX, List.cons_append, List.nil_append, ↓st_appf, bY, slcV_nils0N, slcV_sl0N, bslV_0N, bin_shr1, bsl_nd]
        all_goals first | exact hKt | skip
  · obtain rfl : i = X.v.length := by omega
    simp (config := {contextual := true, maxDischargeDepth := 12}) only [tb_at, he, e2, e3, e5, hLv, hlt, c1, c2, c3, c4, e1_, e2_, e3_, e4_, ↓bD, bU, forall_const, bS, implies_true, isNx, eq_self, ↓wp_cond, ↓wp_loop, ↓reduceIte, reduceCtorEq, Nat.reduceEqDiff, Nat.reduceLT, Nat.reduceAdd, Nat.reduceMul, bT, ↓sg_bsl, ↓st_callf, bX, List.cons_append, List.nil_append, ↓st_appf, bY, slcV_nils0N, slcV_sl0N, bslV_0N, bin_shr1, bsl_nd]
    obtain ⟨I3, hI3⟩ : ∃ I : Nat → Env → St → Prop, ∀ n e t, I n e t = (Keep ((s.push (.row [v, w] true)).push (.row [v', w'] true)) t ∧ ∃ i : Nat, n + i = X.c.length ∧ elen e = 83 ∧ E e 2 = .ptr s.next 0 ∧ E e 3 = .ptr (s.push (.row [v, w] true)).next 0 ∧ E e 8 = .int .i64 (i : Int) ∧ ∀ k y, k < i → X.c[k]? = some y → jhas Y y = true) := ⟨fun n e t => (Keep ((s.push (.row [v, w] true)).push (.row [v', w'] true)) t ∧ ∃ i : Nat, n + i = X.c.length ∧ elen e = 83 ∧ E e 2 = .ptr s.next 0 ∧ E e 3 = .ptr (s.push (.row [v, w] true)).next 0 ∧ E e 8 = .int .i64 (i : Int) ∧ ∀ k y, k < i → X.c[k]? = some y → jhas Y y = true), fun _ _ _ => rfl⟩
    refine lwp_inv I3 (n := X.c.length) ?_ ?_
    · rw [hI3]
      exact ⟨hK, 0, by omega, (by simp only [bE, Nat.reduceEqDiff, bN, Nat.reduceLT, he]; try rfl), (by simp only [bE, Nat.reduceEqDiff, bN, Nat.reduceLT, he, e2]; try rfl), (by simp only [bE, Nat.reduceEqDiff, bN, Nat.reduceLT, he, e3]; try rfl), (by simp only [bE, Nat.reduceEqDiff, bN, Nat.reduceLT, he]; try rfl), fun k y hk => by omega⟩
    clear hni he e2 e3 e5
    clear hK hKt c1 c2 c3 c4 e1_ e2_ e3_ e4_
    intro n e t hi
    rw [hI3] at hi
    obtain ⟨hK, i, hni, he, e2, e3, e8, hpre2⟩ := hi
    obtain ⟨c1, c2, c3, c4⟩ := box_ctx s v w (hK12.trans hK)
    obtain ⟨e1_, e2_, e3_, e4_⟩ := box_ctx (s.push (.row [v, w] true)) v' w' hK
    have hKt := hK2.trans hK
    by_cases hlt : i < X.c.length
    · obtain ⟨x, hx⟩ := getsome hlt
      have hw2 := wrap_add1 (n := i) (by unfold lim at hlw; omega)
      obtain ⟨a1, a2, a3, a4⟩ := dot_lods hw hKt hx
      have i1 := dot_idx hw hx .i64
      have q2 := q_JHas false (hKt.read kv) (hKt.read kw) klv klw x
      cases hj : jhas Y x
      · rw [hj] at q2
        rw [jwithin_no_c hx hj]
        simp (config := {contextual := true, maxDischargeDepth := 12}) only [tb_at, he, e2, e3, e8, hLc, hlt, a1, a4, i1, q2, notV_bool, Bool.not_false, c1, c2, c3, c4, e1_, e2_, e3_, e4_, ↓bD, bU, forall_const, bS, implies_true, isNx, eq_self, ↓wp_cond, ↓wp_loop, ↓reduceIte, reduceCtorEq, Nat.reduceEqDiff, Nat.reduceLT, Nat.reduceAdd, Nat.reduceMul, bT, ↓sg_bsl, ↓st_callf, bX, List.cons_append, List.nil_append, ↓st_appf, bY, slcV_nils0N, slcV_sl0N, bslV_0N, bin_shr1, bsl_nd]
        all_goals first | exact hKt | skip
      · rw [hj] at q2
        simp (config := {contextual := true, maxDischargeDepth := 12}) only [tb_at, he, e2, e3, e8, hLc, hlt, hw2, a1, a4, i1, q2, notV_bool, Bool.not_true, c1, c2, c3, c4, e1_, e2_, e3_, e4_, ↓bD, bU, forall_const, bS, implies_true, isNx, eq_self, ↓wp_cond, ↓wp_loop, ↓reduceIte, reduceCtorEq, Nat.reduceEqDiff, Nat.reduceLT, Nat.reduceAdd, Nat.reduceMul, bT, ↓sg_bsl, ↓st_callf, bX, List.cons_append, List.nil_append, ↓st_appf, bY, slcV_nils0N, slcV_sl0N, bslV_0N, bin_shr1, bsl_nd]
        refine ⟨n - 1, by omega, ?_⟩
        rw [hI3]
        exact ⟨hK, i + 1, by omega, (by simp only [bE, Nat.reduceEqDiff, bN, Nat.reduceLT, he, e2, e3, e8]; try rfl), (by simp only [bE, Nat.reduceEqDiff, bN, Nat.reduceLT, he, e2, e3, e8]; try rfl), (by simp only [bE, Nat.reduceEqDiff, bN, Nat.reduceLT, he, e2, e3, e8]; try rfl), (by simp only [bE, Nat.reduceEqDiff, bN, Nat.reduceLT, he, e2, e3, e8]; try rfl), pre_next (P := fun k y => jhas Y y = true) hx hpre2 hj⟩
    · obtain rfl : i = X.c.length := by omega
      rw [jwithin_yes hpre hpre2]
      simp (config := {contextual := true, maxDischargeDepth := 12}) only [tb_at, he, e2, e3, e8, hLc, hlt, c1, c2, c3, c4, e1_, e2_, e3_, e4_, ↓bD, bU, forall_const, bS, implies_true, isNx, eq_self, ↓wp_cond, ↓wp_loop, ↓reduceIte, reduceCtorEq, Nat.reduceEqDiff, Nat.reduceLT, Nat.reduceAdd, Nat.reduceMul, bT, ↓sg_bsl, ↓st_callf, bX, List.cons_append, List.nil_append, ↓st_appf, bY, slcV_nils0N, slcV_sl0N, bslV_0N, bin_shr1, bsl_nd]
      all_goals first | exact hKt | skip
theorem q_Rgw (cl : Bool) {s : St} {v w : AV} {X : DCx} (hv : read dotC s v = some X.v) (hw : read dotC s w = some X.c) (hlv : X.v.length ≤ lim) (hlw : X.c.length ≤ lim) {v' w' : AV} {Y : DCx} (kv : read dotC s v' = some Y.v) (kw : read dotC s w' = some Y.c) (klv : Y.v.length ≤ lim) (klw : Y.c.length ≤ lim) (hcx : isC X = true) (hcy : isC Y = true) : acall R_Rgw cl [.agg [v, w], .agg [v', w']] s = some (.bool (jwithin X Y), s) := run_same n_Rgw (by simp [a39]) rfl (w_Rgw (s := lowd s) (read_low' hv) (read_low' hw) hlv hlw (read_low' kv) (read_low' kw) klv klw hcx hcy)
noncomputable def R_RgValid : Con := runFn (tb [(38, R_JComp), (39, R_Rgw)]) a14
theorem s_RgValid : SoundAt Tryz.prog 14 R_RgValid := run_sound (tb_sound (l := [(38, R_JComp), (39, R_Rgw)]) (by simpa using ⟨s_JComp, s_Rgw⟩)) mixed Tryz.func14 k14 c14
theorem n_RgValid : noNxtC a14.body = true := by kernel_rfl
theorem w_RgValid {s : St} {a1 b1 c1 d1 : AV} {D : DDg} (hD : DgR s a1 b1 c1 d1 D) (hDl : DgL D 1000) : ∀ env : Env, elen env = a14.ntmps → (∀ i x_, [.agg [a1, b1, c1, d1]][i]? = some x_ → E env i = x_) → awp (tb [(38, R_JComp), (39, R_Rgw)]) a14.body (fun x e t => (∀ i, x ≠ .exit i) ∧ aresults e t a14.results = some (.bool (dgV D)) ∧ Keep s t) env s := by
  intro env hlen ha
  have h0 : E env 0 = _ := ha 0 _ rfl
  have hlen : elen env = _ := hlen
  simp only [a14] at hlen
  unfold a14
  try dsimp only [oO, oG]
  have hbx := hD.box
  have hK1 : Keep s (s.push (.row [a1, b1, c1, d1] true)) := (Keep.refl s).push _
  obtain ⟨p1, p2, p3, p4, p5, p6, p7, p8⟩ := box_dg s a1 b1 c1 d1 (.refl _)
  have q1 := q_JComp false (hK1.read hD.r1) (hK1.read hD.r2) (lim_1000 hDl.l1) (lim_1000 hDl.l2)
  have q2 := q_JComp false (hK1.read hD.r3) (hK1.read hD.r4) (lim_1000 hDl.l3) (lim_1000 hDl.l4)
  cases h1 : isC D.all
  · rw [h1] at q1
    have hS : dgV D = false := by unfold dgV; rw [h1]; rfl
    rw [hS]
    simp (config := {contextual := true, maxDischargeDepth := 12}) only [tb_at, h0, hlen, q1, hbx, p1, p2, p3, p4, p5, p6, p7, p8, ↓bD, bU, forall_const, bS, implies_true, isNx, eq_self, ↓wp_cond, ↓wp_loop, ↓reduceIte, reduceCtorEq, Nat.reduceEqDiff, Nat.reduceLT, Nat.reduceAdd, Nat.reduceMul, bT, ↓sg_bsl, ↓st_callf, bX, List.cons_append, List.nil_append, ↓st_appf, bY, slcV_nils0N, slcV_sl0N, bslV_0N, bin_shr1, bsl_nd]
    all_goals first | exact hK1 | skip
  rw [h1] at q1
  cases h2 : isC D.gone
  · rw [h2] at q2
    have hS : dgV D = false := by unfold dgV; rw [h1, h2]; rfl
    rw [hS]
    simp (config := {contextual := true, maxDischargeDepth := 12}) only [tb_at, h0, hlen, q1, q2, hbx, p1, p2, p3, p4, p5, p6, p7, p8, ↓bD, bU, forall_const, bS, implies_true, isNx, eq_self, ↓wp_cond, ↓wp_loop, ↓reduceIte, reduceCtorEq, Nat.reduceEqDiff, Nat.reduceLT, Nat.reduceAdd, Nat.reduceMul, bT, ↓sg_bsl, ↓st_callf, bX, List.cons_append, List.nil_append, ↓st_appf, bY, slcV_nils0N, slcV_sl0N, bslV_0N, bin_shr1, bsl_nd]
    all_goals first | exact hK1 | skip
  rw [h2] at q2
  have q3 := q_Rgw false (hK1.read hD.r3) (hK1.read hD.r4) (lim_1000 hDl.l3) (lim_1000 hDl.l4) (hK1.read hD.r1) (hK1.read hD.r2) (lim_1000 hDl.l1) (lim_1000 hDl.l2) h2 h1
  have hS : dgV D = jwithin D.gone D.all := by unfold dgV; rw [h1, h2]; rfl
  rw [hS]
  simp (config := {contextual := true, maxDischargeDepth := 12}) only [tb_at, h0, hlen, q1, q2, q3, hbx, p1, p2, p3, p4, p5, p6, p7, p8, ↓bD, bU, forall_const, bS, implies_true, isNx, eq_self, ↓wp_cond, ↓wp_loop, ↓reduceIte, reduceCtorEq, Nat.reduceEqDiff, Nat.reduceLT, Nat.reduceAdd, Nat.reduceMul, bT, ↓sg_bsl, ↓st_callf, bX, List.cons_append, List.nil_append, ↓st_appf, bY, slcV_nils0N, slcV_sl0N, bslV_0N, bin_shr1, bsl_nd]
  all_goals first | exact hK1 | skip
theorem q_RgValid (cl : Bool) {s : St} {a1 b1 c1 d1 : AV} {D : DDg} (hD : DgR s a1 b1 c1 d1 D) (hDl : DgL D 1000) : acall R_RgValid cl [.agg [a1, b1, c1, d1]] s = some (.bool (dgV D), s) := run_same n_RgValid (by simp [a14]) rfl (w_RgValid (s := lowd s) hD.low hDl)

theorem dg_dec (D G : DDg) : (decide (D.all = G.all) && decide (D.gone = G.gone)) = decide (D = G) := by
  rw [Bool.eq_iff_iff]
  simp only [Bool.and_eq_true, decide_eq_true_eq]
  constructor
  · rintro ⟨h1, h2⟩
    cases D; cases G; simp only at h1 h2; rw [h1, h2]
  · rintro rfl; exact ⟨rfl, rfl⟩
noncomputable def R_RgSame : Con := runFn (tb [(47, R_JSameC)]) a26
theorem s_RgSame : SoundAt Tryz.prog 26 R_RgSame := run_sound (tb_sound (l := [(47, R_JSameC)]) (by simpa using s_JSameC)) mixed Tryz.func26 k26 c26
theorem n_RgSame : noNxtC a26.body = true := by kernel_rfl
theorem w_RgSame {s : St} {a1 b1 c1 d1 : AV} {D : DDg} (hD : DgR s a1 b1 c1 d1 D) (hDl : DgL D 1000) {a2 b2 c2 d2 : AV} {G : DDg} (hG : DgR s a2 b2 c2 d2 G) (hGl : DgL G 1000) : ∀ env : Env, elen env = a26.ntmps → (∀ i x_, [.agg [a1, b1, c1, d1], .agg [a2, b2, c2, d2]][i]? = some x_ → E env i = x_) → awp (tb [(47, R_JSameC)]) a26.body (fun x e t => (∀ i, x ≠ .exit i) ∧ aresults e t a26.results = some (.bool (decide (D = G))) ∧ Keep s t) env s := by
  intro env hlen ha
  have h0 : E env 0 = _ := ha 0 _ rfl
  have h1 : E env 1 = _ := ha 1 _ rfl
  have hlen : elen env = _ := hlen
  simp only [a26] at hlen
  unfold a26
  try dsimp only [oO, oG]
  have hbx := hD.box
  have hby := hG.box
  have hK2 : Keep s ((s.push (.row [a1, b1, c1, d1] true)).push (.row [a2, b2, c2, d2] true)) := ((Keep.refl s).push _).push _
  have hK12 : Keep (s.push (.row [a1, b1, c1, d1] true)) ((s.push (.row [a1, b1, c1, d1] true)).push (.row [a2, b2, c2, d2] true)) := (Keep.refl _).push _
  obtain ⟨p1, p2, p3, p4, p5, p6, p7, p8⟩ := box_dg s a1 b1 c1 d1 hK12
  obtain ⟨r1, r2, r3, r4, r5, r6, r7, r8⟩ := box_dg (s.push (.row [a1, b1, c1, d1] true)) a2 b2 c2 d2 (.refl _)
  have q1 := q_JSameC false (hK2.read hD.r1) (hK2.read hD.r2) (lim_1000 hDl.l1) (lim_1000 hDl.l2) (hK2.read hG.r1) (hK2.read hG.r2) (lim_1000 hGl.l1) (lim_1000 hGl.l2)
  have q2 := q_JSameC false (hK2.read hD.r3) (hK2.read hD.r4) (lim_1000 hDl.l3) (lim_1000 hDl.l4) (hK2.read hG.r3) (hK2.read hG.r4) (lim_1000 hGl.l3) (lim_1000 hGl.l4)
  rw [← dg_dec]
  simp (config := {contextual := true, maxDischargeDepth := 12}) only [tb_at, h0, h1, hlen, q1, q2, hbx, hby, p1, p2, p3, p4, p5, p6, p7, p8, r1, r2, r3, r4, r5, r6, r7, r8, ↓bD, bU, forall_const, bS, implies_true, isNx, eq_self, ↓wp_cond, ↓wp_loop, ↓reduceIte, reduceCtorEq, Nat.reduceEqDiff, Nat.reduceLT, Nat.reduceAdd, Nat.reduceMul, bT, ↓sg_bsl, ↓st_callf, bX, List.cons_append, List.nil_append, ↓st_appf, bY, slcV_nils0N, slcV_sl0N, bslV_0N, bin_shr1, bsl_nd]
  all_goals first | exact hK2 | skip
theorem q_RgSame (cl : Bool) {s : St} {a1 b1 c1 d1 : AV} {D : DDg} (hD : DgR s a1 b1 c1 d1 D) (hDl : DgL D 1000) {a2 b2 c2 d2 : AV} {G : DDg} (hG : DgR s a2 b2 c2 d2 G) (hGl : DgL G 1000) : acall R_RgSame cl [.agg [a1, b1, c1, d1], .agg [a2, b2, c2, d2]] s = some (.bool (decide (D = G)), s) := run_same n_RgSame (by simp [a26]) rfl (w_RgSame (s := lowd s) hD.low hDl hG.low hGl)
noncomputable def R_RgWithin : Con := runFn (tb [(39, R_Rgw)]) a22
theorem s_RgWithin : SoundAt Tryz.prog 22 R_RgWithin := run_sound (tb_sound (l := [(39, R_Rgw)]) (by simpa using s_Rgw)) mixed Tryz.func22 k22 c22
theorem n_RgWithin : noNxtC a22.body = true := by kernel_rfl

theorem dgV_parts {D : DDg} (h : dgV D = true) : isC D.all = true ∧ isC D.gone = true ∧ jwithin D.gone D.all = true := by
  unfold dgV at h
  simpa only [Bool.and_eq_true] using h
theorem w_RgWithin {s : St} {a1 b1 c1 d1 : AV} {D : DDg} (hD : DgR s a1 b1 c1 d1 D) (hDl : DgL D 1000) {a2 b2 c2 d2 : AV} {G : DDg} (hG : DgR s a2 b2 c2 d2 G) (hGl : DgL G 1000) (hvD : dgV D = true) (hvG : dgV G = true) : ∀ env : Env, elen env = a22.ntmps → (∀ i x_, [.agg [a1, b1, c1, d1], .agg [a2, b2, c2, d2]][i]? = some x_ → E env i = x_) → awp (tb [(39, R_Rgw)]) a22.body (fun x e t => (∀ i, x ≠ .exit i) ∧ aresults e t a22.results = some (.bool (dgWithin D G)) ∧ Keep s t) env s := by
  intro env hlen ha
  have h0 : E env 0 = _ := ha 0 _ rfl
  have h1 : E env 1 = _ := ha 1 _ rfl
  have hlen : elen env = _ := hlen
  simp only [a22] at hlen
  unfold a22
  try dsimp only [oO, oG]
  have hbx := hD.box
  have hby := hG.box
  have hK2 : Keep s ((s.push (.row [a1, b1, c1, d1] true)).push (.row [a2, b2, c2, d2] true)) := ((Keep.refl s).push _).push _
  have hK12 : Keep (s.push (.row [a1, b1, c1, d1] true)) ((s.push (.row [a1, b1, c1, d1] true)).push (.row [a2, b2, c2, d2] true)) := (Keep.refl _).push _
  obtain ⟨p1, p2, p3, p4, p5, p6, p7, p8⟩ := box_dg s a1 b1 c1 d1 hK12
  obtain ⟨r1, r2, r3, r4, r5, r6, r7, r8⟩ := box_dg (s.push (.row [a1, b1, c1, d1] true)) a2 b2 c2 d2 (.refl _)
  obtain ⟨x1, x2, _⟩ := dgV_parts hvD
  obtain ⟨y1, y2, _⟩ := dgV_parts hvG
  have q1 := q_Rgw false (hK2.read hD.r1) (hK2.read hD.r2) (lim_1000 hDl.l1) (lim_1000 hDl.l2) (hK2.read hG.r1) (hK2.read hG.r2) (lim_1000 hGl.l1) (lim_1000 hGl.l2) x1 y1
  have q2 := q_Rgw false (hK2.read hD.r3) (hK2.read hD.r4) (lim_1000 hDl.l3) (lim_1000 hDl.l4) (hK2.read hG.r3) (hK2.read hG.r4) (lim_1000 hGl.l3) (lim_1000 hGl.l4) x2 y2
  unfold dgWithin
  simp (config := {contextual := true, maxDischargeDepth := 12}) only [tb_at, h0, h1, hlen, q1, q2, hbx, hby, p1, p2, p3, p4, p5, p6, p7, p8, r1, r2, r3, r4, r5, r6, r7, r8, ↓bD, bU, forall_const, bS, implies_true, isNx, eq_self, ↓wp_cond, ↓wp_loop, ↓reduceIte, reduceCtorEq, Nat.reduceEqDiff, Nat.reduceLT, Nat.reduceAdd, Nat.reduceMul, bT, ↓sg_bsl, ↓st_callf, bX, List.cons_append, List.nil_append, ↓st_appf, bY, slcV_nils0N, slcV_sl0N, bslV_0N, bin_shr1, bsl_nd]
  all_goals first | exact hK2 | skip
theorem q_RgWithin (cl : Bool) {s : St} {a1 b1 c1 d1 : AV} {D : DDg} (hD : DgR s a1 b1 c1 d1 D) (hDl : DgL D 1000) {a2 b2 c2 d2 : AV} {G : DDg} (hG : DgR s a2 b2 c2 d2 G) (hGl : DgL G 1000) (hvD : dgV D = true) (hvG : dgV G = true) : acall R_RgWithin cl [.agg [a1, b1, c1, d1], .agg [a2, b2, c2, d2]] s = some (.bool (dgWithin D G), s) := run_same n_RgWithin (by simp [a22]) rfl (w_RgWithin (s := lowd s) hD.low hDl hG.low hGl hvD hvG)

end Go.AM
end
/-
  Digests: the package; the reference and its Of. Own work of this project; in part printed by a program of it.
-/
section
set_option maxRecDepth 100000
set_option maxHeartbeats 8000000
namespace Go.AM
open Go Go.Proofs

variable {s t u : St}

theorem win_eq {a b : DCx} (ha : isC a = true) (hb : isC b = true) : decide (uniC a b = compC b) = jwithin a b := by
  rw [Bool.eq_iff_iff, decide_eq_true_eq, jwithin_iff ha hb]
  exact sub_iff ((isC_iff a).1 ha).1 ((isC_iff b).1 hb).1
theorem isC_cvalid {x : DCx} (h : isC x = true) : cvalid x = true := ((isC_iff x).1 h).1
theorem dgV_false_a {D : DDg} (h : isC D.all = false) : dgV D = false := by unfold dgV; rw [h]; rfl
theorem dgV_false_g {D : DDg} (h : isC D.gone = false) : dgV D = false := by unfold dgV; rw [h]; cases isC D.all <;> rfl
theorem isC_of_cvalid {x : DCx} (h : cvalid x = false) : isC x = false := by unfold isC; rw [h]; rfl
noncomputable def R_DgValid : Con := runFn (tb [(36, R_CWithin), (37, R_IsC)]) a12
theorem s_DgValid : SoundAt Tryz.prog 12 R_DgValid := run_sound (tb_sound (l := [(36, R_CWithin), (37, R_IsC)]) (by simpa using ⟨s_CWithin, s_IsC⟩)) mixed Tryz.func12 k12 c12
theorem n_DgValid : noNxtC a12.body = true := by kernel_rfl
theorem w_DgValid {s : St} {a1 b1 c1 d1 : AV} {D : DDg} (hD : DgR s a1 b1 c1 d1 D) (hDl : DgL D 1000) : ∀ env : Env, elen env = a12.ntmps → (∀ i x_, [.agg [a1, b1, c1, d1]][i]? = some x_ → E env i = x_) → awp (tb [(36, R_CWithin), (37, R_IsC)]) a12.body (fun x e t => (∀ i, x ≠ .exit i) ∧ aresults e t a12.results = some (.bool (dgV D)) ∧ Keep s t) env s := by
  intro env hlen ha
  have h0 : E env 0 = _ := ha 0 _ rfl
  have hlen : elen env = _ := hlen
  simp only [a12] at hlen
  unfold a12
  try dsimp only [oO, oG]
  have hbx := hD.box
  have hK1 : Keep s (s.push (.row [a1, b1, c1, d1] true)) := (Keep.refl s).push _
  obtain ⟨p1, p2, p3, p4, p5, p6, p7, p8⟩ := box_dg s a1 b1 c1 d1 (.refl _)
  have q2 := q_IsC false (hK1.read hD.r1) (hK1.read hD.r2) (lim_1000 hDl.l1) (lim_1000 hDl.l2)
  have q3 := q_IsC false (hK1.read hD.r3) (hK1.read hD.r4) (lim_1000 hDl.l3) (lim_1000 hDl.l4)
  have n20 : ((2 : Int) = 0) = False := eq_false (by decide)
  have n00 : ((0 : Int) = 0) = True := eq_true rfl
  cases hc : cvalid D.gone && cvalid D.all
  · have q1 := q_CWithin_bad false (hK1.read hD.r3) (hK1.read hD.r4) (lim_80 hDl.l3) (lim_80 hDl.l4) (hK1.read hD.r1) (hK1.read hD.r2) (lim_80 hDl.l1) (lim_80 hDl.l2) hc
    have hS : dgV D = false := by
      rw [Bool.and_eq_false_iff] at hc
      exact hc.elim (fun h => dgV_false_g (isC_of_cvalid h)) fun h => dgV_false_a (isC_of_cvalid h)
    rw [hS]
    cases h1 : isC D.all
    · rw [h1] at q2
      simp (config := {contextual := true, maxDischargeDepth := 12}) only [tb_at, h0, hlen, q1, q2, hbx, p1, p2, p3, p4, p5, p6, p7, p8, ↓bD, bU, forall_const, bS, implies_true, isNx, eq_self, ↓wp_cond, ↓wp_loop, ↓reduceIte, reduceCtorEq, Nat.reduceEqDiff, Nat.reduceLT, Nat.reduceAdd, Nat.reduceMul, bT, ↓sg_bsl, ↓st_callf, bX, List.cons_append, List.nil_append, ↓st_appf, bY, slcV_nils0N, slcV_sl0N, bslV_0N, bin_shr1, bsl_nd]
      all_goals first | exact hK1 | skip
    rw [h1] at q2
    cases h2 : isC D.gone
    · rw [h2] at q3
      simp (config := {contextual := true, maxDischargeDepth := 12}) only [tb_at, h0, hlen, q1, q2, q3, hbx, p1, p2, p3, p4, p5, p6, p7, p8, ↓bD, bU, forall_const, bS, implies_true, isNx, eq_self, ↓wp_cond, ↓wp_loop, ↓reduceIte, reduceCtorEq, Nat.reduceEqDiff, Nat.reduceLT, Nat.reduceAdd, Nat.reduceMul, bT, ↓sg_bsl, ↓st_callf, bX, List.cons_append, List.nil_append, ↓st_appf, bY, slcV_nils0N, slcV_sl0N, bslV_0N, bin_shr1, bsl_nd]
      all_goals first | exact hK1 | skip
    rw [h2] at q3
    simp (config := {contextual := true, maxDischargeDepth := 12}) only [tb_at, h0, hlen, q1, q2, q3, n20, decide_false, bin_eqE, hbx, p1, p2, p3, p4, p5, p6, p7, p8, ↓bD, bU, forall_const, bS, implies_true, isNx, eq_self, ↓wp_cond, ↓wp_loop, ↓reduceIte, reduceCtorEq, Nat.reduceEqDiff, Nat.reduceLT, Nat.reduceAdd, Nat.reduceMul, bT, ↓sg_bsl, ↓st_callf, bX, List.cons_append, List.nil_append, ↓st_appf, bY, slcV_nils0N, slcV_sl0N, bslV_0N, bin_shr1, bsl_nd]
    all_goals first | exact hK1 | skip
  rw [Bool.and_eq_true] at hc
  have q1 := q_CWithin false (hK1.read hD.r3) (hK1.read hD.r4) (lim_80 hDl.l3) (lim_80 hDl.l4) (hK1.read hD.r1) (hK1.read hD.r2) (lim_80 hDl.l1) (lim_80 hDl.l2) hc.1 hc.2
  cases h1 : isC D.all
  · rw [h1] at q2
    rw [dgV_false_a h1]
    simp (config := {contextual := true, maxDischargeDepth := 12}) only [tb_at, h0, hlen, q1, q2, hbx, p1, p2, p3, p4, p5, p6, p7, p8, ↓bD, bU, forall_const, bS, implies_true, isNx, eq_self, ↓wp_cond, ↓wp_loop, ↓reduceIte, reduceCtorEq, Nat.reduceEqDiff, Nat.reduceLT, Nat.reduceAdd, Nat.reduceMul, bT, ↓sg_bsl, ↓st_callf, bX, List.cons_append, List.nil_append, ↓st_appf, bY, slcV_nils0N, slcV_sl0N, bslV_0N, bin_shr1, bsl_nd]
    all_goals first | exact hK1 | skip
  rw [h1] at q2
  cases h2 : isC D.gone
  · rw [h2] at q3
    rw [dgV_false_g h2]
    simp (config := {contextual := true, maxDischargeDepth := 12}) only [tb_at, h0, hlen, q1, q2, q3, hbx, p1, p2, p3, p4, p5, p6, p7, p8, ↓bD, bU, forall_const, bS, implies_true, isNx, eq_self, ↓wp_cond, ↓wp_loop, ↓reduceIte, reduceCtorEq, Nat.reduceEqDiff, Nat.reduceLT, Nat.reduceAdd, Nat.reduceMul, bT, ↓sg_bsl, ↓st_callf, bX, List.cons_append, List.nil_append, ↓st_appf, bY, slcV_nils0N, slcV_sl0N, bslV_0N, bin_shr1, bsl_nd]
    all_goals first | exact hK1 | skip
  rw [h2] at q3
  rw [win_eq h2 h1] at q1
  have hS : dgV D = jwithin D.gone D.all := by unfold dgV; rw [h1, h2]; rfl
  rw [hS]
  simp (config := {contextual := true, maxDischargeDepth := 12}) only [tb_at, h0, hlen, q1, q2, q3, n00, decide_true, bin_eqE, hbx, p1, p2, p3, p4, p5, p6, p7, p8, ↓bD, bU, forall_const, bS, implies_true, isNx, eq_self, ↓wp_cond, ↓wp_loop, ↓reduceIte, reduceCtorEq, Nat.reduceEqDiff, Nat.reduceLT, Nat.reduceAdd, Nat.reduceMul, bT, ↓sg_bsl, ↓st_callf, bX, List.cons_append, List.nil_append, ↓st_appf, bY, slcV_nils0N, slcV_sl0N, bslV_0N, bin_shr1, bsl_nd]
  all_goals first | exact hK1 | skip
theorem q_DgValid (cl : Bool) {s : St} {a1 b1 c1 d1 : AV} {D : DDg} (hD : DgR s a1 b1 c1 d1 D) (hDl : DgL D 1000) : acall R_DgValid cl [.agg [a1, b1, c1, d1]] s = some (.bool (dgV D), s) := run_same n_DgValid (by simp [a12]) rfl (w_DgValid (s := lowd s) hD.low hDl)
noncomputable def R_DgEqual : Con := runFn (tb [(46, R_CEqual)]) a25
theorem s_DgEqual : SoundAt Tryz.prog 25 R_DgEqual := run_sound (tb_sound (l := [(46, R_CEqual)]) (by simpa using s_CEqual)) mixed Tryz.func25 k25 c25
theorem n_DgEqual : noNxtC a25.body = true := by kernel_rfl
theorem w_DgEqual {s : St} {a1 b1 c1 d1 : AV} {D : DDg} (hD : DgR s a1 b1 c1 d1 D) (hDl : DgL D 1000) {a2 b2 c2 d2 : AV} {G : DDg} (hG : DgR s a2 b2 c2 d2 G) (hGl : DgL G 1000) : ∀ env : Env, elen env = a25.ntmps → (∀ i x_, [.agg [a1, b1, c1, d1], .agg [a2, b2, c2, d2]][i]? = some x_ → E env i = x_) → awp (tb [(46, R_CEqual)]) a25.body (fun x e t => (∀ i, x ≠ .exit i) ∧ aresults e t a25.results = some (.bool (decide (D = G))) ∧ Keep s t) env s := by
  intro env hlen ha
  have h0 : E env 0 = _ := ha 0 _ rfl
  have h1 : E env 1 = _ := ha 1 _ rfl
  have hlen : elen env = _ := hlen
  simp only [a25] at hlen
  unfold a25
  try dsimp only [oO, oG]
  have hbx := hD.box
  have hby := hG.box
  have hK2 : Keep s ((s.push (.row [a1, b1, c1, d1] true)).push (.row [a2, b2, c2, d2] true)) := ((Keep.refl s).push _).push _
  have hK12 : Keep (s.push (.row [a1, b1, c1, d1] true)) ((s.push (.row [a1, b1, c1, d1] true)).push (.row [a2, b2, c2, d2] true)) := (Keep.refl _).push _
  obtain ⟨p1, p2, p3, p4, p5, p6, p7, p8⟩ := box_dg s a1 b1 c1 d1 hK12
  obtain ⟨r1, r2, r3, r4, r5, r6, r7, r8⟩ := box_dg (s.push (.row [a1, b1, c1, d1] true)) a2 b2 c2 d2 (.refl _)
  have q1 := q_CEqual false (hK2.read hD.r1) (hK2.read hD.r2) (lim_1000 hDl.l1) (lim_1000 hDl.l2) (hK2.read hG.r1) (hK2.read hG.r2) (lim_1000 hGl.l1) (lim_1000 hGl.l2)
  have q2 := q_CEqual false (hK2.read hD.r3) (hK2.read hD.r4) (lim_1000 hDl.l3) (lim_1000 hDl.l4) (hK2.read hG.r3) (hK2.read hG.r4) (lim_1000 hGl.l3) (lim_1000 hGl.l4)
  rw [← dg_dec]
  simp (config := {contextual := true, maxDischargeDepth := 12}) only [tb_at, h0, h1, hlen, q1, q2, hbx, hby, p1, p2, p3, p4, p5, p6, p7, p8, r1, r2, r3, r4, r5, r6, r7, r8, ↓bD, bU, forall_const, bS, implies_true, isNx, eq_self, ↓wp_cond, ↓wp_loop, ↓reduceIte, reduceCtorEq, Nat.reduceEqDiff, Nat.reduceLT, Nat.reduceAdd, Nat.reduceMul, bT, ↓sg_bsl, ↓st_callf, bX, List.cons_append, List.nil_append, ↓st_appf, bY, slcV_nils0N, slcV_sl0N, bslV_0N, bin_shr1, bsl_nd]
  all_goals first | exact hK2 | skip
theorem q_DgEqual (cl : Bool) {s : St} {a1 b1 c1 d1 : AV} {D : DDg} (hD : DgR s a1 b1 c1 d1 D) (hDl : DgL D 1000) {a2 b2 c2 d2 : AV} {G : DDg} (hG : DgR s a2 b2 c2 d2 G) (hGl : DgL G 1000) : acall R_DgEqual cl [.agg [a1, b1, c1, d1], .agg [a2, b2, c2, d2]] s = some (.bool (decide (D = G)), s) := run_same n_DgEqual (by simp [a25]) rfl (w_DgEqual (s := lowd s) hD.low hDl hG.low hGl)
theorem ground4 {a b c d : AV} (h : (AV.agg [a, b, c, d]).ground = true) : a.plain = true ∧ b.plain = true ∧ c.plain = true ∧ d.plain = true := by
  simpa [AV.ground, and_assoc] using h
theorem ground4t {a b c d e : AV} (h : (AV.tup [.agg [a, b, c, d], e]).ground = true) : a.plain = true ∧ b.plain = true ∧ c.plain = true ∧ d.plain = true := by
  simp [AV.ground, AV.plains, and_assoc] at h
  exact ⟨h.1, h.2.1, h.2.2.1, h.2.2.2.1⟩

theorem dgr_put {id : Nat} {n1 n2 n3 n4 x1 x2 x3 x4 : AV} {D : DDg} (h : t.get id = some (.row [.nils, .nils, .nils, .nils] true)) (hR : DgR t x1 x2 x3 x4 D) : DgR (t.put id (.row [n1, n2, n3, n4] true)) x1 x2 x3 x4 D := by
  have hlt := St.get_lt h
  have key : ∀ {v : AV} {l : List Dot}, read dotC t v = some l → read dotC (t.put id (.row [n1, n2, n3, n4] true)) v = some l := by
    intro v l hr
    cases v with
    | nils => exact hr
    | sl j off n cap z =>
      obtain ⟨rfl, hn, cs, own', hg, h1, h2, _⟩ := read_sl hr
      by_cases hj : j = id
      · subst hj
        rw [h] at hg
        injection hg with hg
        injection hg with hg _
        subst hg
        cases l with
        | nil =>
          simp at hn
          subst hn
          exact read_of (C := dotC) (n := 0) rfl (St.get_put_same h) (by simp at h1 ⊢; omega) (by simp [cells_nil])
        | cons d r =>
          exfalso
          have h22 : dotC.sz = 2 := rfl
          rw [h22] at h2 h1
          have hc : dotC.cells (d :: r) = .int .i64 d.r :: .int .i64 d.c :: dotC.cells r := by rw [cells_cons]; rfl
          rw [hc] at h2
          have hm : (AV.int .i64 d.r) ∈ [AV.nils, .nils, .nils, .nils] := by
            have : (AV.int .i64 d.r) ∈ (List.drop off [AV.nils, .nils, .nils, .nils]).take (n * 2) := by rw [h2]; simp
            exact List.mem_of_mem_drop (List.mem_of_mem_take this)
          simp at hm
      · exact read_of hn (by rw [St.get_put_ne _ _ hlt hj]; exact hg) h1 h2
    | _ => simp [AM.read] at hr
  exact ⟨key hR.r1, key hR.r2, key hR.r3, key hR.r4⟩
end Go.AM
end
/-
  Digests: Of, Within, Merge of the package. Own work of this project; in part printed by a program of it.
-/
section
set_option maxRecDepth 100000
set_option maxHeartbeats 8000000
namespace Go.AM
open Go Go.Proofs

variable {s t u : St}
def dwinP (D G : DDg) : Bool × Int := if dgV D = true ∧ dgV G = true then (dgWithin D G, 0) else (false, 2)
theorem dwinP_ok {D G : DDg} (h : dgV D = true) (k : dgV G = true) : dwinP D G = (dgWithin D G, 0) := by unfold dwinP; rw [if_pos ⟨h, k⟩]
theorem dwinP_bad {D G : DDg} (h : ¬ (dgV D = true ∧ dgV G = true)) : dwinP D G = (false, 2) := by unfold dwinP; rw [if_neg h]
noncomputable def R_DgWithin : Con := runFn (tb [(12, R_DgValid), (36, R_CWithin)]) a43
theorem s_DgWithin : SoundAt Tryz.prog 43 R_DgWithin := run_sound (tb_sound (l := [(12, R_DgValid), (36, R_CWithin)]) (by simpa using ⟨s_DgValid, s_CWithin⟩)) mixed Tryz.func43 k43 c43
theorem n_DgWithin : noNxtC a43.body = true := by kernel_rfl
theorem w_DgWithin {s : St} {a1 b1 c1 d1 : AV} {D : DDg} (hD : DgR s a1 b1 c1 d1 D) (hDl : DgL D 1000) {a2 b2 c2 d2 : AV} {G : DDg} (hG : DgR s a2 b2 c2 d2 G) (hGl : DgL G 1000) : ∀ env : Env, elen env = a43.ntmps → (∀ i x_, [.agg [a1, b1, c1, d1], .agg [a2, b2, c2, d2]][i]? = some x_ → E env i = x_) → awp (tb [(12, R_DgValid), (36, R_CWithin)]) a43.body (fun x e t => (∀ i, x ≠ .exit i) ∧ aresults e t a43.results = some (.tup [.bool (dwinP D G).1, .int .i64 (dwinP D G).2]) ∧ Keep s t) env s := by
  intro env hlen ha
  have h0 : E env 0 = _ := ha 0 _ rfl
  have h1 : E env 1 = _ := ha 1 _ rfl
  have hlen : elen env = _ := hlen
  simp only [a43] at hlen
  unfold a43
  try dsimp only [oO, oG]
  have hbx := hD.box
  have hby := hG.box
  have hK2 : Keep s ((s.push (.row [a1, b1, c1, d1] true)).push (.row [a2, b2, c2, d2] true)) := ((Keep.refl s).push _).push _
  have hK12 : Keep (s.push (.row [a1, b1, c1, d1] true)) ((s.push (.row [a1, b1, c1, d1] true)).push (.row [a2, b2, c2, d2] true)) := (Keep.refl _).push _
  obtain ⟨p1, p2, p3, p4, p5, p6, p7, p8⟩ := box_dg s a1 b1 c1 d1 hK12
  obtain ⟨r1, r2, r3, r4, r5, r6, r7, r8⟩ := box_dg (s.push (.row [a1, b1, c1, d1] true)) a2 b2 c2 d2 (.refl _)
  have v1 := q_DgValid false (hD.keep hK2) hDl
  have v2 := q_DgValid false (hG.keep hK2) hGl
  have n20 : ((2 : Int) = 0) = False := eq_false (by decide)
  have n00 : ((0 : Int) = 0) = True := eq_true rfl
  cases h1s : dgV D
  · rw [h1s] at v1
    rw [dwinP_bad (by rw [h1s]; simp)]
    simp (config := {contextual := true, maxDischargeDepth := 12}) only [tb_at, h0, h1, hlen, v1, notV_bool, Bool.not_false, hbx, hby, p1, p2, p3, p4, p5, p6, p7, p8, r1, r2, r3, r4, r5, r6, r7, r8, ↓bD, bU, forall_const, bS, implies_true, isNx, eq_self, ↓wp_cond, ↓wp_loop, ↓reduceIte, reduceCtorEq, Nat.reduceEqDiff, Nat.reduceLT, Nat.reduceAdd, Nat.reduceMul, bT, ↓sg_bsl, ↓st_callf, bX, List.cons_append, List.nil_append, ↓st_appf, bY, slcV_nils0N, slcV_sl0N, bslV_0N, bin_shr1, bsl_nd]
    all_goals first | exact hK2 | skip
  rw [h1s] at v1
  cases h2s : dgV G
  · rw [h2s] at v2
    rw [dwinP_bad (by rw [h2s]; simp)]
    simp (config := {contextual := true, maxDischargeDepth := 12}) only [tb_at, h0, h1, hlen, v1, v2, notV_bool, Bool.not_true, Bool.not_false, hbx, hby, p1, p2, p3, p4, p5, p6, p7, p8, r1, r2, r3, r4, r5, r6, r7, r8, ↓bD, bU, forall_const, bS, implies_true, isNx, eq_self, ↓wp_cond, ↓wp_loop, ↓reduceIte, reduceCtorEq, Nat.reduceEqDiff, Nat.reduceLT, Nat.reduceAdd, Nat.reduceMul, bT, ↓sg_bsl, ↓st_callf, bX, List.cons_append, List.nil_append, ↓st_appf, bY, slcV_nils0N, slcV_sl0N, bslV_0N, bin_shr1, bsl_nd]
    all_goals first | exact hK2 | skip
  rw [h2s] at v2
  rw [dwinP_ok h1s h2s]
  obtain ⟨x1, x2, _⟩ := dgV_parts h1s
  obtain ⟨y1, y2, _⟩ := dgV_parts h2s
  have w1 := q_CWithin false (hK2.read hD.r1) (hK2.read hD.r2) (lim_80 hDl.l1) (lim_80 hDl.l2) (hK2.read hG.r1) (hK2.read hG.r2) (lim_80 hGl.l1) (lim_80 hGl.l2) (isC_cvalid x1) (isC_cvalid y1)
  have w2 := q_CWithin false (hK2.read hD.r3) (hK2.read hD.r4) (lim_80 hDl.l3) (lim_80 hDl.l4) (hK2.read hG.r3) (hK2.read hG.r4) (lim_80 hGl.l3) (lim_80 hGl.l4) (isC_cvalid x2) (isC_cvalid y2)
  rw [win_eq x1 y1] at w1
  rw [win_eq x2 y2] at w2
  unfold dgWithin
  cases hj : jwithin D.all G.all
  · rw [hj] at w1
    simp (config := {contextual := true, maxDischargeDepth := 12}) only [tb_at, h0, h1, hlen, v1, v2, w1, n00, decide_true, notV_bool, bin_eqE, Bool.not_true, Bool.not_false, Bool.false_and, hbx, hby, p1, p2, p3, p4, p5, p6, p7, p8, r1, r2, r3, r4, r5, r6, r7, r8, ↓bD, bU, forall_const, bS, implies_true, isNx, eq_self, ↓wp_cond, ↓wp_loop, ↓reduceIte, reduceCtorEq, Nat.reduceEqDiff, Nat.reduceLT, Nat.reduceAdd, Nat.reduceMul, bT, ↓sg_bsl, ↓st_callf, bX, List.cons_append, List.nil_append, ↓st_appf, bY, slcV_nils0N, slcV_sl0N, bslV_0N, bin_shr1, bsl_nd]
    all_goals first | exact hK2 | skip
  · rw [hj] at w1
    simp (config := {contextual := true, maxDischargeDepth := 12}) only [tb_at, h0, h1, hlen, v1, v2, w1, w2, n00, decide_true, notV_bool, bin_eqE, Bool.not_true, Bool.not_false, Bool.true_and, hbx, hby, p1, p2, p3, p4, p5, p6, p7, p8, r1, r2, r3, r4, r5, r6, r7, r8, ↓bD, bU, forall_const, bS, implies_true, isNx, eq_self, ↓wp_cond, ↓wp_loop, ↓reduceIte, reduceCtorEq, Nat.reduceEqDiff, Nat.reduceLT, Nat.reduceAdd, Nat.reduceMul, bT, ↓sg_bsl, ↓st_callf, bX, List.cons_append, List.nil_append, ↓st_appf, bY, slcV_nils0N, slcV_sl0N, bslV_0N, bin_shr1, bsl_nd]
    all_goals first | exact hK2 | skip
theorem q_DgWithin (cl : Bool) {s : St} {a1 b1 c1 d1 : AV} {D : DDg} (hD : DgR s a1 b1 c1 d1 D) (hDl : DgL D 1000) {a2 b2 c2 d2 : AV} {G : DDg} (hG : DgR s a2 b2 c2 d2 G) (hGl : DgL G 1000) : acall R_DgWithin cl [.agg [a1, b1, c1, d1], .agg [a2, b2, c2, d2]] s = some (.tup [.bool (dwinP D G).1, .int .i64 (dwinP D G).2], s) := run_same n_DgWithin (by simp [a43]) rfl (w_DgWithin (s := lowd s) hD.low hDl hG.low hGl)

def dmerP (D G : DDg) : DDg × Int := if dgV D = true ∧ dgV G = true then (dgMerge D G, 0) else (⟨⟨[], []⟩, ⟨[], []⟩⟩, 2)
theorem dmerP_ok {D G : DDg} (h : dgV D = true) (k : dgV G = true) : dmerP D G = (dgMerge D G, 0) := by unfold dmerP; rw [if_pos ⟨h, k⟩]
theorem dmerP_bad {D G : DDg} (h : ¬ (dgV D = true ∧ dgV G = true)) : dmerP D G = (⟨⟨[], []⟩, ⟨[], []⟩⟩, 2) := by unfold dmerP; rw [if_neg h]
noncomputable def R_DgMerge : Con := runFn (tb [(12, R_DgValid), (56, R_CUnion)]) a44
theorem s_DgMerge : SoundAt Tryz.prog 44 R_DgMerge := run_sound (tb_sound (l := [(12, R_DgValid), (56, R_CUnion)]) (by simpa using ⟨s_DgValid, s_CUnion⟩)) mixed Tryz.func44 k44 c44
theorem n_DgMerge : noNxtC a44.body = true := by kernel_rfl
theorem w_DgMerge_bad {s : St} {a1 b1 c1 d1 : AV} {D : DDg} (hD : DgR s a1 b1 c1 d1 D) (hDl : DgL D 1000) {a2 b2 c2 d2 : AV} {G : DDg} (hG : DgR s a2 b2 c2 d2 G) (hGl : DgL G 1000) (hb : ¬ (dgV D = true ∧ dgV G = true)) : ∀ env : Env, elen env = a44.ntmps → (∀ i x_, [.agg [a1, b1, c1, d1], .agg [a2, b2, c2, d2]][i]? = some x_ → E env i = x_) → awp (tb [(12, R_DgValid), (56, R_CUnion)]) a44.body (fun x e t => (∀ i, x ≠ .exit i) ∧ aresults e t a44.results = some (.tup [.agg [.nils, .nils, .nils, .nils], .int .i64 2]) ∧ Keep s t) env s := by
  intro env hlen ha
  have h0 : E env 0 = _ := ha 0 _ rfl
  have h1 : E env 1 = _ := ha 1 _ rfl
  have hlen : elen env = _ := hlen
  simp only [a44] at hlen
  unfold a44
  try dsimp only [oO, oG]
  have hbx := hD.box
  have hby := hG.box
  have hK2 : Keep s (((s.push (.row [a1, b1, c1, d1] true)).push (.row [a2, b2, c2, d2] true)).push (.row [.nils, .nils, .nils, .nils] true)) := (((Keep.refl s).push _).push _).push _
  have hK12 : Keep (s.push (.row [a1, b1, c1, d1] true)) (((s.push (.row [a1, b1, c1, d1] true)).push (.row [a2, b2, c2, d2] true)).push (.row [.nils, .nils, .nils, .nils] true)) := ((Keep.refl _).push _).push _
  have hK22 : Keep ((s.push (.row [a1, b1, c1, d1] true)).push (.row [a2, b2, c2, d2] true)) (((s.push (.row [a1, b1, c1, d1] true)).push (.row [a2, b2, c2, d2] true)).push (.row [.nils, .nils, .nils, .nils] true)) := (Keep.refl _).push _
  obtain ⟨p1, p2, p3, p4, p5, p6, p7, p8⟩ := box_dg s a1 b1 c1 d1 hK12
  obtain ⟨r1, r2, r3, r4, r5, r6, r7, r8⟩ := box_dg (s.push (.row [a1, b1, c1, d1] true)) a2 b2 c2 d2 hK22
  have hb3 := St.get_push_new ((s.push (.row [a1, b1, c1, d1] true)).push (.row [a2, b2, c2, d2] true)) (.row [.nils, .nils, .nils, .nils] true)
  have v1 := q_DgValid false (hD.keep hK2) hDl
  have v2 := q_DgValid false (hG.keep hK2) hGl
  have st4 := sto_dg (show sameN ((s.push (.row [a1, b1, c1, d1] true)).push (.row [a2, b2, c2, d2] true)).next ((s.push (.row [a1, b1, c1, d1] true)).push (.row [a2, b2, c2, d2] true)) from rfl) (DgR.nils (t := s))
  obtain ⟨s1_, s2_, s3_, s4_, s5_, s6_, s7_, s8_⟩ := row4_lods (St.get_push_new ((s.push (.row [a1, b1, c1, d1] true)).push (.row [a2, b2, c2, d2] true)).lowed (.row [.nils, .nils, .nils, .nils] true))
  have s1_ : lod (((s.push (.row [a1, b1, c1, d1] true)).push (.row [a2, b2, c2, d2] true)).lowed.push (.row [.nils, .nils, .nils, .nils] true)) 4 (.ptr ((s.push (.row [a1, b1, c1, d1] true)).push (.row [a2, b2, c2, d2] true)).next 0) = some (.agg [.nils, .nils, .nils, .nils]) := s1_
  have s8_ : ltN ((s.push (.row [a1, b1, c1, d1] true)).push (.row [a2, b2, c2, d2] true)).next (((s.push (.row [a1, b1, c1, d1] true)).push (.row [a2, b2, c2, d2] true)).lowed.push (.row [.nils, .nils, .nils, .nils] true)) := s8_
  have hKb : Keep s (((s.push (.row [a1, b1, c1, d1] true)).push (.row [a2, b2, c2, d2] true)).lowed.push (.row [.nils, .nils, .nils, .nils] true)) := (((Keep.refl s).push _).push _).lowed.push _
  have n20 : ((2 : Int) = 0) = False := eq_false (by decide)
  have n00 : ((0 : Int) = 0) = True := eq_true rfl
  cases h1s : dgV D
  · rw [h1s] at v1
    simp (config := {contextual := true, maxDischargeDepth := 12}) only [tb_at, h0, h1, hlen, v1, notV_bool, Bool.not_false, ap_build, fillP_nil, st4, s1_, s8_, rc2, hbx, hby, p1, p2, p3, p4, p5, p6, p7, p8, r1, r2, r3, r4, r5, r6, r7, r8, ↓bD, bU, forall_const, bS, implies_true, isNx, eq_self, ↓wp_cond, ↓wp_loop, ↓reduceIte, reduceCtorEq, Nat.reduceEqDiff, Nat.reduceLT, Nat.reduceAdd, Nat.reduceMul, bT, ↓sg_bsl, ↓st_callf, bX, List.cons_append, List.nil_append, ↓st_appf, bY, slcV_nils0N, slcV_sl0N, bslV_0N, bin_shr1, bsl_nd]
    all_goals first | exact hKb | skip
  rw [h1s] at v1
  have h2s : dgV G = false := by
    cases h : dgV G
    · rfl
    · exact absurd ⟨h1s, h⟩ hb
  rw [h2s] at v2
  simp (config := {contextual := true, maxDischargeDepth := 12}) only [tb_at, h0, h1, hlen, v1, v2, notV_bool, Bool.not_true, Bool.not_false, ap_build, fillP_nil, st4, s1_, s8_, rc2, hbx, hby, p1, p2, p3, p4, p5, p6, p7, p8, r1, r2, r3, r4, r5, r6, r7, r8, ↓bD, bU, forall_const, bS, implies_true, isNx, eq_self, ↓wp_cond, ↓wp_loop, ↓reduceIte, reduceCtorEq, Nat.reduceEqDiff, Nat.reduceLT, Nat.reduceAdd, Nat.reduceMul, bT, ↓sg_bsl, ↓st_callf, bX, List.cons_append, List.nil_append, ↓st_appf, bY, slcV_nils0N, slcV_sl0N, bslV_0N, bin_shr1, bsl_nd]
  all_goals first | exact hKb | skip
theorem q_DgMerge_bad (cl : Bool) {s : St} {a1 b1 c1 d1 : AV} {D : DDg} (hD : DgR s a1 b1 c1 d1 D) (hDl : DgL D 1000) {a2 b2 c2 d2 : AV} {G : DDg} (hG : DgR s a2 b2 c2 d2 G) (hGl : DgL G 1000) (hb : ¬ (dgV D = true ∧ dgV G = true)) : acall R_DgMerge cl [.agg [a1, b1, c1, d1], .agg [a2, b2, c2, d2]] s = some (.tup [.agg [.nils, .nils, .nils, .nils], .int .i64 2], s) := run_same n_DgMerge (by simp [a44]) rfl (w_DgMerge_bad (s := lowd s) hD.low hDl hG.low hGl hb)
theorem w_DgMerge {s : St} {a1 b1 c1 d1 : AV} {D : DDg} (hD : DgR s a1 b1 c1 d1 D) (hDl : DgL D 1000) {a2 b2 c2 d2 : AV} {G : DDg} (hG : DgR s a2 b2 c2 d2 G) (hGl : DgL G 1000) (hvD : dgV D = true) (hvG : dgV G = true) : ∀ env : Env, elen env = a44.ntmps → (∀ i x_, [.agg [a1, b1, c1, d1], .agg [a2, b2, c2, d2]][i]? = some x_ → E env i = x_) → awp (tb [(12, R_DgValid), (56, R_CUnion)]) a44.body (fun x e t => (∀ i, x ≠ .exit i) ∧ ∃ r, aresults e t a44.results = some r ∧ (∃ x1 x2 x3 x4, r = .tup [.agg [x1, x2, x3, x4], .int .i64 0] ∧ DgR t x1 x2 x3 x4 (dgMerge D G)) ∧ Keep s t) env s := by
  intro env hlen ha
  have h0 : E env 0 = _ := ha 0 _ rfl
  have h1 : E env 1 = _ := ha 1 _ rfl
  have hlen : elen env = _ := hlen
  simp only [a44] at hlen
  unfold a44
  try dsimp only [oO, oG]
  have hbx := hD.box
  have hby := hG.box
  have hK2 : Keep s (((s.push (.row [a1, b1, c1, d1] true)).push (.row [a2, b2, c2, d2] true)).push (.row [.nils, .nils, .nils, .nils] true)) := (((Keep.refl s).push _).push _).push _
  have hK12 : Keep (s.push (.row [a1, b1, c1, d1] true)) (((s.push (.row [a1, b1, c1, d1] true)).push (.row [a2, b2, c2, d2] true)).push (.row [.nils, .nils, .nils, .nils] true)) := ((Keep.refl _).push _).push _
  have hK22 : Keep ((s.push (.row [a1, b1, c1, d1] true)).push (.row [a2, b2, c2, d2] true)) (((s.push (.row [a1, b1, c1, d1] true)).push (.row [a2, b2, c2, d2] true)).push (.row [.nils, .nils, .nils, .nils] true)) := (Keep.refl _).push _
  obtain ⟨p1, p2, p3, p4, p5, p6, p7, p8⟩ := box_dg s a1 b1 c1 d1 hK12
  obtain ⟨r1, r2, r3, r4, r5, r6, r7, r8⟩ := box_dg (s.push (.row [a1, b1, c1, d1] true)) a2 b2 c2 d2 hK22
  have hb3 := St.get_push_new ((s.push (.row [a1, b1, c1, d1] true)).push (.row [a2, b2, c2, d2] true)) (.row [.nils, .nils, .nils, .nils] true)
  have v1 := q_DgValid false (hD.keep hK2) hDl
  have v2 := q_DgValid false (hG.keep hK2) hGl
  rw [hvD] at v1
  rw [hvG] at v2
  obtain ⟨z1, z2, _⟩ := dgV_parts hvD
  obtain ⟨y1, y2, _⟩ := dgV_parts hvG
  obtain ⟨x1, x2, t1, q1, hC1, hKa⟩ := q_CUnion (hK2.read hD.r1) (hK2.read hD.r2) (lim_80 hDl.l1) (lim_80 hDl.l2) (hK2.read hG.r1) (hK2.read hG.r2) (lim_80 hGl.l1) (lim_80 hGl.l2) (isC_cvalid z1) (isC_cvalid y1)
  have hs1 := sto_ctx (show sameN t1.next t1 from rfl) (read_oneD hC1.1).2 (read_oneD hC1.2).2
  have hK3 : Keep t1 (t1.lowed.push (.row [x1, x2] true)) := (Keep.refl t1).lowed.push _
  have hg3 := St.get_push_new t1.lowed (.row [x1, x2] true)
  have hKb := (hK2.trans hKa).trans hK3
  obtain ⟨P1, P2, P3, P4, P5, P6, P7, P8⟩ := box_dg s a1 b1 c1 d1 ((hK12.trans hKa).trans hK3)
  obtain ⟨R1, R2, R3, R4, R5, R6, R7, R8⟩ := box_dg (s.push (.row [a1, b1, c1, d1] true)) a2 b2 c2 d2 ((hK22.trans hKa).trans hK3)
  obtain ⟨x3, x4, t2, q2, hC2, hK4⟩ := q_CUnion (hKb.read hD.r3) (hKb.read hD.r4) (lim_80 hDl.l3) (lim_80 hDl.l4) (hKb.read hG.r3) (hKb.read hG.r4) (lim_80 hGl.l3) (lim_80 hGl.l4) (isC_cvalid z2) (isC_cvalid y2)
  have hs2 := sto_ctx (show sameN t2.next t2 from rfl) (read_oneD hC2.1).2 (read_oneD hC2.2).2
  have hK5 : Keep t2 (t2.lowed.push (.row [x3, x4] true)) := (Keep.refl t2).lowed.push _
  have hg5 := St.get_push_new t2.lowed (.row [x3, x4] true)
  have e1 : lod (t2.lowed.push (.row [x3, x4] true)) 2 (.ptr t1.next 0) = some (.agg [x1, x2]) := lod_row2 ((hK4.trans hK5).blk hg3)
  have e2 : ltN t1.next (t2.lowed.push (.row [x3, x4] true)) := St.get_lt ((hK4.trans hK5).blk hg3)
  have e3 : lod (t2.lowed.push (.row [x3, x4] true)) 2 (.ptr t2.next 0) = some (.agg [x3, x4]) := lod_row2 hg5
  have e4 : ltN t2.next (t2.lowed.push (.row [x3, x4] true)) := St.get_lt hg5
  have hC1' := hC1.keep ((hK3.trans hK4).trans hK5)
  have hC2' := hC2.keep hK5
  have hR : DgR (t2.lowed.push (.row [x3, x4] true)) x1 x2 x3 x4 (dgMerge D G) := ⟨hC1'.1, hC1'.2, hC2'.1, hC2'.2⟩
  have hKr : Keep (((s.push (.row [a1, b1, c1, d1] true)).push (.row [a2, b2, c2, d2] true)).push (.row [.nils, .nils, .nils, .nils] true)) (t2.lowed.push (.row [x3, x4] true)) := (hKa.trans hK3).trans (hK4.trans hK5)
  have hbx4 := hKr.blk hb3
  have f0 := fstep_q0 (read_oneD hR.r1).2 (read_oneD hR.r2).2 .nils .nils .nils .nils
  have f2 := fstep_q2 (read_oneD hR.r3).2 (read_oneD hR.r4).2 x1 x2 .nils .nils
  have st4 := sto_row4 hbx4 hR
  have hlt := St.get_lt hbx4
  obtain ⟨s1_, s2_, s3_, s4_, s5_, s6_, s7_, s8_⟩ := row4_lods (St.get_put_same (b := .row [x1, x2, x3, x4] true) hbx4)
  have n20 : ((2 : Int) = 0) = False := eq_false (by decide)
  have n00 : ((0 : Int) = 0) = True := eq_true rfl
  simp (config := {contextual := true, maxDischargeDepth := 12}) only [tb_at, h0, h1, hlen, v1, v2, q1, hs1, q2, hs2, e1, e2, e3, e4, P1, P2, P3, P8, R1, R2, R3, R8, n00, decide_true, notV_bool, Bool.not_true, bin_eqE, ap_build, fillP_nil, fillP_cons, f0, f2, st4, hlt, s1_, s8_, rc2, hbx, hby, p1, p2, p3, p4, p5, p6, p7, p8, r1, r2, r3, r4, r5, r6, r7, r8, ↓bD, bU, forall_const, bS, implies_true, isNx, eq_self, ↓wp_cond, ↓wp_loop, ↓reduceIte, reduceCtorEq, Nat.reduceEqDiff, Nat.reduceLT, Nat.reduceAdd, Nat.reduceMul, bT, ↓sg_bsl, ↓st_callf, bX, List.cons_append, List.nil_append, ↓st_appf, bY, slcV_nils0N, slcV_sl0N, bslV_0N, bin_shr1, bsl_nd]
  exact ⟨_, rfl, ⟨x1, x2, x3, x4, rfl, dgr_put hbx4 hR⟩, (hK2.trans hKr).put _ (by simp; omega) hlt⟩
theorem q_DgMerge {s : St} {a1 b1 c1 d1 : AV} {D : DDg} (hD : DgR s a1 b1 c1 d1 D) (hDl : DgL D 1000) {a2 b2 c2 d2 : AV} {G : DDg} (hG : DgR s a2 b2 c2 d2 G) (hGl : DgL G 1000) (hvD : dgV D = true) (hvG : dgV G = true) : ∃ x1 x2 x3 x4 t, acall R_DgMerge false [.agg [a1, b1, c1, d1], .agg [a2, b2, c2, d2]] s = some (.tup [.agg [x1, x2, x3, x4], .int .i64 0], t) ∧ DgR t x1 x2 x3 x4 (dgMerge D G) ∧ Keep s t := by
  obtain ⟨r, t, h1, ⟨x1, x2, x3, x4, rfl, h2⟩, h3⟩ := run_any n_DgMerge (args := [.agg [a1, b1, c1, d1], .agg [a2, b2, c2, d2]]) (Q := fun r t => ∃ x1 x2 x3 x4, r = .tup [.agg [x1, x2, x3, x4], .int .i64 0] ∧ DgR t x1 x2 x3 x4 (dgMerge D G)) (by simp [a44]) (fun r t t' hg hn ⟨x1, x2, x3, x4, e, h⟩ => ⟨x1, x2, x3, x4, e, h.mono fun id b hb => by rw [hg]; exact hb⟩) (fun r t hgr hk ⟨x1, x2, x3, x4, e, h⟩ => ⟨x1, x2, x3, x4, e, by
    rw [e] at hgr
    obtain ⟨g1, g2, g3, g4⟩ := ground4t hgr
    exact h.ground (plain_ground g1) (plain_ground g2) (plain_ground g3) (plain_ground g4)⟩) (w_DgMerge (s := lowd s) hD.low hDl hG.low hGl hvD hvG)
  exact ⟨x1, x2, x3, x4, t, h1, h2, h3⟩

end Go.AM
end
/-
  Contracts of digests that the kernel runs. Own work of this project; in part printed by a program of it.
-/
section
set_option maxRecDepth 100000
set_option maxHeartbeats 8000000
namespace Go.AM
open Go Go.Proofs

variable {s t u : St}

def rdDg (s : St) (a b c d : AV) : Option DDg := match AM.read dotC s a, AM.read dotC s b, AM.read dotC s c, AM.read dotC s d with
  | some v1, some c1, some v2, some c2 => if v1.length ≤ 1000 ∧ c1.length ≤ 1000 ∧ v2.length ≤ 1000 ∧ c2.length ≤ 1000 then some ⟨⟨v1, c1⟩, ⟨v2, c2⟩⟩ else none
  | _, _, _, _ => none
theorem rdDg_some {s : St} {a b c d : AV} {D : DDg} (h : rdDg s a b c d = some D) : DgR s a b c d D ∧ DgL D 1000 := by
  unfold rdDg at h
  split at h
  · split at h
    · rename_i h1 h2 h3 h4 hl
      injection h with h
      subst h
      exact ⟨⟨h1, h2, h3, h4⟩, ⟨hl.1, hl.2.1, hl.2.2.1, hl.2.2.2⟩⟩
    · cases h
  · cases h
def cDg (f : DDg → AV) : Con := fun xs s => match xs with
  | [.agg [a, b, c, d]] => (rdDg s a b c d).map fun D => (f D, s.lowed)
  | _ => none
def cDgDg (f : DDg → DDg → AV) : Con := fun xs s => match xs with
  | [.agg [a, b, c, d], .agg [a', b', c', d']] => match rdDg s a b c d, rdDg s a' b' c' d' with
    | some D, some G => some (f D G, s.lowed)
    | _, _ => none
  | _ => none
theorem cDg_some {f : DDg → AV} {xs : List AV} {s s' : St} {r : AV} (h : cDg f xs s = some (r, s')) : ∃ a b c d D, xs = [.agg [a, b, c, d]] ∧ DgR s a b c d D ∧ DgL D 1000 ∧ r = f D ∧ s' = s.lowed := by
  unfold cDg at h
  split at h
  · obtain ⟨D, h1, h2⟩ := Option.map_eq_some_iff.1 h
    obtain ⟨rfl, rfl⟩ := Prod.mk.inj h2
    exact ⟨_, _, _, _, D, rfl, (rdDg_some h1).1, (rdDg_some h1).2, rfl, rfl⟩
  · cases h
theorem cDgDg_some {f : DDg → DDg → AV} {xs : List AV} {s s' : St} {r : AV} (h : cDgDg f xs s = some (r, s')) : ∃ a b c d a' b' c' d' D G, xs = [.agg [a, b, c, d], .agg [a', b', c', d']] ∧ DgR s a b c d D ∧ DgL D 1000 ∧ DgR s a' b' c' d' G ∧ DgL G 1000 ∧ r = f D G ∧ s' = s.lowed := by
  unfold cDgDg at h
  split at h
  · split at h
    · rename_i D G h1 h2
      injection h with h
      obtain ⟨rfl, rfl⟩ := Prod.mk.inj h
      exact ⟨_, _, _, _, _, _, _, _, D, G, rfl, (rdDg_some h1).1, (rdDg_some h1).2, (rdDg_some h2).1, (rdDg_some h2).2, rfl, rfl⟩
    · cases h
  · cases h
theorem k_DgValid : SoundAt Tryz.prog 12 (cDg fun D => .bool (dgV D)) :=
  con_keep (tb_sound (l := [(36, R_CWithin), (37, R_IsC)]) (by simpa using ⟨s_CWithin, s_IsC⟩)) mixed Tryz.func12 k12 c12 fun args s r s' h => by
    obtain ⟨a, b, c, d, D, rfl, hD, hDl, rfl, rfl⟩ := cDg_some h
    exact ⟨rfl, rfl, by simp [a12], fun env hlen ha => w_DgValid hD hDl env hlen ha⟩
theorem k_DgWithin : SoundAt Tryz.prog 43 (cDgDg fun D G => .tup [.bool (dwinP D G).1, .int .i64 (dwinP D G).2]) :=
  con_keep (tb_sound (l := [(12, R_DgValid), (36, R_CWithin)]) (by simpa using ⟨s_DgValid, s_CWithin⟩)) mixed Tryz.func43 k43 c43 fun args s r s' h => by
    obtain ⟨a, b, c, d, a', b', c', d', D, G, rfl, hD, hDl, hG, hGl, rfl, rfl⟩ := cDgDg_some h
    exact ⟨rfl, rfl, by simp [a43], fun env hlen ha => w_DgWithin hD hDl hG hGl env hlen ha⟩
theorem k_RgSame : SoundAt Tryz.prog 26 (cDgDg fun D G => .bool (decide (D = G))) :=
  con_keep (tb_sound (l := [(47, R_JSameC)]) (by simpa using s_JSameC)) mixed Tryz.func26 k26 c26 fun args s r s' h => by
    obtain ⟨a, b, c, d, a', b', c', d', D, G, rfl, hD, hDl, hG, hGl, rfl, rfl⟩ := cDgDg_some h
    exact ⟨rfl, rfl, by simp [a26], fun env hlen ha => w_RgSame hD hDl hG hGl env hlen ha⟩

end Go.AM
end
/-
  What a closed run by the kernel shows. Own work of this project.
-/
section
namespace Go.AM
open Go

def isTrue : Option (AV × St) → Bool
  | some (.bool true, _) => true
  | _ => false
theorem isTrue_ex {o : Option (AV × St)} (h : isTrue o = true) : ∃ s, o = some (.bool true, s) := by
  unfold isTrue at h
  split at h
  · exact ⟨_, rfl⟩
  · cases h
end Go.AM
end
/-
  The chapter's examples: 'known' answers true. Own work of this project; in part printed by a program of it.
-/
section
set_option maxRecDepth 100000
set_option maxHeartbeats 4000000
namespace Go.AM
open Go Go.Proofs

def tabK : Nat → AFun
  | 8 => .code a8
  | 31 => .code a31
  | 10 => .code a10
  | 15 => .code a15
  | 23 => .code a23
  | 21 => .code a21
  | 28 => .code a28
  | 42 => .code a42
  | 63 => .code a63
  | 18 => .code a18
  | 44 => .code a44
  | 20 => .code a20
  | 56 => .code a56
  | 64 => .code a64
  | 68 => .code a68
  | 94 => .code a94
  | 57 => .code a57
  | 60 => .code a60
  | 87 => .code a87
  | 107 => .code a107
  | 85 => .code a85
  | 59 => .code a59
  | 84 => .code a84
  | 82 => .code a82
  | 91 => .code a91
  | 79 => .code a79
  | 106 => .code a106
  | 92 => .code a92
  | 97 => .code a97
  | 93 => .code a93
  | 86 => .code a86
  | 113 => .code a113
  | 80 => .code a80
  | 102 => .code a102
  | 50 => .code a50
  | 103 => .code a103
  | 62 => .code a62
  | 48 => .code a48
  | 49 => .code a49
  | 72 => .code a72
  | 69 => .code a69
  | 90 => .code a90
  | 76 => .code a76
  | 73 => .code a73
  | 98 => .code a98
  | 109 => .code a109
  | 118 => .code a118
  | 81 => .code a81
  | 71 => .code a71
  | 61 => .code a61
  | 105 => .code a105
  | 89 => .code a89
  | 88 => .code a88
  | 83 => .code a83
  | 95 => .code a95
  | 104 => .code a104
  | 101 => .code a101
  | 114 => .code a114
  | 112 => .code a112
  | 120 => .code a120
  | 119 => .code a119
  | 108 => .code a108
  | 115 => .code a115
  | 70 => .code a70
  | 74 => .code a74
  | 75 => .code a75
  | 96 => .code a96
  | 100 => .con (conF dotC (pL dotC gMade))
  | 116 => .con (cPdq 50 (fun _ => true) sortD)
  | 117 => .con (cBits)
  | 41 => .con (conL ndC fValid)
  | 12 => .con (cDg fun D => .bool (dgV D))
  | 43 => .con (cDgDg fun D G => .tup [.bool (dwinP D G).1, .int .i64 (dwinP D G).2])
  | 26 => .con (cDgDg fun D G => .bool (decide (D = G)))
  | _ => .no
theorem tabK_ok : ∀ f, FunOk Tryz.prog f (tabK f) := by
  intro f
  unfold tabK
  split
  · exact ⟨k8, _, Tryz.func8, c8⟩
  · exact ⟨k31, _, Tryz.func31, c31⟩
  · exact ⟨k10, _, Tryz.func10, c10⟩
  · exact ⟨k15, _, Tryz.func15, c15⟩
  · exact ⟨k23, _, Tryz.func23, c23⟩
  · exact ⟨k21, _, Tryz.func21, c21⟩
  · exact ⟨k28, _, Tryz.func28, c28⟩
  · exact ⟨k42, _, Tryz.func42, c42⟩
  · exact ⟨k63, _, Tryz.func63, c63⟩
  · exact ⟨k18, _, Tryz.func18, c18⟩
  · exact ⟨k44, _, Tryz.func44, c44⟩
  · exact ⟨k20, _, Tryz.func20, c20⟩
  · exact ⟨k56, _, Tryz.func56, c56⟩
  · exact ⟨k64, _, Tryz.func64, c64⟩
  · exact ⟨k68, _, Tryz.func68, c68⟩
  · exact ⟨k94, _, Tryz.func94, c94⟩
  · exact ⟨k57, _, Tryz.func57, c57⟩
  · exact ⟨k60, _, Tryz.func60, c60⟩
  · exact ⟨k87, _, Tryz.func87, c87⟩
  · exact ⟨k107, _, Tryz.func107, c107⟩
  · exact ⟨k85, _, Tryz.func85, c85⟩
  · exact ⟨k59, _, Tryz.func59, c59⟩
  · exact ⟨k84, _, Tryz.func84, c84⟩
  · exact ⟨k82, _, Tryz.func82, c82⟩
  · exact ⟨k91, _, Tryz.func91, c91⟩
  · exact ⟨k79, _, Tryz.func79, c79⟩
  · exact ⟨k106, _, Tryz.func106, c106⟩
  · exact ⟨k92, _, Tryz.func92, c92⟩
  · exact ⟨k97, _, Tryz.func97, c97⟩
  · exact ⟨k93, _, Tryz.func93, c93⟩
  · exact ⟨k86, _, Tryz.func86, c86⟩
  · exact ⟨k113, _, Tryz.func113, c113⟩
  · exact ⟨k80, _, Tryz.func80, c80⟩
  · exact ⟨k102, _, Tryz.func102, c102⟩
  · exact ⟨k50, _, Tryz.func50, c50⟩
  · exact ⟨k103, _, Tryz.func103, c103⟩
  · exact ⟨k62, _, Tryz.func62, c62⟩
  · exact ⟨k48, _, Tryz.func48, c48⟩
  · exact ⟨k49, _, Tryz.func49, c49⟩
  · exact ⟨k72, _, Tryz.func72, c72⟩
  · exact ⟨k69, _, Tryz.func69, c69⟩
  · exact ⟨k90, _, Tryz.func90, c90⟩
  · exact ⟨k76, _, Tryz.func76, c76⟩
  · exact ⟨k73, _, Tryz.func73, c73⟩
  · exact ⟨k98, _, Tryz.func98, c98⟩
  · exact ⟨k109, _, Tryz.func109, c109⟩
  · exact ⟨k118, _, Tryz.func118, c118⟩
  · exact ⟨k81, _, Tryz.func81, c81⟩
  · exact ⟨k71, _, Tryz.func71, c71⟩
  · exact ⟨k61, _, Tryz.func61, c61⟩
  · exact ⟨k105, _, Tryz.func105, c105⟩
  · exact ⟨k89, _, Tryz.func89, c89⟩
  · exact ⟨k88, _, Tryz.func88, c88⟩
  · exact ⟨k83, _, Tryz.func83, c83⟩
  · exact ⟨k95, _, Tryz.func95, c95⟩
  · exact ⟨k104, _, Tryz.func104, c104⟩
  · exact ⟨k101, _, Tryz.func101, c101⟩
  · exact ⟨k114, _, Tryz.func114, c114⟩
  · exact ⟨k112, _, Tryz.func112, c112⟩
  · exact ⟨k120, _, Tryz.func120, c120⟩
  · exact ⟨k119, _, Tryz.func119, c119⟩
  · exact ⟨k108, _, Tryz.func108, c108⟩
  · exact ⟨k115, _, Tryz.func115, c115⟩
  · exact ⟨k70, _, Tryz.func70, c70⟩
  · exact ⟨k74, _, Tryz.func74, c74⟩
  · exact ⟨k75, _, Tryz.func75, c75⟩
  · exact ⟨k96, _, Tryz.func96, c96⟩
  · exact s_VMade
  · exact s_pdqSSortD
  · exact s_bits
  · exact s_JValid
  · exact k_DgValid
  · exact k_DgWithin
  · exact k_RgSame
  · trivial
theorem known_run : isTrue (acalls tabK 400 20 8 [] St.empty) = true := by kernel_rfl
theorem s_known : SoundAt Tryz.prog 8 (closed [] (.bool true)) := by
  obtain ⟨s, hs⟩ := isTrue_ex known_run
  exact closed_sound (acalls_sound mixed tabK_ok 20 _) hs rfl
end Go.AM
end
/-
  The helpers of the statements of layer 16. Own work of this project; in part printed by a program of it.
-/
section
set_option maxRecDepth 100000
set_option maxHeartbeats 8000000
namespace Go.AM
open Go Go.Proofs

variable {s t u : St}

theorem dgL_nil {n : Nat} : DgL ⟨⟨[], []⟩, ⟨[], []⟩⟩ n := ⟨Nat.zero_le _, Nat.zero_le _, Nat.zero_le _, Nat.zero_le _⟩
noncomputable def R_dwithin : Con := runFn (tb [(43, R_DgWithin)]) a21
theorem s_dwithin : SoundAt Tryz.prog 21 R_dwithin := run_sound (tb_sound (l := [(43, R_DgWithin)]) (by simpa using s_DgWithin)) mixed Tryz.func21 k21 c21
theorem n_dwithin : noNxtC a21.body = true := by kernel_rfl
theorem w_dwithin {s : St} {a1 b1 c1 d1 : AV} {D : DDg} (hD : DgR s a1 b1 c1 d1 D) (hDl : DgL D 1000) {a2 b2 c2 d2 : AV} {G : DDg} (hG : DgR s a2 b2 c2 d2 G) (hGl : DgL G 1000) (w : Bool) (c : Int) : ∀ env : Env, elen env = a21.ntmps → (∀ i x_, [.agg [a1, b1, c1, d1], .agg [a2, b2, c2, d2], .bool w, .int .i64 c][i]? = some x_ → E env i = x_) → awp (tb [(43, R_DgWithin)]) a21.body (fun x e t => (∀ i, x ≠ .exit i) ∧ aresults e t a21.results = some (.bool (((dwinP D G).1 == w) && decide ((dwinP D G).2 = c))) ∧ Keep s t) env s := by
  intro env hlen ha
  have h0 : E env 0 = _ := ha 0 _ rfl
  have h1 : E env 1 = _ := ha 1 _ rfl
  have h2 : E env 2 = _ := ha 2 _ rfl
  have h3 : E env 3 = _ := ha 3 _ rfl
  have hlen : elen env = _ := hlen
  simp only [a21] at hlen
  unfold a21
  try dsimp only [oO, oG]
  have hbx := hD.box
  have hby := hG.box
  have hK2 : Keep s ((s.push (.row [a1, b1, c1, d1] true)).push (.row [a2, b2, c2, d2] true)) := ((Keep.refl s).push _).push _
  have hK12 : Keep (s.push (.row [a1, b1, c1, d1] true)) ((s.push (.row [a1, b1, c1, d1] true)).push (.row [a2, b2, c2, d2] true)) := (Keep.refl _).push _
  obtain ⟨p1, p2, p3, p4, p5, p6, p7, p8⟩ := box_dg s a1 b1 c1 d1 hK12
  obtain ⟨r1, r2, r3, r4, r5, r6, r7, r8⟩ := box_dg (s.push (.row [a1, b1, c1, d1] true)) a2 b2 c2 d2 (.refl _)
  have q1 := q_DgWithin false (hD.keep hK2) hDl (hG.keep hK2) hGl
  simp (config := {contextual := true, maxDischargeDepth := 12}) only [tb_at, h0, h1, h2, h3, hlen, hbx, hby, p1, p2, p3, p4, p5, p6, p7, p8, r1, r2, r3, r4, r5, r6, r7, r8, q1, bin_eqE, bin_eqb, ↓bD, bU, forall_const, bS, implies_true, isNx, eq_self, ↓wp_cond, ↓wp_loop, ↓reduceIte, reduceCtorEq, Nat.reduceEqDiff, Nat.reduceLT, Nat.reduceAdd, Nat.reduceMul, bT, ↓sg_bsl, ↓st_callf, bX, List.cons_append, List.nil_append, ↓st_appf, bY, slcV_nils0N, slcV_sl0N, bslV_0N, bin_shr1, bsl_nd, q_known]
  all_goals first | exact hK2 | skip
theorem q_dwithin (cl : Bool) {s : St} {a1 b1 c1 d1 : AV} {D : DDg} (hD : DgR s a1 b1 c1 d1 D) (hDl : DgL D 1000) {a2 b2 c2 d2 : AV} {G : DDg} (hG : DgR s a2 b2 c2 d2 G) (hGl : DgL G 1000) (w : Bool) (c : Int) : acall R_dwithin cl [.agg [a1, b1, c1, d1], .agg [a2, b2, c2, d2], .bool w, .int .i64 c] s = some (.bool (((dwinP D G).1 == w) && decide ((dwinP D G).2 = c)), s) := run_same n_dwithin (by simp [a21]) rfl (w_dwithin (s := lowd s) hD.low hDl hG.low hGl w c)

theorem dgMerge_len {D G : DDg} {n m : Nat} (h : DgL D n) (k : DgL G m) : DgL (dgMerge D G) (2 * (n + m)) := by
  have e1 := uni_len D.all G.all
  have e2 := uni_len D.gone G.gone
  have := h.l1; have := h.l2; have := h.l3; have := h.l4
  have := k.l1; have := k.l2; have := k.l3; have := k.l4
  refine ⟨?_, ?_, ?_, ?_⟩ <;> simp only [dgMerge] <;> omega
theorem DgL.le {D : DDg} {n m : Nat} (h : DgL D n) (k : n ≤ m) : DgL D m := ⟨Nat.le_trans h.l1 k, Nat.le_trans h.l2 k, Nat.le_trans h.l3 k, Nat.le_trans h.l4 k⟩
noncomputable def R_merges : Con := runFn (tb [(44, R_DgMerge), (26, R_RgSame)]) a23
theorem s_merges : SoundAt Tryz.prog 23 R_merges := run_sound (tb_sound (l := [(44, R_DgMerge), (26, R_RgSame)]) (by simpa using ⟨s_DgMerge, s_RgSame⟩)) mixed Tryz.func23 k23 c23
theorem n_merges : noNxtC a23.body = true := by kernel_rfl
theorem w_merges {s : St} {a1 b1 c1 d1 : AV} {D : DDg} (hD : DgR s a1 b1 c1 d1 D) (hDl : DgL D 250) {a2 b2 c2 d2 : AV} {G : DDg} (hG : DgR s a2 b2 c2 d2 G) (hGl : DgL G 250) {a3 b3 c3 d3 : AV} {H : DDg} (hH : DgR s a3 b3 c3 d3 H) (hHl : DgL H 1000) (c : Int) : ∀ env : Env, elen env = a23.ntmps → (∀ i x_, [.agg [a1, b1, c1, d1], .agg [a2, b2, c2, d2], .agg [a3, b3, c3, d3], .int .i64 c][i]? = some x_ → E env i = x_) → awp (tb [(44, R_DgMerge), (26, R_RgSame)]) a23.body (fun x e t => (∀ i, x ≠ .exit i) ∧ aresults e t a23.results = some (.bool (decide ((dmerP D G).1 = H) && decide ((dmerP D G).2 = c))) ∧ Keep s t) env s := by
  intro env hlen ha
  have h0 : E env 0 = _ := ha 0 _ rfl
  have h1 : E env 1 = _ := ha 1 _ rfl
  have h2 : E env 2 = _ := ha 2 _ rfl
  have h3 : E env 3 = _ := ha 3 _ rfl
  have hlen : elen env = _ := hlen
  simp only [a23] at hlen
  unfold a23
  try dsimp only [oO, oG]
  have hbx := hD.box
  have hby := hG.box
  have hbz := hH.box
  have hK3 : Keep s (((s.push (.row [a1, b1, c1, d1] true)).push (.row [a2, b2, c2, d2] true)).push (.row [a3, b3, c3, d3] true)) := (((Keep.refl s).push _).push _).push _
  have hK13 : Keep (s.push (.row [a1, b1, c1, d1] true)) (((s.push (.row [a1, b1, c1, d1] true)).push (.row [a2, b2, c2, d2] true)).push (.row [a3, b3, c3, d3] true)) := ((Keep.refl _).push _).push _
  have hK23 : Keep ((s.push (.row [a1, b1, c1, d1] true)).push (.row [a2, b2, c2, d2] true)) (((s.push (.row [a1, b1, c1, d1] true)).push (.row [a2, b2, c2, d2] true)).push (.row [a3, b3, c3, d3] true)) := (Keep.refl _).push _
  obtain ⟨p1, p2, p3, p4, p5, p6, p7, p8⟩ := box_dg s a1 b1 c1 d1 hK13
  obtain ⟨r1, r2, r3, r4, r5, r6, r7, r8⟩ := box_dg (s.push (.row [a1, b1, c1, d1] true)) a2 b2 c2 d2 hK23
  have hDm := hDl.le (m := 1000) (by omega)
  have hGm := hGl.le (m := 1000) (by omega)
  by_cases hv : dgV D = true ∧ dgV G = true
  · rw [dmerP_ok hv.1 hv.2]
    obtain ⟨y1, y2, y3, y4, t1, q1, hQ, hKq⟩ := q_DgMerge (hD.keep hK3) hDm (hG.keep hK3) hGm hv.1 hv.2
    have hQl : DgL (dgMerge D G) 1000 := (dgMerge_len hDl hGl).le (by omega)
    have hst0 := sto_dg (show sameN (t1).next (t1) from rfl) hQ
    have hKb : Keep (t1) ((t1).lowed.push (.row [y1, y2, y3, y4] true)) := (Keep.refl _).lowed.push _
    obtain ⟨s1_, s2_, s3_, s4_, s5_, s6_, s7_, s8_⟩ := row4_lods (St.get_push_new (t1).lowed (.row [y1, y2, y3, y4] true))
    have s1_ : lod ((t1).lowed.push (.row [y1, y2, y3, y4] true)) 4 (.ptr (t1).next 0) = some (.agg [y1, y2, y3, y4]) := s1_
    have s8_ : ltN (t1).next ((t1).lowed.push (.row [y1, y2, y3, y4] true)) := s8_
    have hQb := hQ.keep hKb
    obtain ⟨z1, z2, z3, z4, z5, z6, z7, z8⟩ := box_dg ((s.push (.row [a1, b1, c1, d1] true)).push (.row [a2, b2, c2, d2] true)) a3 b3 c3 d3 (hKq.trans hKb)
    have q2 := q_RgSame false hQb hQl (hH.keep (hK3.trans (hKq.trans hKb))) hHl
    simp (config := {contextual := true, maxDischargeDepth := 12}) only [tb_at, h0, h1, h2, h3, hlen, hbx, hby, hbz, p1, p8, r1, r8, q1, hst0, s1_, s8_, z1, z8, q2, bin_eqE, ↓bD, bU, forall_const, bS, implies_true, isNx, eq_self, ↓wp_cond, ↓wp_loop, ↓reduceIte, reduceCtorEq, Nat.reduceEqDiff, Nat.reduceLT, Nat.reduceAdd, Nat.reduceMul, bT, ↓sg_bsl, ↓st_callf, bX, List.cons_append, List.nil_append, ↓st_appf, bY, slcV_nils0N, slcV_sl0N, bslV_0N, bin_shr1, bsl_nd, q_known]
    all_goals first | exact hK3.trans (hKq.trans hKb) | skip
  rw [dmerP_bad hv]
  have q1 := q_DgMerge_bad false (hD.keep hK3) hDm (hG.keep hK3) hGm hv
  have hQ : DgR (((s.push (.row [a1, b1, c1, d1] true)).push (.row [a2, b2, c2, d2] true)).push (.row [a3, b3, c3, d3] true)) .nils .nils .nils .nils ⟨⟨[], []⟩, ⟨[], []⟩⟩ := .nils
  have hQl : DgL ⟨⟨[], []⟩, ⟨[], []⟩⟩ 1000 := dgL_nil
  have hst0 := sto_dg (show sameN (((s.push (.row [a1, b1, c1, d1] true)).push (.row [a2, b2, c2, d2] true)).push (.row [a3, b3, c3, d3] true)).next (((s.push (.row [a1, b1, c1, d1] true)).push (.row [a2, b2, c2, d2] true)).push (.row [a3, b3, c3, d3] true)) from rfl) hQ
  have hKb : Keep (((s.push (.row [a1, b1, c1, d1] true)).push (.row [a2, b2, c2, d2] true)).push (.row [a3, b3, c3, d3] true)) ((((s.push (.row [a1, b1, c1, d1] true)).push (.row [a2, b2, c2, d2] true)).push (.row [a3, b3, c3, d3] true)).lowed.push (.row [.nils, .nils, .nils, .nils] true)) := (Keep.refl _).lowed.push _
  obtain ⟨s1_, s2_, s3_, s4_, s5_, s6_, s7_, s8_⟩ := row4_lods (St.get_push_new (((s.push (.row [a1, b1, c1, d1] true)).push (.row [a2, b2, c2, d2] true)).push (.row [a3, b3, c3, d3] true)).lowed (.row [.nils, .nils, .nils, .nils] true))
  have s1_ : lod ((((s.push (.row [a1, b1, c1, d1] true)).push (.row [a2, b2, c2, d2] true)).push (.row [a3, b3, c3, d3] true)).lowed.push (.row [.nils, .nils, .nils, .nils] true)) 4 (.ptr (((s.push (.row [a1, b1, c1, d1] true)).push (.row [a2, b2, c2, d2] true)).push (.row [a3, b3, c3, d3] true)).next 0) = some (.agg [.nils, .nils, .nils, .nils]) := s1_
  have s8_ : ltN (((s.push (.row [a1, b1, c1, d1] true)).push (.row [a2, b2, c2, d2] true)).push (.row [a3, b3, c3, d3] true)).next ((((s.push (.row [a1, b1, c1, d1] true)).push (.row [a2, b2, c2, d2] true)).push (.row [a3, b3, c3, d3] true)).lowed.push (.row [.nils, .nils, .nils, .nils] true)) := s8_
  have hQb := hQ.keep hKb
  obtain ⟨z1, z2, z3, z4, z5, z6, z7, z8⟩ := box_dg ((s.push (.row [a1, b1, c1, d1] true)).push (.row [a2, b2, c2, d2] true)) a3 b3 c3 d3 (hKb)
  have q2 := q_RgSame false hQb hQl (hH.keep (hK3.trans (hKb))) hHl
  simp (config := {contextual := true, maxDischargeDepth := 12}) only [tb_at, h0, h1, h2, h3, hlen, hbx, hby, hbz, p1, p8, r1, r8, q1, hst0, s1_, s8_, z1, z8, q2, bin_eqE, ↓bD, bU, forall_const, bS, implies_true, isNx, eq_self, ↓wp_cond, ↓wp_loop, ↓reduceIte, reduceCtorEq, Nat.reduceEqDiff, Nat.reduceLT, Nat.reduceAdd, Nat.reduceMul, bT, ↓sg_bsl, ↓st_callf, bX, List.cons_append, List.nil_append, ↓st_appf, bY, slcV_nils0N, slcV_sl0N, bslV_0N, bin_shr1, bsl_nd, q_known]
  all_goals first | exact hK3.trans (hKb) | skip
theorem q_merges (cl : Bool) {s : St} {a1 b1 c1 d1 : AV} {D : DDg} (hD : DgR s a1 b1 c1 d1 D) (hDl : DgL D 250) {a2 b2 c2 d2 : AV} {G : DDg} (hG : DgR s a2 b2 c2 d2 G) (hGl : DgL G 250) {a3 b3 c3 d3 : AV} {H : DDg} (hH : DgR s a3 b3 c3 d3 H) (hHl : DgL H 1000) (c : Int) : acall R_merges cl [.agg [a1, b1, c1, d1], .agg [a2, b2, c2, d2], .agg [a3, b3, c3, d3], .int .i64 c] s = some (.bool (decide ((dmerP D G).1 = H) && decide ((dmerP D G).2 = c)), s) := run_same n_merges (by simp [a23]) rfl (w_merges (s := lowd s) hD.low hDl hG.low hGl hH.low hHl c)

end Go.AM
end
/-
  The union and the merge of the reference of layer 16. Own work of this project; in part printed by a program of it.
-/
section
set_option maxRecDepth 100000
set_option maxHeartbeats 8000000
namespace Go.AM
open Go Go.Proofs

variable {s t u : St}

def gapN (p : Nat → Bool) : Nat → Nat → Nat
  | 0, n => n
  | k + 1, n => if p (n + 1) = true then gapN p k (n + 1) else n
theorem gapN_ge (p : Nat → Bool) : ∀ k n, n ≤ gapN p k n
  | 0, n => Nat.le_refl _
  | k + 1, n => by
    unfold gapN
    split
    · have := gapN_ge p k (n + 1)
      omega
    · exact Nat.le_refl _
theorem gapN_fill (p : Nat → Bool) : ∀ k n j, n < j → j ≤ gapN p k n → p j = true
  | 0, n, j, h1, h2 => by unfold gapN at h2; omega
  | k + 1, n, j, h1, h2 => by
    unfold gapN at h2
    split at h2
    · rename_i hp
      by_cases h : j = n + 1
      · rw [h]; exact hp
      · exact gapN_fill p k (n + 1) j (by omega) h2
    · omega
theorem gapN_stop {p : Nat → Bool} {B : Nat} (h : ∀ j, 1 ≤ j → p j = true → j ≤ B) : ∀ k n, B ≤ n + k → p (gapN p k n + 1) = false
  | 0, n, hb => by
    unfold gapN
    cases hp : p (n + 1)
    · rfl
    · have := h _ (by omega) hp
      omega
  | k + 1, n, hb => by
    unfold gapN
    split
    · exact gapN_stop h k (n + 1) (by omega)
    · rename_i hp
      exact Bool.eq_false_iff.2 hp
theorem jhas_le {x : DCx} (hx : isC x = true) {r : Int} {j : Nat} (h : jhas x ⟨r, (j : Int)⟩ = true) : j ≤ 4294967295 := by
  obtain ⟨h3, _⟩ := (isC_iff x).1 hx
  obtain ⟨h4, _, h5⟩ := (cvalid_iff x).1 h3
  unfold jhas at h
  rw [Bool.or_eq_true, decide_eq_true_eq, decide_eq_true_eq] at h
  rcases h with h | h
  · have := vget_nn h4 r
    have h : (j : Int) ≤ vget x.v r := h
    omega
  · have := (valid_iff _).1 (h5 _ h)
    have h6 : (j : Int) ≤ 4294967295 := this.2.2.2
    omega
def unN (a b : DCx) (k : Nat) : Nat := (max (vget a.v (k : Int)) (vget b.v (k : Int))).toNat
def unJ (a b : DCx) (k j : Nat) : Bool := jhas a ⟨(k : Int), (j : Int)⟩ || jhas b ⟨(k : Int), (j : Int)⟩
def unF (a b : DCx) (k : Nat) : Nat := gapN (unJ a b k) 4294967296 (unN a b k)
theorem unN_max {a b : DCx} (ha : isC a = true) (hb : isC b = true) (k : Nat) : max (vget a.v (k : Int)) (vget b.v (k : Int)) = (unN a b k : Int) := by
  have := vget_nn ((cvalid_iff a).1 ((isC_iff a).1 ha).1).1 k
  have := vget_nn ((cvalid_iff b).1 ((isC_iff b).1 hb).1).1 k
  unfold unN
  omega
theorem unF_ge (a b : DCx) (k : Nat) : unN a b k ≤ unF a b k := gapN_ge _ _ _
theorem unF_fill (a b : DCx) (k j : Nat) (h1 : unN a b k < j) (h2 : j ≤ unF a b k) : unJ a b k j = true := gapN_fill _ _ _ j h1 h2
theorem unJ_le {a b : DCx} (ha : isC a = true) (hb : isC b = true) {k j : Nat} (h : unJ a b k j = true) : j ≤ 4294967295 := by
  unfold unJ at h
  rw [Bool.or_eq_true] at h
  exact h.elim (jhas_le ha) (jhas_le hb)
theorem unF_stop {a b : DCx} (ha : isC a = true) (hb : isC b = true) (k : Nat) : unJ a b k (unF a b k + 1) = false := gapN_stop (fun j _ h => unJ_le ha hb h) _ _ (by omega)
attribute [irreducible] unF
theorem unF_uni {a b : DCx} (ha : isC a = true) (hb : isC b = true) : UniV a b (unF a b) := by
  have va := fun k : Nat => vget_nn ((cvalid_iff a).1 ((isC_iff a).1 ha).1).1 k
  have vb := fun k : Nat => vget_nn ((cvalid_iff b).1 ((isC_iff b).1 hb).1).1 k
  have hfill : ∀ k j : Nat, 1 ≤ j → j ≤ unF a b k → unJ a b k j = true := fun k j h1 h2 => by
    by_cases h : unN a b k < j
    · exact unF_fill a b k j h h2
    · have hm := unN_max ha hb k
      have h3 : (j : Int) ≤ vget a.v (k : Int) ∨ (j : Int) ≤ vget b.v (k : Int) := by omega
      unfold unJ jhas
      rcases h3 with h3 | h3
      · rw [decide_eq_true h3]; simp
      · rw [decide_eq_true h3]; simp
  refine ⟨fun k _ _ => ?_, fun k j _ _ h1 h2 => ?_, fun k _ _ => ?_, fun k => ?_⟩
  · have hm := unN_max ha hb k
    have hg := unF_ge a b k
    constructor <;> omega
  · have := hfill k j h1 h2
    unfold unJ at this
    rwa [Bool.or_eq_true] at this
  · have := unF_stop ha hb k
    unfold unJ at this
    rwa [Bool.or_eq_false_iff] at this
  · by_cases h : unF a b k = 0
    · omega
    · exact unJ_le ha hb (hfill k _ (by omega) (Nat.le_refl _))
def unC (V a b : List Dot) : Nat → List Dot
  | 0 => []
  | 1 => a.foldl (cloudS V) []
  | _ => b.foldl (cloudS V) (a.foldl (cloudS V) [])
theorem unC_uni {a b : DCx} (ha : isC a = true) (hb : isC b = true) : (⟨vecL (unF a b) 64, unC (vecL (unF a b) 64) a.c b.c 2⟩ : DCx) = uniC a b := by
  rw [← uniP_eq ha hb (unF_uni ha hb)]
  unfold uniP
  congr 1
  show b.c.foldl _ (a.c.foldl _ []) = _
  rw [← List.foldl_append, cloud_fold]
  rfl
theorem cloudS_len (V C : List Dot) (d : Dot) : (cloudS V C d).length ≤ C.length + 1 := by
  unfold cloudS
  split
  · omega
  · rw [insD_len]; omega
theorem fcloud_len (V : List Dot) : ∀ (l C : List Dot), (l.foldl (cloudS V) C).length ≤ C.length + l.length
  | [], C => by simp
  | d :: l, C => by
    have h1 := fcloud_len V l (cloudS V C d)
    have h2 := cloudS_len V C d
    simp only [List.foldl_cons, List.length_cons]
    omega
theorem unC_len (V a b : List Dot) (i : Nat) : (unC V a b i).length ≤ a.length + b.length := by
  match i with
  | 0 => simp [unC]
  | 1 => have := fcloud_len V a []; simp only [unC, List.length_nil] at *; omega
  | i + 2 =>
    have h1 := fcloud_len V a []
    have h2 := fcloud_len V b (a.foldl (cloudS V) [])
    simp only [unC, List.length_nil] at *
    omega
theorem app_lit {x : Dot} {m : List Dot} {v2 : AV} (hr : read dotC (t.push (.row (Dot.av x) true)) v2 = some m) (hm : m.length ≤ 4000000) : ∃ u2 t2, appV (t.push (.row (Dot.av x) true)) 2 16 (.sl t.next 0 1 (some 1) 2) v2 = some (u2, t2) ∧ Keep (t.push (.row (Dot.av x) true)) t2 ∧ read dotC t2 u2 = some (x :: m) := by
  have hg : (t.push (.row (Dot.av x) true)).get t.next = some (.row (Dot.av x) true) := St.get_push_new _ _
  have hs1 : shown (t.push (.row (Dot.av x) true)) 2 v2 = some (dotC.cells m) := read_shown hr
  have hs2 : lenOf v2 = some m.length := read_len hr
  have hcs : ((Dot.av x).drop 0).take (1 * 2) ++ dotC.cells m = dotC.cells (x :: m) := by rw [cells_cons]; rfl
  have hla : (Dot.av x).length = 2 := rfl
  simp only [appV, hs1, hs2, aappend, hg, if_true]
  by_cases h0 : m.length = 0
  · rw [if_pos h0]
    have hm0 : m = [] := by simpa using h0
    subst hm0
    refine ⟨_, _, rfl, Keep.refl _, ?_⟩
    refine read_of (C := dotC) (n := 1) rfl hg (by simp [Dot.av, dotC]) ?_
    rw [cells_one]
    rfl
  · rw [if_neg h0, if_pos ⟨by omega, by unfold roomBytes; omega⟩, if_neg (by omega), hcs]
    refine ⟨_, _, rfl, (Keep.refl _).push _, ?_⟩
    have hO : Own dotC (t.push (.row (Dot.av x) true)) ((t.push (.row (Dot.av x) true)).push (.row (dotC.cells (x :: m)) true)) (.sl (t.push (.row (Dot.av x) true)).next 0 (x :: m).length none dotC.sz) (x :: m) := .inr ⟨_, rfl, by simp, Nat.le_refl _, St.get_push_new _ _⟩
    have e : 1 + m.length = (x :: m).length := by rw [List.length_cons, Nat.add_comm]
    rw [e]
    exact hO.read
theorem CB.push {s t : St} {rb b : Nat} {vv cc : AV} {V C : List Dot} (h : CB s t rb b vv cc V C) (x : List AV) : CB s (t.push (.row x true)) rb b vv cc V C :=
  ⟨h.keep.push _, get_push_some _ h.rbox, get_push_some _ h.obox, h.vec.mono fun _ _ k => get_push_some _ k, h.cld.mono fun _ _ k => get_push_some _ k, h.vdis, h.cdis, h.rge, h.bge, h.ne⟩
noncomputable def R_RgUnion : Con := runFn (tb [(55, R_JLast), (40, R_JHas), (33, conDD fBefore)]) a45
theorem s_RgUnion : SoundAt Tryz.prog 45 R_RgUnion := run_sound (tb_sound (l := [(55, R_JLast), (40, R_JHas), (33, conDD fBefore)]) (by simpa using ⟨s_JLast, s_JHas, s_Before⟩)) mixed Tryz.func45 k45 c45
theorem n_RgUnion : noNxtC a45.body = true := by kernel_rfl
theorem w_RgUnion {s : St} {v w : AV} {X : DCx} (hv : read dotC s v = some X.v) (hw : read dotC s w = some X.c) (hlv : X.v.length ≤ 1000) (hlw : X.c.length ≤ 1000) {v' w' : AV} {Y : DCx} (kv : read dotC s v' = some Y.v) (kw : read dotC s w' = some Y.c) (klv : Y.v.length ≤ 1000) (klw : Y.c.length ≤ 1000) (hcx : isC X = true) (hcy : isC Y = true) : ∀ env : Env, elen env = a45.ntmps → (∀ i x_, [.agg [v, w], .agg [v', w']][i]? = some x_ → E env i = x_) → awp (tb [(55, R_JLast), (40, R_JHas), (33, conDD fBefore)]) a45.body (fun x e t => (∀ i, x ≠ .exit i) ∧ ∃ r, aresults e t a45.results = some r ∧ (∃ vv cc, r = .agg [vv, cc] ∧ CR t vv cc (uniC X Y)) ∧ Keep s t) env s := by
  intro env hlen ha
  have h0 : E env 0 = _ := ha 0 _ rfl
  have h1 : E env 1 = _ := ha 1 _ rfl
  have hlen : elen env = _ := hlen
  simp only [a45] at hlen
  unfold a45
  try dsimp only [oO, oG]
  have hbx := boxV_2 (read_oneD hv).2 (read_oneD hw).2
  have hby := boxV_2 (read_oneD kv).2 (read_oneD kw).2
  have hK2 : Keep s ((s.push (.row [v, w] true)).push (.row [v', w'] true)) := ((Keep.refl s).push _).push _
  have hK12 : Keep (s.push (.row [v, w] true)) ((s.push (.row [v, w] true)).push (.row [v', w'] true)) := (Keep.refl _).push _
  have hU := unF_uni hcx hcy
  have hV64 : ∀ n, (vecL (unF X Y) n).length ≤ n := vecL_len _
  simp (config := {contextual := true, maxDischargeDepth := 12}) only [tb_at, h0, h1, hlen, hbx, hby, ↓bD, bU, forall_const, bS, implies_true, isNx, eq_self, ↓wp_cond, ↓wp_loop, ↓reduceIte, reduceCtorEq, Nat.reduceEqDiff, Nat.reduceLT, Nat.reduceAdd, Nat.reduceMul, bT, ↓sg_bsl, ↓st_callf, bX, List.cons_append, List.nil_append, ↓st_appf, bY, slcV_nils0N, slcV_sl0N, bslV_0N, bin_shr1, bsl_nd, q_known]
  obtain ⟨I, hI⟩ : ∃ I : Nat → Env → St → Prop, ∀ n e t, I n e t = (True ∧ ∃ (i : Nat) (vv : AV), n + i = 64 ∧ elen e = 113 ∧ E e 2 = .ptr s.next 0 ∧ E e 3 = .ptr (s.push (.row [v, w] true)).next 0 ∧ E e 4 = .ptr ((s.push (.row [v, w] true)).push (.row [v', w'] true)).next 0 ∧ E e 5 = .ptr (((s.push (.row [v, w] true)).push (.row [v', w'] true)).next + 1) 0 ∧ E e 6 = .int .i64 ((i + 1 : Nat) : Int) ∧ CB ((s.push (.row [v, w] true)).push (.row [v', w'] true)) t ((s.push (.row [v, w] true)).push (.row [v', w'] true)).next (((s.push (.row [v, w] true)).push (.row [v', w'] true)).next + 1) vv .nils (vecL (unF X Y) i) []) := ⟨fun n e t => (True ∧ ∃ (i : Nat) (vv : AV), n + i = 64 ∧ elen e = 113 ∧ E e 2 = .ptr s.next 0 ∧ E e 3 = .ptr (s.push (.row [v, w] true)).next 0 ∧ E e 4 = .ptr ((s.push (.row [v, w] true)).push (.row [v', w'] true)).next 0 ∧ E e 5 = .ptr (((s.push (.row [v, w] true)).push (.row [v', w'] true)).next + 1) 0 ∧ E e 6 = .int .i64 ((i + 1 : Nat) : Int) ∧ CB ((s.push (.row [v, w] true)).push (.row [v', w'] true)) t ((s.push (.row [v, w] true)).push (.row [v', w'] true)).next (((s.push (.row [v, w] true)).push (.row [v', w'] true)).next + 1) vv .nils (vecL (unF X Y) i) []), fun _ _ _ => rfl⟩
  refine lwp_inv I (n := 64) ?_ ?_
  · rw [hI]
    exact ⟨trivial, 0, .nils, by omega, (by simp only [bE, Nat.reduceEqDiff, bN, Nat.reduceLT, hlen]; try rfl), (by simp only [bE, Nat.reduceEqDiff, bN, Nat.reduceLT, hlen]; try rfl), (by simp only [bE, Nat.reduceEqDiff, bN, Nat.reduceLT, hlen]; try rfl), (by simp only [bE, Nat.reduceEqDiff, bN, Nat.reduceLT, hlen]; try rfl), (by simp only [bE, Nat.reduceEqDiff, bN, Nat.reduceLT, hlen]; try rfl), (by simp only [bE, Nat.reduceEqDiff, bN, Nat.reduceLT, hlen]; try rfl), CB.start ((s.push (.row [v, w] true)).push (.row [v', w'] true))⟩
  clear h0 h1 hlen
  intro n e t0 hi
  rw [hI] at hi
  obtain ⟨hK, i0, vv, hni, he, e2, e3, e4, e5, e6, hJ⟩ := hi
  obtain ⟨c1, c2, c3, c4⟩ := box_ctx s v w (hK12.trans hJ.keep)
  obtain ⟨d1, d2, d3, d4⟩ := box_ctx (s.push (.row [v, w] true)) v' w' hJ.keep
  by_cases hlt : i0 < 64
  · have hle := eq_true (show ((i0 + 1 : Nat) : Int) ≤ 64 by omega)
    have hw4 := wrap_add1 (n := i0 + 1) (by omega)
    have hKt := hK2.trans hJ.keep
    have qa := q_JLast true (hKt.read hv) (lim_1000 hlv) ((i0 + 1 : Nat) : Int)
    have qb := q_JLast false (hKt.read kv) (lim_1000 klv) ((i0 + 1 : Nat) : Int)
    have hmx := unN_max hcx hcy (i0 + 1)
    have hnf := unF_ge X Y (i0 + 1)
    have hhi := hU.high (i0 + 1)
    simp (config := {contextual := true, maxDischargeDepth := 12}) only [tb_at, he, e2, e3, e4, e5, e6, hle, qa, qb, mmV_max, hmx, reserve0, c1, c2, c3, c4, d1, d2, d3, d4, ↓bD, bU, forall_const, bS, implies_true, isNx, eq_self, ↓wp_cond, ↓wp_loop, ↓reduceIte, reduceCtorEq, Nat.reduceEqDiff, Nat.reduceLT, Nat.reduceAdd, Nat.reduceMul, bT, ↓sg_bsl, ↓st_callf, bX, List.cons_append, List.nil_append, ↓st_appf, bY, slcV_nils0N, slcV_sl0N, bslV_0N, bin_shr1, bsl_nd, q_known]
    obtain ⟨t1, ht1⟩ : ∃ t1, t1 = t0 := ⟨_, rfl⟩
    obtain ⟨I2, hI2⟩ : ∃ I : Nat → Env → St → Prop, ∀ n e t, I n e t = (t = t0 ∧ ∃ i : Nat, n + i = unF X Y (i0 + 1) ∧ elen e = 113 ∧ E e 2 = .ptr s.next 0 ∧ E e 3 = .ptr (s.push (.row [v, w] true)).next 0 ∧ E e 4 = .ptr ((s.push (.row [v, w] true)).push (.row [v', w'] true)).next 0 ∧ E e 5 = .ptr (((s.push (.row [v, w] true)).push (.row [v', w'] true)).next + 1) 0 ∧ E e 6 = .int .i64 ((i0 + 1 : Nat) : Int) ∧ E e 7 = .int .i64 (i : Int) ∧ unN X Y (i0 + 1) ≤ i) := ⟨fun n e t => (t = t0 ∧ ∃ i : Nat, n + i = unF X Y (i0 + 1) ∧ elen e = 113 ∧ E e 2 = .ptr s.next 0 ∧ E e 3 = .ptr (s.push (.row [v, w] true)).next 0 ∧ E e 4 = .ptr ((s.push (.row [v, w] true)).push (.row [v', w'] true)).next 0 ∧ E e 5 = .ptr (((s.push (.row [v, w] true)).push (.row [v', w'] true)).next + 1) 0 ∧ E e 6 = .int .i64 ((i0 + 1 : Nat) : Int) ∧ E e 7 = .int .i64 (i : Int) ∧ unN X Y (i0 + 1) ≤ i), fun _ _ _ => rfl⟩
    refine lwp_inv I2 (n := (unF X Y (i0 + 1) - unN X Y (i0 + 1))) ?_ ?_
    · rw [hI2]
      exact ⟨rfl, unN X Y (i0 + 1), by omega, (by simp only [bE, Nat.reduceEqDiff, bN, Nat.reduceLT, he]; try rfl), (by simp only [bE, Nat.reduceEqDiff, bN, Nat.reduceLT, he, e2]; try rfl), (by simp only [bE, Nat.reduceEqDiff, bN, Nat.reduceLT, he, e3]; try rfl), (by simp only [bE, Nat.reduceEqDiff, bN, Nat.reduceLT, he, e4]; try rfl), (by simp only [bE, Nat.reduceEqDiff, bN, Nat.reduceLT, he, e5]; try rfl), (by simp only [bE, Nat.reduceEqDiff, bN, Nat.reduceLT, he, e6]; try rfl), (by simp only [bE, Nat.reduceEqDiff, bN, Nat.reduceLT, he]; try rfl), Nat.le_refl _⟩
    clear he e2 e3 e4 e5 e6
    intro n2 e t hi
    rw [hI2] at hi
    obtain ⟨hKe, i, hni2, he, e2, e3, e4, e5, e6, e7, hnl⟩ := hi
    subst hKe
    by_cases hlt2 : i < unF X Y (i0 + 1)
    · have hp := unF_fill X Y (i0 + 1) (i + 1) (by omega) (by omega)
      have hw5 := wrap_add1 (n := i) (by omega)
      have q1 := q_JHas false (hKt.read hv) (hKt.read hw) (lim_1000 hlv) (lim_1000 hlw) ⟨((i0 + 1 : Nat) : Int), ((i + 1 : Nat) : Int)⟩
      have q2 := q_JHas false (hKt.read kv) (hKt.read kw) (lim_1000 klv) (lim_1000 klw) ⟨((i0 + 1 : Nat) : Int), ((i + 1 : Nat) : Int)⟩
      unfold unJ at hp
      cases hj : jhas X ⟨((i0 + 1 : Nat) : Int), ((i + 1 : Nat) : Int)⟩
      · rw [hj] at q1
        rw [hj, Bool.false_or] at hp
        rw [hp] at q2
        simp (config := {contextual := true, maxDischargeDepth := 12}) only [tb_at, he, e2, e3, e4, e5, e6, e7, hw5, q1, q2, ap_build, fillP_nil, fillP_cons, c1, c2, c3, c4, d1, d2, d3, d4, ↓bD, bU, forall_const, bS, implies_true, isNx, eq_self, ↓wp_cond, ↓wp_loop, ↓reduceIte, reduceCtorEq, Nat.reduceEqDiff, Nat.reduceLT, Nat.reduceAdd, Nat.reduceMul, bT, ↓sg_bsl, ↓st_callf, bX, List.cons_append, List.nil_append, ↓st_appf, bY, slcV_nils0N, slcV_sl0N, bslV_0N, bin_shr1, bsl_nd, q_known]
        refine ⟨n2 - 1, by omega, ?_⟩
        rw [hI2]
        exact ⟨rfl, i + 1, by omega, (by simp only [bE, Nat.reduceEqDiff, bN, Nat.reduceLT, he, e2, e3, e4, e5, e6, e7]; try rfl), (by simp only [bE, Nat.reduceEqDiff, bN, Nat.reduceLT, he, e2, e3, e4, e5, e6, e7]; try rfl), (by simp only [bE, Nat.reduceEqDiff, bN, Nat.reduceLT, he, e2, e3, e4, e5, e6, e7]; try rfl), (by simp only [bE, Nat.reduceEqDiff, bN, Nat.reduceLT, he, e2, e3, e4, e5, e6, e7]; try rfl), (by simp only [bE, Nat.reduceEqDiff, bN, Nat.reduceLT, he, e2, e3, e4, e5, e6, e7]; try rfl), (by simp only [bE, Nat.reduceEqDiff, bN, Nat.reduceLT, he, e2, e3, e4, e5, e6, e7]; try rfl), (by simp only [bE, Nat.reduceEqDiff, bN, Nat.reduceLT, he, e2, e3, e4, e5, e6, e7]; try rfl), by omega⟩
      · rw [hj] at q1
        simp (config := {contextual := true, maxDischargeDepth := 12}) only [tb_at, he, e2, e3, e4, e5, e6, e7, hw5, q1, ap_build, fillP_nil, fillP_cons, c1, c2, c3, c4, d1, d2, d3, d4, ↓bD, bU, forall_const, bS, implies_true, isNx, eq_self, ↓wp_cond, ↓wp_loop, ↓reduceIte, reduceCtorEq, Nat.reduceEqDiff, Nat.reduceLT, Nat.reduceAdd, Nat.reduceMul, bT, ↓sg_bsl, ↓st_callf, bX, List.cons_append, List.nil_append, ↓st_appf, bY, slcV_nils0N, slcV_sl0N, bslV_0N, bin_shr1, bsl_nd, q_known]
        refine ⟨n2 - 1, by omega, ?_⟩
        rw [hI2]
        exact ⟨rfl, i + 1, by omega, (by simp only [bE, Nat.reduceEqDiff, bN, Nat.reduceLT, he, e2, e3, e4, e5, e6, e7]; try rfl), (by simp only [bE, Nat.reduceEqDiff, bN, Nat.reduceLT, he, e2, e3, e4, e5, e6, e7]; try rfl), (by simp only [bE, Nat.reduceEqDiff, bN, Nat.reduceLT, he, e2, e3, e4, e5, e6, e7]; try rfl), (by simp only [bE, Nat.reduceEqDiff, bN, Nat.reduceLT, he, e2, e3, e4, e5, e6, e7]; try rfl), (by simp only [bE, Nat.reduceEqDiff, bN, Nat.reduceLT, he, e2, e3, e4, e5, e6, e7]; try rfl), (by simp only [bE, Nat.reduceEqDiff, bN, Nat.reduceLT, he, e2, e3, e4, e5, e6, e7]; try rfl), (by simp only [bE, Nat.reduceEqDiff, bN, Nat.reduceLT, he, e2, e3, e4, e5, e6, e7]; try rfl), by omega⟩
    · obtain rfl : i = unF X Y (i0 + 1) := by omega
      have hp := unF_stop hcx hcy (i0 + 1)
      have hw5 := wrap_add1 (n := unF X Y (i0 + 1)) (by omega)
      have q1 := q_JHas false (hKt.read hv) (hKt.read hw) (lim_1000 hlv) (lim_1000 hlw) ⟨((i0 + 1 : Nat) : Int), ((unF X Y (i0 + 1) + 1 : Nat) : Int)⟩
      have q2 := q_JHas false (hKt.read kv) (hKt.read kw) (lim_1000 klv) (lim_1000 klw) ⟨((i0 + 1 : Nat) : Int), ((unF X Y (i0 + 1) + 1 : Nat) : Int)⟩
      unfold unJ at hp
      rw [Bool.or_eq_false_iff] at hp
      rw [hp.1] at q1
      rw [hp.2] at q2
      have hv1 := vecL_succ (unF X Y) i0
      have hvl := hV64 i0
      by_cases hpos : 0 < unF X Y (i0 + 1)
      · have z1 := eq_true (show (0 : Int) < ((unF X Y (i0 + 1) : Nat) : Int) by omega)
        rw [if_pos hpos] at hv1
        obtain ⟨o0, o1, olt⟩ := row2_lod hJ.obox
        obtain ⟨vv', t', hap, hsto, hbt, hJ'⟩ := hJ.appv ⟨((i0 + 1 : Nat) : Int), ((unF X Y (i0 + 1) : Nat) : Int)⟩ (by omega)
        rw [← hv1] at hJ'
        simp (config := {contextual := true, maxDischargeDepth := 12}) only [tb_at, he, e2, e3, e4, e5, e6, e7, hw5, q1, q2, ap_build, fillP_nil, fillP_cons, z1, o0, o1, olt, hap, hsto, hbt, hw4, c1, c2, c3, c4, d1, d2, d3, d4, ↓bD, bU, forall_const, bS, implies_true, isNx, eq_self, ↓wp_cond, ↓wp_loop, ↓reduceIte, reduceCtorEq, Nat.reduceEqDiff, Nat.reduceLT, Nat.reduceAdd, Nat.reduceMul, bT, ↓sg_bsl, ↓st_callf, bX, List.cons_append, List.nil_append, ↓st_appf, bY, slcV_nils0N, slcV_sl0N, bslV_0N, bin_shr1, bsl_nd, q_known]
        refine ⟨n - 1, by omega, ?_⟩
        rw [hI]
        exact ⟨trivial, i0 + 1, vv', by omega, (by simp only [bE, Nat.reduceEqDiff, bN, Nat.reduceLT, he, e2, e3, e4, e5, e6]; try rfl), (by simp only [bE, Nat.reduceEqDiff, bN, Nat.reduceLT, he, e2, e3, e4, e5, e6]; try rfl), (by simp only [bE, Nat.reduceEqDiff, bN, Nat.reduceLT, he, e2, e3, e4, e5, e6]; try rfl), (by simp only [bE, Nat.reduceEqDiff, bN, Nat.reduceLT, he, e2, e3, e4, e5, e6]; try rfl), (by simp only [bE, Nat.reduceEqDiff, bN, Nat.reduceLT, he, e2, e3, e4, e5, e6]; try rfl), (by simp only [bE, Nat.reduceEqDiff, bN, Nat.reduceLT, he, e2, e3, e4, e5, e6]; try rfl), hJ'⟩
      · have z1 := eq_false (show ¬ (0 : Int) < ((unF X Y (i0 + 1) : Nat) : Int) by omega)
        rw [if_neg hpos, List.append_nil] at hv1
        rw [← hv1] at hJ
        simp (config := {contextual := true, maxDischargeDepth := 12}) only [tb_at, he, e2, e3, e4, e5, e6, e7, hw5, q1, q2, ap_build, fillP_nil, fillP_cons, z1, hw4, c1, c2, c3, c4, d1, d2, d3, d4, ↓bD, bU, forall_const, bS, implies_true, isNx, eq_self, ↓wp_cond, ↓wp_loop, ↓reduceIte, reduceCtorEq, Nat.reduceEqDiff, Nat.reduceLT, Nat.reduceAdd, Nat.reduceMul, bT, ↓sg_bsl, ↓st_callf, bX, List.cons_append, List.nil_append, ↓st_appf, bY, slcV_nils0N, slcV_sl0N, bslV_0N, bin_shr1, bsl_nd, q_known]
        refine ⟨n - 1, by omega, ?_⟩
        rw [hI]
        exact ⟨trivial, i0 + 1, vv, by omega, (by simp only [bE, Nat.reduceEqDiff, bN, Nat.reduceLT, he, e2, e3, e4, e5, e6]; try rfl), (by simp only [bE, Nat.reduceEqDiff, bN, Nat.reduceLT, he, e2, e3, e4, e5, e6]; try rfl), (by simp only [bE, Nat.reduceEqDiff, bN, Nat.reduceLT, he, e2, e3, e4, e5, e6]; try rfl), (by simp only [bE, Nat.reduceEqDiff, bN, Nat.reduceLT, he, e2, e3, e4, e5, e6]; try rfl), (by simp only [bE, Nat.reduceEqDiff, bN, Nat.reduceLT, he, e2, e3, e4, e5, e6]; try rfl), (by simp only [bE, Nat.reduceEqDiff, bN, Nat.reduceLT, he, e2, e3, e4, e5, e6]; try rfl), hJ⟩
  · obtain rfl : i0 = 64 := by omega
    have hle := eq_false (show ¬ ((64 + 1 : Nat) : Int) ≤ 64 by omega)
    have hbs : bslV [.nils, .nils] 2 1 [(0, w), (1, w')] = some (fun id => .sl id 0 2 (some 2) 1, .row [w, w'] true) := by
      have hc1 : aev [] (.c w) = w := rfl
      have hc2 : aev [] (.c w') = w' := rfl
      simp [bslV, fillP, hc1, hc2, (read_oneD hw).1, (read_oneD kw).1, (read_oneD hw).2, (read_oneD kw).2, setAt]
    obtain ⟨j0, hj0⟩ : ∃ j0, j0 = t0.next := ⟨_, rfl⟩
    have hbj : ((s.push (.row [v, w] true)).push (.row [v', w'] true)).next + 1 < j0 := by rw [hj0]; exact St.get_lt hJ.obox
    have hJw := hJ.push [w, w']
    have hbw : (t0.push (.row [w, w'] true)).get j0 = some (.row [w, w'] true) := by rw [hj0]; exact St.get_push_new _ _
    have hl2 : lenV (.sl j0 0 2 (some 2) 1) = some (.int .i64 2) := rfl
    simp (config := {contextual := true, maxDischargeDepth := 12}) only [tb_at, he, e2, e3, e4, e5, e6, hle, hbs, ← hj0, hl2, c1, c2, c3, c4, d1, d2, d3, d4, ↓bD, bU, forall_const, bS, implies_true, isNx, eq_self, ↓wp_cond, ↓wp_loop, ↓reduceIte, reduceCtorEq, Nat.reduceEqDiff, Nat.reduceLT, Nat.reduceAdd, Nat.reduceMul, bT, ↓sg_bsl, ↓st_callf, bX, List.cons_append, List.nil_append, ↓st_appf, bY, slcV_nils0N, slcV_sl0N, bslV_0N, bin_shr1, bsl_nd, q_known]
    obtain ⟨I3, hI3⟩ : ∃ I : Nat → Env → St → Prop, ∀ n e t, I n e t = (True ∧ ∃ (i : Nat) (cc : AV), n + i = 2 ∧ elen e = 113 ∧ E e 2 = .ptr s.next 0 ∧ E e 3 = .ptr (s.push (.row [v, w] true)).next 0 ∧ E e 4 = .ptr ((s.push (.row [v, w] true)).push (.row [v', w'] true)).next 0 ∧ E e 5 = .ptr (((s.push (.row [v, w] true)).push (.row [v', w'] true)).next + 1) 0 ∧ E e 56 = .sl j0 0 2 (some 2) 1 ∧ E e 57 = .int .i64 2 ∧ E e 58 = .int .i64 (i : Int) ∧ CB ((s.push (.row [v, w] true)).push (.row [v', w'] true)) t ((s.push (.row [v, w] true)).push (.row [v', w'] true)).next (((s.push (.row [v, w] true)).push (.row [v', w'] true)).next + 1) vv cc (vecL (unF X Y) 64) (unC (vecL (unF X Y) 64) X.c Y.c i) ∧ t.get j0 = some (.row [w, w'] true)) := ⟨fun n e t => (True ∧ ∃ (i : Nat) (cc : AV), n + i = 2 ∧ elen e = 113 ∧ E e 2 = .ptr s.next 0 ∧ E e 3 = .ptr (s.push (.row [v, w] true)).next 0 ∧ E e 4 = .ptr ((s.push (.row [v, w] true)).push (.row [v', w'] true)).next 0 ∧ E e 5 = .ptr (((s.push (.row [v, w] true)).push (.row [v', w'] true)).next + 1) 0 ∧ E e 56 = .sl j0 0 2 (some 2) 1 ∧ E e 57 = .int .i64 2 ∧ E e 58 = .int .i64 (i : Int) ∧ CB ((s.push (.row [v, w] true)).push (.row [v', w'] true)) t ((s.push (.row [v, w] true)).push (.row [v', w'] true)).next (((s.push (.row [v, w] true)).push (.row [v', w'] true)).next + 1) vv cc (vecL (unF X Y) 64) (unC (vecL (unF X Y) 64) X.c Y.c i) ∧ t.get j0 = some (.row [w, w'] true)), fun _ _ _ => rfl⟩
    refine lwp_inv I3 (n := 2) ?_ ?_
    · rw [hI3]
      exact ⟨trivial, 0, .nils, by omega, (by simp only [bE, Nat.reduceEqDiff, bN, Nat.reduceLT, he]; try rfl), (by simp only [bE, Nat.reduceEqDiff, bN, Nat.reduceLT, he, e2]; try rfl), (by simp only [bE, Nat.reduceEqDiff, bN, Nat.reduceLT, he, e3]; try rfl), (by simp only [bE, Nat.reduceEqDiff, bN, Nat.reduceLT, he, e4]; try rfl), (by simp only [bE, Nat.reduceEqDiff, bN, Nat.reduceLT, he, e5]; try rfl), (by simp only [bE, Nat.reduceEqDiff, bN, Nat.reduceLT, he]; try rfl), (by simp only [bE, Nat.reduceEqDiff, bN, Nat.reduceLT, he]; try rfl), (by simp only [bE, Nat.reduceEqDiff, bN, Nat.reduceLT, he]; try rfl), hJw, hbw⟩
    clear hni he e2 e3 e4 e5 e6
    clear hJ hJw hbw c1 c2 c3 c4 d1 d2 d3 d4
    intro n e t hi
    rw [hI3] at hi
    obtain ⟨hK, p, cc, hni, he, e2, e3, e4, e5, e56, e57, e58, hJ, hbw⟩ := hi
    obtain ⟨c1, c2, c3, c4⟩ := box_ctx s v w (hK12.trans hJ.keep)
    obtain ⟨d1, d2, d3, d4⟩ := box_ctx (s.push (.row [v, w] true)) v' w' hJ.keep
    by_cases hlt : p < 2
    · obtain ⟨wv, l, hld, hrd, hll, hCC⟩ : ∃ wv l, lod1 t (.ptr j0 p) = some wv ∧ read dotC s wv = some l ∧ l.length ≤ 1000 ∧ unC (vecL (unF X Y) 64) X.c Y.c (p + 1) = l.foldl (cloudS (vecL (unF X Y) 64)) (unC (vecL (unF X Y) 64) X.c Y.c p) := by
        rcases (by omega : p = 0 ∨ p = 1) with rfl | rfl
        · exact ⟨w, X.c, by simp [lod1, hbw], hw, hlw, rfl⟩
        · exact ⟨w', Y.c, by simp [lod1, hbw], kw, klw, rfl⟩
      have hlt2 := St.get_lt hbw
      have hz := eq_true (show (p : Int) < 2 by omega)
      have hw4 := wrap_add1 (n := p) (by omega)
      have i1 : iadV 1 (.sl j0 0 2 (some 2) 1) (.int .i64 (p : Int)) = some (.ptr j0 p) := by
        have := iadV_nat (sz := 1) (id := j0) (off := 0) (cap := some 2) (k := .i64) hlt
        rwa [Nat.zero_add, Nat.mul_one] at this
      have hLl := lenV_read hrd
      simp (config := {contextual := true, maxDischargeDepth := 12}) only [tb_at, he, e2, e3, e4, e5, e56, e57, e58, hz, hld, hlt2, i1, c1, c2, c3, c4, d1, d2, d3, d4, ↓bD, bU, forall_const, bS, implies_true, isNx, eq_self, ↓wp_cond, ↓wp_loop, ↓reduceIte, reduceCtorEq, Nat.reduceEqDiff, Nat.reduceLT, Nat.reduceAdd, Nat.reduceMul, bT, ↓sg_bsl, ↓st_callf, bX, List.cons_append, List.nil_append, ↓st_appf, bY, slcV_nils0N, slcV_sl0N, bslV_0N, bin_shr1, bsl_nd, q_known]
      obtain ⟨I4, hI4⟩ : ∃ I : Nat → Env → St → Prop, ∀ n e t, I n e t = (True ∧ ∃ (i : Nat) (cc : AV), n + i = l.length ∧ elen e = 113 ∧ E e 2 = .ptr s.next 0 ∧ E e 3 = .ptr (s.push (.row [v, w] true)).next 0 ∧ E e 4 = .ptr ((s.push (.row [v, w] true)).push (.row [v', w'] true)).next 0 ∧ E e 5 = .ptr (((s.push (.row [v, w] true)).push (.row [v', w'] true)).next + 1) 0 ∧ E e 9 = wv ∧ E e 10 = .int .i64 (i : Int) ∧ E e 56 = .sl j0 0 2 (some 2) 1 ∧ E e 57 = .int .i64 2 ∧ E e 58 = .int .i64 (p : Int) ∧ CB ((s.push (.row [v, w] true)).push (.row [v', w'] true)) t ((s.push (.row [v, w] true)).push (.row [v', w'] true)).next (((s.push (.row [v, w] true)).push (.row [v', w'] true)).next + 1) vv cc (vecL (unF X Y) 64) ((l.take i).foldl (cloudS (vecL (unF X Y) 64)) (unC (vecL (unF X Y) 64) X.c Y.c p)) ∧ t.get j0 = some (.row [w, w'] true)) := ⟨fun n e t => (True ∧ ∃ (i : Nat) (cc : AV), n + i = l.length ∧ elen e = 113 ∧ E e 2 = .ptr s.next 0 ∧ E e 3 = .ptr (s.push (.row [v, w] true)).next 0 ∧ E e 4 = .ptr ((s.push (.row [v, w] true)).push (.row [v', w'] true)).next 0 ∧ E e 5 = .ptr (((s.push (.row [v, w] true)).push (.row [v', w'] true)).next + 1) 0 ∧ E e 9 = wv ∧ E e 10 = .int .i64 (i : Int) ∧ E e 56 = .sl j0 0 2 (some 2) 1 ∧ E e 57 = .int .i64 2 ∧ E e 58 = .int .i64 (p : Int) ∧ CB ((s.push (.row [v, w] true)).push (.row [v', w'] true)) t ((s.push (.row [v, w] true)).push (.row [v', w'] true)).next (((s.push (.row [v, w] true)).push (.row [v', w'] true)).next + 1) vv cc (vecL (unF X Y) 64) ((l.take i).foldl (cloudS (vecL (unF X Y) 64)) (unC (vecL (unF X Y) 64) X.c Y.c p)) ∧ t.get j0 = some (.row [w, w'] true)), fun _ _ _ => rfl⟩
      refine lwp_inv I4 (n := l.length) ?_ ?_
      · rw [hI4]
        exact ⟨trivial, 0, cc, by omega, (by simp only [bE, Nat.reduceEqDiff, bN, Nat.reduceLT, he]; try rfl), (by simp only [bE, Nat.reduceEqDiff, bN, Nat.reduceLT, he, e2]; try rfl), (by simp only [bE, Nat.reduceEqDiff, bN, Nat.reduceLT, he, e3]; try rfl), (by simp only [bE, Nat.reduceEqDiff, bN, Nat.reduceLT, he, e4]; try rfl), (by simp only [bE, Nat.reduceEqDiff, bN, Nat.reduceLT, he, e5]; try rfl), (by simp only [bE, Nat.reduceEqDiff, bN, Nat.reduceLT, he]; try rfl), (by simp only [bE, Nat.reduceEqDiff, bN, Nat.reduceLT, he]; try rfl), (by simp only [bE, Nat.reduceEqDiff, bN, Nat.reduceLT, he, e56]; try rfl), (by simp only [bE, Nat.reduceEqDiff, bN, Nat.reduceLT, he, e57]; try rfl), (by simp only [bE, Nat.reduceEqDiff, bN, Nat.reduceLT, he, e58]; try rfl), by rw [List.take_zero]; exact hJ, hbw⟩
      clear he e2 e3 e4 e5 e56 e57 e58
      clear hJ hbw hld hlt2 c1 c2 c3 c4 d1 d2 d3 d4
      intro n4 e t1 hi
      rw [hI4] at hi
      obtain ⟨hK, q, cc, hni4, he, e2, e3, e4, e5, e9, e10, e56, e57, e58, hJ, hbw⟩ := hi
      by_cases hlq : q < l.length
      · obtain ⟨x, hx⟩ := getsome hlq
        have hw6 := wrap_add1 (n := q) (by omega)
        have hKt := hK2.trans hJ.keep
        obtain ⟨a1, a2, a3, a4⟩ := dot_lods hrd hKt hx
        have i2 := dot_idx hrd hx .i64
        have hCl := fcloud_len (vecL (unF X Y) 64) (l.take q) (unC (vecL (unF X Y) 64) X.c Y.c p)
        have hCl2 := unC_len (vecL (unF X Y) 64) X.c Y.c p
        rw [List.length_take] at hCl
        have hsn : (l.take (q + 1)).foldl (cloudS (vecL (unF X Y) 64)) (unC (vecL (unF X Y) 64) X.c Y.c p) = cloudS (vecL (unF X Y) 64) ((l.take q).foldl (cloudS (vecL (unF X Y) 64)) (unC (vecL (unF X Y) 64) X.c Y.c p)) x := by rw [take_snoc hx, List.foldl_append]; rfl
        obtain ⟨C, hC⟩ : ∃ C, C = (l.take q).foldl (cloudS (vecL (unF X Y) 64)) (unC (vecL (unF X Y) 64) X.c Y.c p) := ⟨_, rfl⟩
        rw [← hC] at hJ hsn hCl
        have hVl := hV64 64
        obtain ⟨f1, _⟩ := hJ.done
        obtain ⟨o0, o1, olt⟩ := row2_lod hJ.obox
        have q1 := q_JHas false (X := ⟨(vecL (unF X Y) 64), C⟩) hJ.vec.read hJ.cld.read (by show List.length (vecL (unF X Y) 64) ≤ lim; unfold lim; omega) (by show List.length C ≤ lim; unfold lim; omega) x
        cases hj : jhas ⟨(vecL (unF X Y) 64), C⟩ x
        rotate_left
        · rw [hj] at q1
          rw [cloudS, if_pos hj] at hsn
          simp (config := {contextual := true, maxDischargeDepth := 12}) only [tb_at, he, e2, e3, e4, e5, e9, e10, e56, e57, e58, hLl, hlq, hw6, a1, a4, i2, f1, olt, q1, reserve0, ↓bD, bU, forall_const, bS, implies_true, isNx, eq_self, ↓wp_cond, ↓wp_loop, ↓reduceIte, reduceCtorEq, Nat.reduceEqDiff, Nat.reduceLT, Nat.reduceAdd, Nat.reduceMul, bT, ↓sg_bsl, ↓st_callf, bX, List.cons_append, List.nil_append, ↓st_appf, bY, slcV_nils0N, slcV_sl0N, bslV_0N, bin_shr1, bsl_nd, q_known]
          refine ⟨n4 - 1, by omega, ?_⟩
          rw [hI4]
          exact ⟨trivial, q + 1, cc, by omega, (by simp only [bE, Nat.reduceEqDiff, bN, Nat.reduceLT, he, e2, e3, e4, e5, e9, e10, e56, e57, e58]; try rfl), (by simp only [bE, Nat.reduceEqDiff, bN, Nat.reduceLT, he, e2, e3, e4, e5, e9, e10, e56, e57, e58]; try rfl), (by simp only [bE, Nat.reduceEqDiff, bN, Nat.reduceLT, he, e2, e3, e4, e5, e9, e10, e56, e57, e58]; try rfl), (by simp only [bE, Nat.reduceEqDiff, bN, Nat.reduceLT, he, e2, e3, e4, e5, e9, e10, e56, e57, e58]; try rfl), (by simp only [bE, Nat.reduceEqDiff, bN, Nat.reduceLT, he, e2, e3, e4, e5, e9, e10, e56, e57, e58]; try rfl), (by simp only [bE, Nat.reduceEqDiff, bN, Nat.reduceLT, he, e2, e3, e4, e5, e9, e10, e56, e57, e58]; try rfl), (by simp only [bE, Nat.reduceEqDiff, bN, Nat.reduceLT, he, e2, e3, e4, e5, e9, e10, e56, e57, e58]; try rfl), (by simp only [bE, Nat.reduceEqDiff, bN, Nat.reduceLT, he, e2, e3, e4, e5, e9, e10, e56, e57, e58]; try rfl), (by simp only [bE, Nat.reduceEqDiff, bN, Nat.reduceLT, he, e2, e3, e4, e5, e9, e10, e56, e57, e58]; try rfl), (by simp only [bE, Nat.reduceEqDiff, bN, Nat.reduceLT, he, e2, e3, e4, e5, e9, e10, e56, e57, e58]; try rfl), by rw [hsn]; exact hJ, hbw⟩
        · rw [hj] at q1
          rw [cloudS, if_neg (by rw [hj]; simp)] at hsn
          simp (config := {contextual := true, maxDischargeDepth := 12}) only [tb_at, he, e2, e3, e4, e5, e9, e10, e56, e57, e58, hLl, hlq, a1, a4, i2, f1, olt, q1, reserve0, ↓bD, bU, forall_const, bS, implies_true, isNx, eq_self, ↓wp_cond, ↓wp_loop, ↓reduceIte, reduceCtorEq, Nat.reduceEqDiff, Nat.reduceLT, Nat.reduceAdd, Nat.reduceMul, bT, ↓sg_bsl, ↓st_callf, bX, List.cons_append, List.nil_append, ↓st_appf, bY, slcV_nils0N, slcV_sl0N, bslV_0N, bin_shr1, bsl_nd, q_known]
          obtain ⟨I5, hI5⟩ : ∃ I : Nat → Env → St → Prop, ∀ n e t, I n e t = (t = t1 ∧ ∃ i : Nat, n + i = C.length ∧ elen e = 113 ∧ E e 2 = .ptr s.next 0 ∧ E e 3 = .ptr (s.push (.row [v, w] true)).next 0 ∧ E e 4 = .ptr ((s.push (.row [v, w] true)).push (.row [v', w'] true)).next 0 ∧ E e 5 = .ptr (((s.push (.row [v, w] true)).push (.row [v', w'] true)).next + 1) 0 ∧ E e 9 = wv ∧ E e 10 = .int .i64 (q : Int) ∧ E e 11 = .int .i64 (i : Int) ∧ E e 56 = .sl j0 0 2 (some 2) 1 ∧ E e 57 = .int .i64 2 ∧ E e 58 = .int .i64 (p : Int) ∧ i ≤ C.length ∧ ∀ k y, k < i → C[k]? = some y → y.before x = true) := ⟨fun n e t => (t = t1 ∧ ∃ i : Nat, n + i = C.length ∧ elen e = 113 ∧ E e 2 = .ptr s.next 0 ∧ E e 3 = .ptr (s.push (.row [v, w] true)).next 0 ∧ E e 4 = .ptr ((s.push (.row [v, w] true)).push (.row [v', w'] true)).next 0 ∧ E e 5 = .ptr (((s.push (.row [v, w] true)).push (.row [v', w'] true)).next + 1) 0 ∧ E e 9 = wv ∧ E e 10 = .int .i64 (q : Int) ∧ E e 11 = .int .i64 (i : Int) ∧ E e 56 = .sl j0 0 2 (some 2) 1 ∧ E e 57 = .int .i64 2 ∧ E e 58 = .int .i64 (p : Int) ∧ i ≤ C.length ∧ ∀ k y, k < i → C[k]? = some y → y.before x = true), fun _ _ _ => rfl⟩
          refine lwp_inv I5 (n := C.length) ?_ ?_
          · rw [hI5]
            exact ⟨rfl, 0, by omega, (by simp only [bE, Nat.reduceEqDiff, bN, Nat.reduceLT, he]; try rfl), (by simp only [bE, Nat.reduceEqDiff, bN, Nat.reduceLT, he, e2]; try rfl), (by simp only [bE, Nat.reduceEqDiff, bN, Nat.reduceLT, he, e3]; try rfl), (by simp only [bE, Nat.reduceEqDiff, bN, Nat.reduceLT, he, e4]; try rfl), (by simp only [bE, Nat.reduceEqDiff, bN, Nat.reduceLT, he, e5]; try rfl), (by simp only [bE, Nat.reduceEqDiff, bN, Nat.reduceLT, he, e9]; try rfl), (by simp only [bE, Nat.reduceEqDiff, bN, Nat.reduceLT, he, e10]; try rfl), (by simp only [bE, Nat.reduceEqDiff, bN, Nat.reduceLT, he]; try rfl), (by simp only [bE, Nat.reduceEqDiff, bN, Nat.reduceLT, he, e56]; try rfl), (by simp only [bE, Nat.reduceEqDiff, bN, Nat.reduceLT, he, e57]; try rfl), (by simp only [bE, Nat.reduceEqDiff, bN, Nat.reduceLT, he, e58]; try rfl), by omega, fun k y hk => by omega⟩
          clear he e2 e3 e4 e5 e9 e10 e56 e57 e58
          intro n5 e t hi
          rw [hI5] at hi
          obtain ⟨hKe, i, hni5, he, e2, e3, e4, e5, e9, e10, e11, e56, e57, e58, hil, hpre⟩ := hi
          subst hKe
          have hLc := lenV_read hJ.cld.read
          by_cases hlk : i < C.length
          · obtain ⟨y, hy⟩ := getsome hlk
            have hw7 := wrap_add1 (n := i) (by omega)
            obtain ⟨g1, g2, g3, g4⟩ := dot_lods hJ.cld.read (Keep.refl t) hy
            have i3 := dot_idx hJ.cld.read hy .i64
            have q2 := q_Before false y x t
            cases hb : y.before x
            · rw [hb] at q2
              have hstop : ∀ y, C[i]? = some y → y.before x = false := fun z hz => by
                rw [hy] at hz
                injection hz with hz
                rw [← hz]; exact hb
              obtain ⟨v1, sl1, rd1⟩ := slc_hi (C := dotC) hJ.cld.read (fun _ _ _ _ _ h => hJ.cld.capOK _ _ _ _ _ h) (k := .i64) (i := (i : Int)) rfl hil
              obtain ⟨v2, sl2, rd2⟩ := slc_lo (C := dotC) hJ.cld.read (k := .i64) (i := (i : Int)) rfl hil
              have sl1 : slcV 2 cc none (some (.int .i64 (i : Int))) = some v1 := sl1
              have sl2 : slcV 2 cc (some (.int .i64 (i : Int))) none = some v2 := sl2
              have hKp : Keep t (t.push (.row (Dot.av x) true)) := (Keep.refl t).push _
              obtain ⟨r1, r2, r3, r4⟩ := dot_lods hrd (hKt.trans (keep_reserve t 1)) hx
              obtain ⟨p0, p1, plt⟩ := row2_lod (hKp.blk hJ.obox)
              obtain ⟨u2, t2, ap2, hKa, hr2⟩ := app_lit (x := x) (rd2 _ hKp) (by rw [List.length_drop]; omega)
              obtain ⟨m0, m1, mlt⟩ := row2_lod ((hKp.trans hKa).blk hJ.obox)
              obtain ⟨u3, t3, ap3, hKb, hO3⟩ := appV_list (C := dotC) (Keep.refl t2) (.nil dotC t2 t2) (rd1 _ (hKp.trans hKa)) 16 (by rw [List.length_take]; simp; unfold roomBytes; omega)
              rw [List.nil_append] at hO3
              obtain ⟨u4, t4, ap4, hKc, hO4⟩ := appV_list (C := dotC) hKb hO3 (hKb.read hr2) 16 (by rw [List.length_take, List.length_cons, List.length_drop]; unfold roomBytes; omega)
              have ap3 : appV t2 2 16 .nils v1 = some (u3, t3) := ap3
              have ap4 : appV t3 2 16 u3 u2 = some (u4, t4) := ap4
              have hKall := (hKp.trans hKa).trans hKc
              obtain ⟨hsto, hbt, hJ'⟩ := hJ.setc (Own.from (s0 := t) hO4 (hKp.trans hKa).next) hKall
              have hbw' : (t4.put (((s.push (.row [v, w] true)).push (.row [v', w'] true)).next + 1) (.row [vv, u4] true)).get j0 = some (.row [w, w'] true) := by
                rw [St.get_put_ne _ _ hbt (by omega)]
                exact hKall.blk hbw
              have hsn2 := hsn.trans (insD_split x C i hil hpre hstop)
              simp (config := {contextual := true, maxDischargeDepth := 12}) only [tb_at, he, e2, e3, e4, e5, e9, e10, e11, e56, e57, e58, hLl, hLc, o0, o1, olt, r1, r4, p0, p1, plt, m0, m1, mlt, i2, sl1, sl2, ap2, ap3, ap4, hsto, hbt, hw6, bsl_dot, reserve0, hlk, g1, g4, i3, a1, a4, q2, ↓bD, bU, forall_const, bS, implies_true, isNx, eq_self, ↓wp_cond, ↓wp_loop, ↓reduceIte, reduceCtorEq, Nat.reduceEqDiff, Nat.reduceLT, Nat.reduceAdd, Nat.reduceMul, bT, ↓sg_bsl, ↓st_callf, bX, List.cons_append, List.nil_append, ↓st_appf, bY, slcV_nils0N, slcV_sl0N, bslV_0N, bin_shr1, bsl_nd, q_known]
              refine ⟨n4 - 1, by omega, ?_⟩
              rw [hI4]
              exact ⟨trivial, q + 1, u4, by omega, (by simp only [bE, Nat.reduceEqDiff, bN, Nat.reduceLT, he, e2, e3, e4, e5, e9, e10, e56, e57, e58]; try rfl), (by simp only [bE, Nat.reduceEqDiff, bN, Nat.reduceLT, he, e2, e3, e4, e5, e9, e10, e56, e57, e58]; try rfl), (by simp only [bE, Nat.reduceEqDiff, bN, Nat.reduceLT, he, e2, e3, e4, e5, e9, e10, e56, e57, e58]; try rfl), (by simp only [bE, Nat.reduceEqDiff, bN, Nat.reduceLT, he, e2, e3, e4, e5, e9, e10, e56, e57, e58]; try rfl), (by simp only [bE, Nat.reduceEqDiff, bN, Nat.reduceLT, he, e2, e3, e4, e5, e9, e10, e56, e57, e58]; try rfl), (by simp only [bE, Nat.reduceEqDiff, bN, Nat.reduceLT, he, e2, e3, e4, e5, e9, e10, e56, e57, e58]; try rfl), (by simp only [bE, Nat.reduceEqDiff, bN, Nat.reduceLT, he, e2, e3, e4, e5, e9, e10, e56, e57, e58]; try rfl), (by simp only [bE, Nat.reduceEqDiff, bN, Nat.reduceLT, he, e2, e3, e4, e5, e9, e10, e56, e57, e58]; try rfl), (by simp only [bE, Nat.reduceEqDiff, bN, Nat.reduceLT, he, e2, e3, e4, e5, e9, e10, e56, e57, e58]; try rfl), (by simp only [bE, Nat.reduceEqDiff, bN, Nat.reduceLT, he, e2, e3, e4, e5, e9, e10, e56, e57, e58]; try rfl), by rw [hsn2]; exact hJ', hbw'⟩
            · rw [hb] at q2
              simp (config := {contextual := true, maxDischargeDepth := 12}) only [tb_at, he, e2, e3, e4, e5, e9, e10, e11, e56, e57, e58, hLl, hLc, hlk, hw7, o0, o1, olt, g1, g4, i3, a1, a4, i2, q2, reserve0, ↓bD, bU, forall_const, bS, implies_true, isNx, eq_self, ↓wp_cond, ↓wp_loop, ↓reduceIte, reduceCtorEq, Nat.reduceEqDiff, Nat.reduceLT, Nat.reduceAdd, Nat.reduceMul, bT, ↓sg_bsl, ↓st_callf, bX, List.cons_append, List.nil_append, ↓st_appf, bY, slcV_nils0N, slcV_sl0N, bslV_0N, bin_shr1, bsl_nd, q_known]
              refine ⟨n5 - 1, by omega, ?_⟩
              rw [hI5]
              exact ⟨rfl, i + 1, by omega, (by simp only [bE, Nat.reduceEqDiff, bN, Nat.reduceLT, he, e2, e3, e4, e5, e9, e10, e11, e56, e57, e58]; try rfl), (by simp only [bE, Nat.reduceEqDiff, bN, Nat.reduceLT, he, e2, e3, e4, e5, e9, e10, e11, e56, e57, e58]; try rfl), (by simp only [bE, Nat.reduceEqDiff, bN, Nat.reduceLT, he, e2, e3, e4, e5, e9, e10, e11, e56, e57, e58]; try rfl), (by simp only [bE, Nat.reduceEqDiff, bN, Nat.reduceLT, he, e2, e3, e4, e5, e9, e10, e11, e56, e57, e58]; try rfl), (by simp only [bE, Nat.reduceEqDiff, bN, Nat.reduceLT, he, e2, e3, e4, e5, e9, e10, e11, e56, e57, e58]; try rfl), (by simp only [bE, Nat.reduceEqDiff, bN, Nat.reduceLT, he, e2, e3, e4, e5, e9, e10, e11, e56, e57, e58]; try rfl), (by simp only [bE, Nat.reduceEqDiff, bN, Nat.reduceLT, he, e2, e3, e4, e5, e9, e10, e11, e56, e57, e58]; try rfl), (by simp only [bE, Nat.reduceEqDiff, bN, Nat.reduceLT, he, e2, e3, e4, e5, e9, e10, e11, e56, e57, e58]; try rfl), (by simp only [bE, Nat.reduceEqDiff, bN, Nat.reduceLT, he, e2, e3, e4, e5, e9, e10, e11, e56, e57, e58]; try rfl), (by simp only [bE, Nat.reduceEqDiff, bN, Nat.reduceLT, he, e2, e3, e4, e5, e9, e10, e11, e56, e57, e58]; try rfl), (by simp only [bE, Nat.reduceEqDiff, bN, Nat.reduceLT, he, e2, e3, e4, e5, e9, e10, e11, e56, e57, e58]; try rfl), by omega, pre_next (P := fun k y => y.before x = true) hy hpre hb⟩
          · have hstop : ∀ y, C[i]? = some y → y.before x = false := fun y hy => absurd (getlt hy) hlk
            obtain ⟨v1, sl1, rd1⟩ := slc_hi (C := dotC) hJ.cld.read (fun _ _ _ _ _ h => hJ.cld.capOK _ _ _ _ _ h) (k := .i64) (i := (i : Int)) rfl hil
            obtain ⟨v2, sl2, rd2⟩ := slc_lo (C := dotC) hJ.cld.read (k := .i64) (i := (i : Int)) rfl hil
            have sl1 : slcV 2 cc none (some (.int .i64 (i : Int))) = some v1 := sl1
            have sl2 : slcV 2 cc (some (.int .i64 (i : Int))) none = some v2 := sl2
            have hKp : Keep t (t.push (.row (Dot.av x) true)) := (Keep.refl t).push _
            obtain ⟨r1, r2, r3, r4⟩ := dot_lods hrd (hKt.trans (keep_reserve t 1)) hx
            obtain ⟨p0, p1, plt⟩ := row2_lod (hKp.blk hJ.obox)
            obtain ⟨u2, t2, ap2, hKa, hr2⟩ := app_lit (x := x) (rd2 _ hKp) (by rw [List.length_drop]; omega)
            obtain ⟨m0, m1, mlt⟩ := row2_lod ((hKp.trans hKa).blk hJ.obox)
            obtain ⟨u3, t3, ap3, hKb, hO3⟩ := appV_list (C := dotC) (Keep.refl t2) (.nil dotC t2 t2) (rd1 _ (hKp.trans hKa)) 16 (by rw [List.length_take]; simp; unfold roomBytes; omega)
            rw [List.nil_append] at hO3
            obtain ⟨u4, t4, ap4, hKc, hO4⟩ := appV_list (C := dotC) hKb hO3 (hKb.read hr2) 16 (by rw [List.length_take, List.length_cons, List.length_drop]; unfold roomBytes; omega)
            have ap3 : appV t2 2 16 .nils v1 = some (u3, t3) := ap3
            have ap4 : appV t3 2 16 u3 u2 = some (u4, t4) := ap4
            have hKall := (hKp.trans hKa).trans hKc
            obtain ⟨hsto, hbt, hJ'⟩ := hJ.setc (Own.from (s0 := t) hO4 (hKp.trans hKa).next) hKall
            have hbw' : (t4.put (((s.push (.row [v, w] true)).push (.row [v', w'] true)).next + 1) (.row [vv, u4] true)).get j0 = some (.row [w, w'] true) := by
              rw [St.get_put_ne _ _ hbt (by omega)]
              exact hKall.blk hbw
            have hsn2 := hsn.trans (insD_split x C i hil hpre hstop)
            simp (config := {contextual := true, maxDischargeDepth := 12}) only [tb_at, he, e2, e3, e4, e5, e9, e10, e11, e56, e57, e58, hLl, hLc, o0, o1, olt, r1, r4, p0, p1, plt, m0, m1, mlt, i2, sl1, sl2, ap2, ap3, ap4, hsto, hbt, hw6, bsl_dot, reserve0, hlk, ↓bD, bU, forall_const, bS, implies_true, isNx, eq_self, ↓wp_cond, ↓wp_loop, ↓reduceIte, reduceCtorEq, Nat.reduceEqDiff, Nat.reduceLT, Nat.reduceAdd, Nat.reduceMul, bT, ↓sg_bsl, ↓st_callf, bX, List.cons_append, List.nil_append, ↓st_appf, bY, slcV_nils0N, slcV_sl0N, bslV_0N, bin_shr1, bsl_nd, q_known]
            refine ⟨n4 - 1, by omega, ?_⟩
            rw [hI4]
            exact ⟨trivial, q + 1, u4, by omega, (by simp only [bE, Nat.reduceEqDiff, bN, Nat.reduceLT, he, e2, e3, e4, e5, e9, e10, e56, e57, e58]; try rfl), (by simp only [bE, Nat.reduceEqDiff, bN, Nat.reduceLT, he, e2, e3, e4, e5, e9, e10, e56, e57, e58]; try rfl), (by simp only [bE, Nat.reduceEqDiff, bN, Nat.reduceLT, he, e2, e3, e4, e5, e9, e10, e56, e57, e58]; try rfl), (by simp only [bE, Nat.reduceEqDiff, bN, Nat.reduceLT, he, e2, e3, e4, e5, e9, e10, e56, e57, e58]; try rfl), (by simp only [bE, Nat.reduceEqDiff, bN, Nat.reduceLT, he, e2, e3, e4, e5, e9, e10, e56, e57, e58]; try rfl), (by simp only [bE, Nat.reduceEqDiff, bN, Nat.reduceLT, he, e2, e3, e4, e5, e9, e10, e56, e57, e58]; try rfl), (by simp only [bE, Nat.reduceEqDiff, bN, Nat.reduceLT, he, e2, e3, e4, e5, e9, e10, e56, e57, e58]; try rfl), (by simp only [bE, Nat.reduceEqDiff, bN, Nat.reduceLT, he, e2, e3, e4, e5, e9, e10, e56, e57, e58]; try rfl), (by simp only [bE, Nat.reduceEqDiff, bN, Nat.reduceLT, he, e2, e3, e4, e5, e9, e10, e56, e57, e58]; try rfl), (by simp only [bE, Nat.reduceEqDiff, bN, Nat.reduceLT, he, e2, e3, e4, e5, e9, e10, e56, e57, e58]; try rfl), by rw [hsn2]; exact hJ', hbw'⟩
      · obtain rfl : q = l.length := by omega
        rw [List.take_length, ← hCC] at hJ
        simp (config := {contextual := true, maxDischargeDepth := 12}) only [tb_at, he, e2, e3, e4, e5, e9, e10, e56, e57, e58, hLl, hlq, hw4, ↓bD, bU, forall_const, bS, implies_true, isNx, eq_self, ↓wp_cond, ↓wp_loop, ↓reduceIte, reduceCtorEq, Nat.reduceEqDiff, Nat.reduceLT, Nat.reduceAdd, Nat.reduceMul, bT, ↓sg_bsl, ↓st_callf, bX, List.cons_append, List.nil_append, ↓st_appf, bY, slcV_nils0N, slcV_sl0N, bslV_0N, bin_shr1, bsl_nd, q_known]
        refine ⟨n - 1, by omega, ?_⟩
        rw [hI3]
        exact ⟨trivial, p + 1, cc, by omega, (by simp only [bE, Nat.reduceEqDiff, bN, Nat.reduceLT, he, e2, e3, e4, e5, e56, e57, e58]; try rfl), (by simp only [bE, Nat.reduceEqDiff, bN, Nat.reduceLT, he, e2, e3, e4, e5, e56, e57, e58]; try rfl), (by simp only [bE, Nat.reduceEqDiff, bN, Nat.reduceLT, he, e2, e3, e4, e5, e56, e57, e58]; try rfl), (by simp only [bE, Nat.reduceEqDiff, bN, Nat.reduceLT, he, e2, e3, e4, e5, e56, e57, e58]; try rfl), (by simp only [bE, Nat.reduceEqDiff, bN, Nat.reduceLT, he, e2, e3, e4, e5, e56, e57, e58]; try rfl), (by simp only [bE, Nat.reduceEqDiff, bN, Nat.reduceLT, he, e2, e3, e4, e5, e56, e57, e58]; try rfl), (by simp only [bE, Nat.reduceEqDiff, bN, Nat.reduceLT, he, e2, e3, e4, e5, e56, e57, e58]; try rfl), (by simp only [bE, Nat.reduceEqDiff, bN, Nat.reduceLT, he, e2, e3, e4, e5, e56, e57, e58]; try rfl), hJ, hbw⟩
    · obtain rfl : p = 2 := by omega
      have hz := eq_false (show ¬ ((2 : Nat) : Int) < 2 by omega)
      rw [← unC_uni hcx hcy]
      obtain ⟨f1, f2, f3, f4, f5, f6⟩ := hJ.done
      obtain ⟨o0, o1, olt⟩ := row2_lod hJ.obox
      simp (config := {contextual := true, maxDischargeDepth := 12}) only [tb_at, he, e2, e3, e4, e5, e56, e57, e58, hz, f1, f2, f3, f4, olt, rc1, ↓bD, bU, forall_const, bS, implies_true, isNx, eq_self, ↓wp_cond, ↓wp_loop, ↓reduceIte, reduceCtorEq, Nat.reduceEqDiff, Nat.reduceLT, Nat.reduceAdd, Nat.reduceMul, bT, ↓sg_bsl, ↓st_callf, bX, List.cons_append, List.nil_append, ↓st_appf, bY, slcV_nils0N, slcV_sl0N, bslV_0N, bin_shr1, bsl_nd, q_known]
      exact ⟨_, rfl, ⟨vv, cc, rfl, f5⟩, hK2.trans f6⟩
theorem q_RgUnion {s : St} {v w : AV} {X : DCx} (hv : read dotC s v = some X.v) (hw : read dotC s w = some X.c) (hlv : X.v.length ≤ 1000) (hlw : X.c.length ≤ 1000) {v' w' : AV} {Y : DCx} (kv : read dotC s v' = some Y.v) (kw : read dotC s w' = some Y.c) (klv : Y.v.length ≤ 1000) (klw : Y.c.length ≤ 1000) (hcx : isC X = true) (hcy : isC Y = true) : ∃ vv cc t, acall R_RgUnion false [.agg [v, w], .agg [v', w']] s = some (.agg [vv, cc], t) ∧ CR t vv cc (uniC X Y) ∧ Keep s t := by
  obtain ⟨r, t, h1, ⟨vv, cc, rfl, h2⟩, h3⟩ := run_any n_RgUnion (args := [.agg [v, w], .agg [v', w']]) (Q := fun r t => ∃ vv cc, r = .agg [vv, cc] ∧ CR t vv cc (uniC X Y)) (by simp [a45]) (fun r t t' hg hn ⟨vv, cc, e, h⟩ => ⟨vv, cc, e, h.mono fun id b hb => by rw [hg]; exact hb⟩) (fun r t hgr hk ⟨vv, cc, e, h⟩ => ⟨vv, cc, e, by
    rw [e] at hgr
    exact h.ground (plain_ground (ground_agg hgr).1) (plain_ground (ground_agg hgr).2)⟩) (w_RgUnion (s := lowd s) (read_low' hv) (read_low' hw) hlv hlw (read_low' kv) (read_low' kw) klv klw hcx hcy)
  exact ⟨vv, cc, t, h1, h2, h3⟩

end Go.AM
end
/-
  What arguments show: digests. Own work of this project.
-/
section
set_option maxRecDepth 100000
namespace Go.AM
open Go Go.Proofs

variable {s : St}
theorem dot_cks5 : cks Tryz.prog 5 54 = some dotKs := by kernel_rfl
theorem dig_fields : fieldsT Tryz.prog 32 = some [30, 30] := by kernel_rfl
theorem rd_ctx7 {vs : List AV} (h1 : RdT Tryz.prog s 7 30 vs) : ∃ v1 v2 X, vs = [v1, v2] ∧ read dotC s v1 = some (DCx.v X) ∧ read dotC s v2 = some X.c := by
  obtain ⟨r1, x1, rfl, k1, r2, x2, rfl, k2, rfl⟩ := rd_struct ctx_fields h1
  obtain ⟨v1, l1, rfl, hr1⟩ := rd_dotsT vec_under dot_cells dot_cks5 k1
  obtain ⟨v2, l2, rfl, hr2⟩ := rd_dotsT dots_under dot_cells dot_cks5 k2
  exact ⟨v1, v2, ⟨l1, l2⟩, rfl, hr1, hr2⟩
theorem rda_dig {v : AV} (h : RdA Tryz.prog s 8 32 v) : ∃ v1 w1 v2 w2 D, v = .agg [v1, w1, v2, w2] ∧ read dotC s v1 = some (DDg.all D).v ∧ read dotC s w1 = some D.all.c ∧ read dotC s v2 = some D.gone.v ∧ read dotC s w2 = some D.gone.c := by
  obtain ⟨vs, h1, rfl⟩ := h
  rw [arg_struct dig_fields]
  obtain ⟨r1, x1, rfl, k1, r2, x2, rfl, k2, rfl⟩ := rd_struct dig_fields h1
  obtain ⟨v1, w1, X, rfl, a1, a2⟩ := rd_ctx7 k1
  obtain ⟨v2, w2, Y, rfl, b1, b2⟩ := rd_ctx7 k2
  exact ⟨v1, w1, v2, w2, ⟨X, Y⟩, rfl, a1, a2, b1, b2⟩
end Go.AM
end
/-
  DigestOf, DigestDiffs, DigestHolds in the abstract machine. Own work of this project; in part printed by a program of it.
-/
section
set_option maxRecDepth 100000
set_option maxHeartbeats 8000000
namespace Go.AM
open Go Go.Proofs

variable {s t u : St}

theorem small_L {D : DDg} (h : (((decide ((D.all.v.length : Int) ≤ 40) && decide ((D.all.c.length : Int) ≤ 40)) && decide ((D.gone.v.length : Int) ≤ 40)) && decide ((D.gone.c.length : Int) ≤ 40)) = true) : DgL D 40 := by
  simp only [Bool.and_eq_true, decide_eq_true_eq] at h
  exact ⟨by omega, by omega, by omega, by omega⟩
end Go.AM
end
/-
  The merge of the reference of layer 16; DigestStates, DigestLooks. Own work of this project; in part printed by a program of it.
-/
section
set_option maxRecDepth 100000
set_option maxHeartbeats 8000000
namespace Go.AM
open Go Go.Proofs

variable {s t u : St}

theorem sg_callf2 {call : Nat → List AV → St → Option (AV × St)} {base : Nat} {d : Option Nat} {r : Option Nat} {rest : List AOper} {Q : Env → St → Prop} {env : Env} {s : St} (f : Nat) (l : List AO) (t : Nat) (w : Bool) : awops call base (⟨d, .call f false l, some (t, w), r, true⟩ :: rest) Q env s = gcall s (E env t) w (acallF (call f) (l.map (aev env)) s) fun v t => awops call base rest Q (pE env d v) t := by
  rw [st_guard, st_callf]
  rfl
theorem q_RgUnionF {s : St} {v w : AV} {X : DCx} (hv : read dotC s v = some X.v) (hw : read dotC s w = some X.c) (hlv : X.v.length ≤ 1000) (hlw : X.c.length ≤ 1000) {v' w' : AV} {Y : DCx} (kv : read dotC s v' = some Y.v) (kw : read dotC s w' = some Y.c) (klv : Y.v.length ≤ 1000) (klw : Y.c.length ≤ 1000) (hcx : isC X = true) (hcy : isC Y = true) : ∃ vv cc t, acallF R_RgUnion [.agg [v, w], .agg [v', w']] s = some (.agg [vv, cc], t) ∧ CR t vv cc (uniC X Y) ∧ Keep s t := by
  obtain ⟨vv, cc, t, h1, h2, h3⟩ := q_RgUnion (s := lowd s) (read_low' hv) (read_low' hw) hlv hlw (read_low' kv) (read_low' kw) klv klw hcx hcy
  obtain ⟨t', g1, g2, g3, g4⟩ := acallF_keep h1 h3
  exact ⟨vv, cc, t', g1, h2.mono fun id b hb => by rw [g2]; exact hb, g4⟩
noncomputable def R_RgMerge : Con := runFn (tb [(45, R_RgUnion)]) a24
theorem s_RgMerge : SoundAt Tryz.prog 24 R_RgMerge := run_sound (tb_sound (l := [(45, R_RgUnion)]) (by simpa using s_RgUnion)) mixed Tryz.func24 k24 c24
theorem n_RgMerge : noNxtC a24.body = true := by kernel_rfl
theorem w_RgMerge {s : St} {a1 b1 c1 d1 : AV} {D : DDg} (hD : DgR s a1 b1 c1 d1 D) (hDl : DgL D 1000) {a2 b2 c2 d2 : AV} {G : DDg} (hG : DgR s a2 b2 c2 d2 G) (hGl : DgL G 1000) (hvD : dgV D = true) (hvG : dgV G = true) : ∀ env : Env, elen env = a24.ntmps → (∀ i x_, [.agg [a1, b1, c1, d1], .agg [a2, b2, c2, d2]][i]? = some x_ → E env i = x_) → awp (tb [(45, R_RgUnion)]) a24.body (fun x e t => (∀ i, x ≠ .exit i) ∧ ∃ r, aresults e t a24.results = some r ∧ (∃ x1 x2 x3 x4, r = .agg [x1, x2, x3, x4] ∧ DgR t x1 x2 x3 x4 (dgMerge D G)) ∧ Keep s t) env s := by
  intro env hlen ha
  have h0 : E env 0 = _ := ha 0 _ rfl
  have h1 : E env 1 = _ := ha 1 _ rfl
  have hlen : elen env = _ := hlen
  simp only [a24] at hlen
  unfold a24
  try dsimp only [oO, oG]
  have hbx := hD.box
  have hby := hG.box
  have hK2 : Keep s (((s.push (.row [a1, b1, c1, d1] true)).push (.row [a2, b2, c2, d2] true)).push (.row [.nils, .nils, .nils, .nils] true)) := (((Keep.refl s).push _).push _).push _
  have hK12 : Keep (s.push (.row [a1, b1, c1, d1] true)) (((s.push (.row [a1, b1, c1, d1] true)).push (.row [a2, b2, c2, d2] true)).push (.row [.nils, .nils, .nils, .nils] true)) := ((Keep.refl _).push _).push _
  have hK22 : Keep ((s.push (.row [a1, b1, c1, d1] true)).push (.row [a2, b2, c2, d2] true)) (((s.push (.row [a1, b1, c1, d1] true)).push (.row [a2, b2, c2, d2] true)).push (.row [.nils, .nils, .nils, .nils] true)) := (Keep.refl _).push _
  obtain ⟨p1, p2, p3, p4, p5, p6, p7, p8⟩ := box_dg s a1 b1 c1 d1 hK12
  obtain ⟨r1, r2, r3, r4, r5, r6, r7, r8⟩ := box_dg (s.push (.row [a1, b1, c1, d1] true)) a2 b2 c2 d2 hK22
  have hb3 := St.get_push_new ((s.push (.row [a1, b1, c1, d1] true)).push (.row [a2, b2, c2, d2] true)) (.row [.nils, .nils, .nils, .nils] true)
  obtain ⟨z1, z2, _⟩ := dgV_parts hvD
  obtain ⟨y1, y2, _⟩ := dgV_parts hvG
  obtain ⟨x1, x2, t1, q1, hC1, hKa⟩ := q_RgUnionF (hK2.read hD.r1) (hK2.read hD.r2) hDl.l1 hDl.l2 (hK2.read hG.r1) (hK2.read hG.r2) hGl.l1 hGl.l2 z1 y1
  have hKb := hK2.trans hKa
  obtain ⟨P1, P2, P3, P4, P5, P6, P7, P8⟩ := box_dg s a1 b1 c1 d1 (hK12.trans hKa)
  obtain ⟨R1, R2, R3, R4, R5, R6, R7, R8⟩ := box_dg (s.push (.row [a1, b1, c1, d1] true)) a2 b2 c2 d2 (hK22.trans hKa)
  obtain ⟨x3, x4, t2, q2, hC2, hKc⟩ := q_RgUnion (hKb.read hD.r3) (hKb.read hD.r4) hDl.l3 hDl.l4 (hKb.read hG.r3) (hKb.read hG.r4) hGl.l3 hGl.l4 z2 y2
  have hC1' := hC1.keep hKc
  have hR : DgR t2 x1 x2 x3 x4 (dgMerge D G) := ⟨hC1'.1, hC1'.2, hC2.1, hC2.2⟩
  have hKr : Keep (((s.push (.row [a1, b1, c1, d1] true)).push (.row [a2, b2, c2, d2] true)).push (.row [.nils, .nils, .nils, .nils] true)) t2 := hKa.trans hKc
  have hbx4 := hKr.blk hb3
  have f0 := fstep_q0 (read_oneD hR.r1).2 (read_oneD hR.r2).2 .nils .nils .nils .nils
  have f2 := fstep_q2 (read_oneD hR.r3).2 (read_oneD hR.r4).2 x1 x2 .nils .nils
  have st4 := sto_row4 hbx4 hR
  have hlt := St.get_lt hbx4
  obtain ⟨s1_, s2_, s3_, s4_, s5_, s6_, s7_, s8_⟩ := row4_lods (St.get_put_same (b := .row [x1, x2, x3, x4] true) hbx4)
  simp (config := {contextual := true, maxDischargeDepth := 12}) only [tb_at, h0, h1, hlen, q1, q2, P1, P2, P3, P8, R1, R2, R3, R8, ap_build, fillP_nil, fillP_cons, f0, f2, st4, hlt, s1_, s8_, rc1, reserve0, hbx, hby, p1, p2, p3, p4, p5, p6, p7, p8, r1, r2, r3, r4, r5, r6, r7, r8, ↓bD, bU, forall_const, bS, implies_true, isNx, eq_self, ↓wp_cond, ↓wp_loop, ↓reduceIte, reduceCtorEq, Nat.reduceEqDiff, Nat.reduceLT, Nat.reduceAdd, Nat.reduceMul, bT, ↓sg_bsl, ↓st_callf, bX, List.cons_append, List.nil_append, ↓st_appf, bY, slcV_nils0N, slcV_sl0N, bslV_0N, bin_shr1, bsl_nd, q_known]
  exact ⟨_, rfl, ⟨x1, x2, x3, x4, rfl, dgr_put hbx4 hR⟩, (hK2.trans hKr).put _ (by simp; omega) hlt⟩
theorem q_RgMerge {s : St} {a1 b1 c1 d1 : AV} {D : DDg} (hD : DgR s a1 b1 c1 d1 D) (hDl : DgL D 1000) {a2 b2 c2 d2 : AV} {G : DDg} (hG : DgR s a2 b2 c2 d2 G) (hGl : DgL G 1000) (hvD : dgV D = true) (hvG : dgV G = true) : ∃ x1 x2 x3 x4 t, acall R_RgMerge false [.agg [a1, b1, c1, d1], .agg [a2, b2, c2, d2]] s = some (.agg [x1, x2, x3, x4], t) ∧ DgR t x1 x2 x3 x4 (dgMerge D G) ∧ Keep s t := by
  obtain ⟨r, t, h1, ⟨x1, x2, x3, x4, rfl, h2⟩, h3⟩ := run_any n_RgMerge (args := [.agg [a1, b1, c1, d1], .agg [a2, b2, c2, d2]]) (Q := fun r t => ∃ x1 x2 x3 x4, r = .agg [x1, x2, x3, x4] ∧ DgR t x1 x2 x3 x4 (dgMerge D G)) (by simp [a24]) (fun r t t' hg hn ⟨x1, x2, x3, x4, e, h⟩ => ⟨x1, x2, x3, x4, e, h.mono fun id b hb => by rw [hg]; exact hb⟩) (fun r t hgr hk ⟨x1, x2, x3, x4, e, h⟩ => ⟨x1, x2, x3, x4, e, by
    rw [e] at hgr
    obtain ⟨g1, g2, g3, g4⟩ := ground4 hgr
    exact h.ground (plain_ground g1) (plain_ground g2) (plain_ground g3) (plain_ground g4)⟩) (w_RgMerge (s := lowd s) hD.low hDl hG.low hGl hvD hvG)
  exact ⟨x1, x2, x3, x4, t, h1, h2, h3⟩

theorem q_RgMergeF {s : St} {a1 b1 c1 d1 : AV} {D : DDg} (hD : DgR s a1 b1 c1 d1 D) (hDl : DgL D 1000) {a2 b2 c2 d2 : AV} {G : DDg} (hG : DgR s a2 b2 c2 d2 G) (hGl : DgL G 1000) (hvD : dgV D = true) (hvG : dgV G = true) : ∃ x1 x2 x3 x4 t, acallF R_RgMerge [.agg [a1, b1, c1, d1], .agg [a2, b2, c2, d2]] s = some (.agg [x1, x2, x3, x4], t) ∧ DgR t x1 x2 x3 x4 (dgMerge D G) ∧ Keep s t := by
  obtain ⟨x1, x2, x3, x4, t, h1, h2, h3⟩ := q_RgMerge (s := lowd s) hD.low hDl hG.low hGl hvD hvG
  obtain ⟨t', g1, g2, g3, g4⟩ := acallF_keep h1 h3
  exact ⟨x1, x2, x3, x4, t', g1, h2.mono fun id b hb => by rw [g2]; exact hb, g4⟩
theorem s_DigestLooks : SoundAt Tryz.prog 6 (lawC Tryz.prog 8 [32, 32]) :=
  con_keep (tb_sound (l := [(8, closed [] (.bool true)), (13, R_RgSmall), (12, R_DgValid), (14, R_RgValid), (25, R_DgEqual), (26, R_RgSame), (23, R_merges), (21, R_dwithin), (24, R_RgMerge), (22, R_RgWithin)]) (by simpa using ⟨s_known, s_RgSmall, s_DgValid, s_RgValid, s_DgEqual, s_RgSame, s_merges, s_dwithin, s_RgMerge, s_RgWithin⟩)) mixed Tryz.func6 k6 c6 fun args s r s' h => by
    obtain ⟨hh, rfl, rfl⟩ := lawC_some h
    obtain ⟨v0, w0, rfl, hv0, hw0⟩ := rdas_2 hh
    obtain ⟨a1, b1, c1, d1, D, rfl, hr1, hr2, hr3, hr4⟩ := rda_dig hv0
    have hD : DgR s a1 b1 c1 d1 D := ⟨hr1, hr2, hr3, hr4⟩
    obtain ⟨a2, b2, c2, d2, G, rfl, kr1, kr2, kr3, kr4⟩ := rda_dig hw0
    have hG : DgR s a2 b2 c2 d2 G := ⟨kr1, kr2, kr3, kr4⟩
    refine ⟨rfl, rfl, by simp [a6], fun env hlen ha => ?_⟩
    have h0 : E env 0 = _ := ha 0 _ rfl
    have h1 : E env 1 = _ := ha 1 _ rfl
    have hlen : elen env = _ := hlen
    simp only [a6] at hlen
    unfold a6
    try dsimp only [oO, oG]
    have hbx := hD.box
    have hby := hG.box
    have hK2 : Keep s ((s.push (.row [a1, b1, c1, d1] true)).push (.row [a2, b2, c2, d2] true)) := ((Keep.refl s).push _).push _
    have hK12 : Keep (s.push (.row [a1, b1, c1, d1] true)) ((s.push (.row [a1, b1, c1, d1] true)).push (.row [a2, b2, c2, d2] true)) := (Keep.refl _).push _
    obtain ⟨p1, p2, p3, p4, p5, p6, p7, p8⟩ := box_dg s a1 b1 c1 d1 hK12
    obtain ⟨r1, r2, r3, r4, r5, r6, r7, r8⟩ := box_dg (s.push (.row [a1, b1, c1, d1] true)) a2 b2 c2 d2 (.refl _)
    have hDk := hD.keep hK2
    have hGk := hG.keep hK2
    have qm1 := q_RgSmall false hDk
    have qm2 := q_RgSmall false hGk
    cases sm1 : (((decide ((D.all.v.length : Int) ≤ 40) && decide ((D.all.c.length : Int) ≤ 40)) && decide ((D.gone.v.length : Int) ≤ 40)) && decide ((D.gone.c.length : Int) ≤ 40))
    · rw [sm1] at qm1
      simp (config := {contextual := true, maxDischargeDepth := 12}) only [tb_at, h0, h1, hlen, qm1, hbx, hby, p1, p2, p3, p4, p5, p6, p7, p8, r1, r2, r3, r4, r5, r6, r7, r8, Bool.true_and, Bool.and_true, beq_self_eq_true, bin_neb, gcall_tt, reserve0, notV_bool, Bool.not_true, Bool.not_false, pickV_t, pickV_f, bin_eqE, bin_eqb, gcall_tt, reserve0, ↓bD, bU, forall_const, bS, implies_true, isNx, eq_self, ↓wp_cond, ↓wp_loop, ↓reduceIte, reduceCtorEq, Nat.reduceEqDiff, Nat.reduceLT, Nat.reduceAdd, Nat.reduceMul, bT, ↓sg_bsl, ↓st_callf, bX, List.cons_append, List.nil_append, ↓st_appf, bY, slcV_nils0N, slcV_sl0N, bslV_0N, bin_shr1, bsl_nd, q_known, ↓sg_callf2]
      all_goals first | exact hK2 | skip
    rw [sm1] at qm1
    cases sm2 : (((decide ((G.all.v.length : Int) ≤ 40) && decide ((G.all.c.length : Int) ≤ 40)) && decide ((G.gone.v.length : Int) ≤ 40)) && decide ((G.gone.c.length : Int) ≤ 40))
    · rw [sm2] at qm2
      simp (config := {contextual := true, maxDischargeDepth := 12}) only [tb_at, h0, h1, hlen, qm1, qm2, hbx, hby, p1, p2, p3, p4, p5, p6, p7, p8, r1, r2, r3, r4, r5, r6, r7, r8, Bool.true_and, Bool.and_true, beq_self_eq_true, bin_neb, gcall_tt, reserve0, notV_bool, Bool.not_true, Bool.not_false, pickV_t, pickV_f, bin_eqE, bin_eqb, gcall_tt, reserve0, ↓bD, bU, forall_const, bS, implies_true, isNx, eq_self, ↓wp_cond, ↓wp_loop, ↓reduceIte, reduceCtorEq, Nat.reduceEqDiff, Nat.reduceLT, Nat.reduceAdd, Nat.reduceMul, bT, ↓sg_bsl, ↓st_callf, bX, List.cons_append, List.nil_append, ↓st_appf, bY, slcV_nils0N, slcV_sl0N, bslV_0N, bin_shr1, bsl_nd, q_known, ↓sg_callf2]
      all_goals first | exact hK2 | skip
    rw [sm2] at qm2
    have l1 := (small_L sm1).le (m := 250) (by omega)
    have l2 := (small_L sm2).le (m := 250) (by omega)
    have l1m := l1.le (m := 1000) (by omega)
    have l2m := l2.le (m := 1000) (by omega)
    have v1 := q_DgValid true hDk l1m
    have v2 := q_RgValid false hDk l1m
    have v3 := q_RgValid false hGk l2m
    have e1 := q_DgEqual true hDk l1m hGk l2m
    have e2 := q_RgSame false hDk l1m hGk l2m
    have e3 := q_DgEqual false hDk l1m hDk l1m
    rw [decide_eq_true rfl] at e3
    have ne1 : (!(decide (D = G) == decide (D = G))) = false := by rw [beq_self_eq_true]; rfl
    by_cases hv : dgV D = true ∧ dgV G = true
    rotate_left
    · have q1 := q_merges false hDk l1 hGk l2 (DgR.nils (t := (s.push (.row [a1, b1, c1, d1] true)).push (.row [a2, b2, c2, d2] true))) (dgL_nil (n := 1000)) 2
      rw [dmerP_bad hv, decide_eq_true rfl, decide_eq_true rfl] at q1
      have q2 := q_dwithin false hDk l1m hGk l2m false 2
      rw [dwinP_bad hv, decide_eq_true rfl, beq_self_eq_true] at q2
      cases h1s : dgV D
      · rw [h1s] at v1 v2
        simp (config := {contextual := true, maxDischargeDepth := 12}) only [tb_at, h0, h1, hlen, qm1, qm2, v1, v2, e1, e2, e3, ne1, q1, q2, ap_build, fillP_nil, hbx, hby, p1, p2, p3, p4, p5, p6, p7, p8, r1, r2, r3, r4, r5, r6, r7, r8, Bool.true_and, Bool.and_true, beq_self_eq_true, bin_neb, gcall_tt, reserve0, notV_bool, Bool.not_true, Bool.not_false, pickV_t, pickV_f, bin_eqE, bin_eqb, gcall_tt, reserve0, ↓bD, bU, forall_const, bS, implies_true, isNx, eq_self, ↓wp_cond, ↓wp_loop, ↓reduceIte, reduceCtorEq, Nat.reduceEqDiff, Nat.reduceLT, Nat.reduceAdd, Nat.reduceMul, bT, ↓sg_bsl, ↓st_callf, bX, List.cons_append, List.nil_append, ↓st_appf, bY, slcV_nils0N, slcV_sl0N, bslV_0N, bin_shr1, bsl_nd, q_known, ↓sg_callf2]
        all_goals first | exact hK2 | skip
      · rw [h1s] at v1 v2
        have h2s : dgV G = false := by
          cases h : dgV G
          · rfl
          · exact absurd ⟨h1s, h⟩ hv
        rw [h2s] at v3
        simp (config := {contextual := true, maxDischargeDepth := 12}) only [tb_at, h0, h1, hlen, qm1, qm2, v1, v2, v3, e1, e2, e3, ne1, q1, q2, ap_build, fillP_nil, hbx, hby, p1, p2, p3, p4, p5, p6, p7, p8, r1, r2, r3, r4, r5, r6, r7, r8, Bool.true_and, Bool.and_true, beq_self_eq_true, bin_neb, gcall_tt, reserve0, notV_bool, Bool.not_true, Bool.not_false, pickV_t, pickV_f, bin_eqE, bin_eqb, gcall_tt, reserve0, ↓bD, bU, forall_const, bS, implies_true, isNx, eq_self, ↓wp_cond, ↓wp_loop, ↓reduceIte, reduceCtorEq, Nat.reduceEqDiff, Nat.reduceLT, Nat.reduceAdd, Nat.reduceMul, bT, ↓sg_bsl, ↓st_callf, bX, List.cons_append, List.nil_append, ↓st_appf, bY, slcV_nils0N, slcV_sl0N, bslV_0N, bin_shr1, bsl_nd, q_known, ↓sg_callf2]
        all_goals first | exact hK2 | skip
    obtain ⟨vx, vy⟩ := hv
    rw [vx] at v1 v2
    rw [vy] at v3
    obtain ⟨z1, z2, z3, z4, t5, q9, hR5, hK5⟩ := q_RgMergeF hDk l1m hGk l2m vx vy
    have K5 := hK2.trans hK5
    obtain ⟨P1, P2, P3, P4, P5, P6, P7, P8⟩ := box_dg s a1 b1 c1 d1 (hK12.trans hK5)
    obtain ⟨R1, R2, R3, R4, R5, R6, R7, R8⟩ := box_dg (s.push (.row [a1, b1, c1, d1] true)) a2 b2 c2 d2 hK5
    have q10 := q_merges false (hD.keep K5) l1 (hG.keep K5) l2 hR5 ((dgMerge_len l1 l2).le (by omega)) 0
    rw [dmerP_ok vx vy, decide_eq_true rfl, decide_eq_true rfl] at q10
    have q7 := q_RgWithin true (hD.keep K5) l1m (hG.keep K5) l2m vx vy
    have q8 := q_dwithin false (hD.keep K5) l1m (hG.keep K5) l2m (dgWithin D G) 0
    rw [dwinP_ok vx vy, decide_eq_true rfl, beq_self_eq_true] at q8
    simp (config := {contextual := true, maxDischargeDepth := 12}) only [tb_at, h0, h1, hlen, qm1, qm2, v1, v2, v3, e1, e2, e3, ne1, q9, P1, P8, R1, R8, q10, q7, q8, hbx, hby, p1, p2, p3, p4, p5, p6, p7, p8, r1, r2, r3, r4, r5, r6, r7, r8, Bool.true_and, Bool.and_true, beq_self_eq_true, bin_neb, gcall_tt, reserve0, notV_bool, Bool.not_true, Bool.not_false, pickV_t, pickV_f, bin_eqE, bin_eqb, gcall_tt, reserve0, ↓bD, bU, forall_const, bS, implies_true, isNx, eq_self, ↓wp_cond, ↓wp_loop, ↓reduceIte, reduceCtorEq, Nat.reduceEqDiff, Nat.reduceLT, Nat.reduceAdd, Nat.reduceMul, bT, ↓sg_bsl, ↓st_callf, bX, List.cons_append, List.nil_append, ↓st_appf, bY, slcV_nils0N, slcV_sl0N, bslV_0N, bin_shr1, bsl_nd, q_known, ↓sg_callf2]
    all_goals first | exact K5 | skip

end Go.AM
end
