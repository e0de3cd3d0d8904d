/-
  What StoreLooks asks: contexts, times, the parents that are lacking. Own work of this project; in part printed by a program of it.
-/
import Derived.Test.YtoacffbhciccnaaGreatP4
import Derived.KernelRfl
set_option linter.unusedVariables false
set_option linter.unusedSimpArgs false
section
set_option maxRecDepth 100000
set_option maxHeartbeats 8000000
namespace Go.AM
open Go Go.Proofs

variable {s t u : St}

def deadL (l : List Nd) : List Nd := l.filter fun n => decide (n.x = 0)
theorem dots_valid {l m : List Nd} (h : storeL l = true) (k : ∀ x ∈ m, x ∈ l) : (m.map Nd.d).all Dot.valid = true := by
  rw [List.all_map, List.all_eq_true]
  intro x hx
  have := store_mem h (k x hx)
  simp only [Nd.valid, Bool.and_eq_true] at this
  exact this.1.1.1.1.1
def dotsR (l : List Nd) (b : Bool) : List Dot := (l.filter fun n => !b || decide (n.x = 0)).map Nd.d
theorem dotsR_f (l : List Nd) : dotsR l false = l.map Nd.d := by
  have h : (l.filter fun n => !false || decide (n.x = 0)) = l := List.filter_eq_self.2 fun x _ => rfl
  unfold dotsR
  rw [h]
theorem dotsR_t (l : List Nd) : dotsR l true = (deadL l).map Nd.d := by simp [dotsR, deadL]
theorem dotsR_snoc {l : List Nd} {b : Bool} {i : Nat} {x : Nd} (hx : l[i]? = some x) : dotsR (l.take (i + 1)) b = dotsR (l.take i) b ++ (if (!b || decide (x.x = 0)) = true then [x.d] else []) := by
  rw [take_snoc hx]
  unfold dotsR
  rw [List.filter_append, List.map_append]
  congr 1
  by_cases h : (!b || decide (x.x = 0)) = true
  · rw [if_pos h]; simp [h]
  · rw [if_neg h]; simp [h]
theorem dotsR_len (l : List Nd) (b : Bool) : (dotsR l b).length ≤ l.length := by
  unfold dotsR
  rw [List.length_map]
  exact List.length_filter_le _ _
noncomputable def R_SCtx : Con := runFn (tb [(62, conL ndC fValid), (69, conF dotC (pL ndC gDots)), (68, R_COf)]) a48
theorem s_SCtx : SoundAt Tryz.prog 48 R_SCtx := run_sound (tb_sound (l := [(62, conL ndC fValid), (69, conF dotC (pL ndC gDots)), (68, R_COf)]) (by simpa using ⟨s_StValid, s_Dots, s_COf⟩)) mixed Tryz.func48 k48 c48
theorem n_SCtx : noNxtC a48.body = true := by kernel_rfl
theorem w_SCtx_bad {s : St} {vl : AV} {l : List Nd} (hr : read ndC s vl = some l) (hl : l.length ≤ 1000) (hst : storeL l = false) : ∀ env : Env, elen env = a48.ntmps → (∀ i x_, [vl][i]? = some x_ → E env i = x_) → awp (tb [(62, conL ndC fValid), (69, conF dotC (pL ndC gDots)), (68, R_COf)]) a48.body (fun x e t => (∀ i, x ≠ .exit i) ∧ aresults e t a48.results = some (.tup [.agg [.nils, .nils], .int .i64 2]) ∧ Keep s t) env s := by
  intro env hlen ha
  have h0 : E env 0 = _ := ha 0 _ rfl
  have hlen : elen env = _ := hlen
  simp only [a48] at hlen
  unfold a48
  try dsimp only [oO, oG]
  have hK1 : Keep s (s.push (.row [.nils, .nils] true)) := (Keep.refl s).push _
  have qv := q_StValid false (hK1.read hr) (by unfold lim; omega)
  rw [hst] at qv
  have hst0 := sto_ctx (show sameN s.next s from rfl) (a := .nils) (b := .nils) rfl rfl
  simp (config := {contextual := true, maxDischargeDepth := 12}) only [tb_at, h0, hlen, qv, ap_build, fillP_nil, rc2, hst0, notV_bool, Bool.not_false, ↓bD, bU, forall_const, bS, implies_true, isNx, eq_self, ↓wp_cond, ↓wp_loop, ↓reduceIte, reduceCtorEq, Nat.reduceEqDiff, Nat.reduceLT, Nat.reduceAdd, Nat.reduceMul, bT, ↓sg_bsl, ↓st_callf, bX, List.cons_append, List.nil_append, ↓st_appf, bY, slcV_nils0N, slcV_sl0N, bslV_0N, bin_shr1, bsl_nd, q_known]
  all_goals exact (Keep.refl s).lowed.push _
theorem q_SCtx_bad (cl : Bool) {s : St} {vl : AV} {l : List Nd} (hr : read ndC s vl = some l) (hl : l.length ≤ 1000) (hst : storeL l = false) : acall R_SCtx cl [vl] s = some (.tup [.agg [.nils, .nils], .int .i64 2], s) := run_same n_SCtx (by simp [a48]) rfl (w_SCtx_bad (s := lowd s) (read_low' hr) hl hst)
theorem w_SCtx {s : St} {vl : AV} {l : List Nd} (hr : read ndC s vl = some l) (hl : l.length ≤ 1000) (hst : storeL l = true) : ∀ env : Env, elen env = a48.ntmps → (∀ i x_, [vl][i]? = some x_ → E env i = x_) → awp (tb [(62, conL ndC fValid), (69, conF dotC (pL ndC gDots)), (68, R_COf)]) a48.body (fun x e t => (∀ i, x ≠ .exit i) ∧ ∃ r, aresults e t a48.results = some r ∧ (∃ vv cc, r = .tup [.agg [vv, cc], .int .i64 0] ∧ CR t vv cc (addC ⟨[], []⟩ (l.map Nd.d))) ∧ Keep s t) env s := by
  intro env hlen ha
  have h0 : E env 0 = _ := ha 0 _ rfl
  have hlen : elen env = _ := hlen
  simp only [a48] at hlen
  unfold a48
  try dsimp only [oO, oG]
  have hK1 : Keep s (s.push (.row [.nils, .nils] true)) := (Keep.refl s).push _
  have qv := q_StValid false (hK1.read hr) (by unfold lim; omega)
  rw [hst] at qv
  obtain ⟨u1, t1, hd, hKd, hOd⟩ := fresh_L (D := dotC) (f := gDots) (hK1.read hr) (by unfold lim; omega) rfl (by simp)
  rw [mkR_none] at hd
  obtain ⟨vv, cc, t3, q1, hR, hKc⟩ := q_COf hOd.read (by rw [List.length_map]; omega) (dots_valid hst fun x hx => hx)
  have hKr := hKd.trans hKc
  have hrb : t3.get (s).next = some (.row [.nils, .nils] true) := hKr.blk (St.get_push_new (s) _)
  have hstr := sto_row2 hrb (read_oneD hR.1).2 (read_oneD hR.2).2
  have hlr := St.get_lt hrb
  have hlo : lod (t3.put (s).next (.row [vv, cc] true)) 2 (.ptr (s).next 0) = some (.agg [vv, cc]) := lod_row2 (St.get_put_same hrb)
  skip
  simp (config := {contextual := true, maxDischargeDepth := 12}) only [tb_at, h0, hlen, qv, hd, q1, ap_build, fillP_nil, rc2, hstr, hlo, notV_bool, Bool.not_true, ↓bD, bU, forall_const, bS, implies_true, isNx, eq_self, ↓wp_cond, ↓wp_loop, ↓reduceIte, reduceCtorEq, Nat.reduceEqDiff, Nat.reduceLT, Nat.reduceAdd, Nat.reduceMul, bT, ↓sg_bsl, ↓st_callf, bX, List.cons_append, List.nil_append, ↓st_appf, bY, slcV_nils0N, slcV_sl0N, bslV_0N, bin_shr1, bsl_nd, q_known]
  exact ⟨_, rfl, ⟨vv, cc, rfl, cr_put hrb (by intro k n h; cases h) hR⟩, (hK1.trans hKr).put _ (by simp) hlr⟩
theorem q_SCtx {s : St} {vl : AV} {l : List Nd} (hr : read ndC s vl = some l) (hl : l.length ≤ 1000) (hst : storeL l = true) : ∃ vv cc t, acall R_SCtx false [vl] s = some (.tup [.agg [vv, cc], .int .i64 0], t) ∧ CR t vv cc (addC ⟨[], []⟩ (l.map Nd.d)) ∧ Keep s t := by
  obtain ⟨r, t, h1, ⟨vv, cc, rfl, h2⟩, h3⟩ := run_any n_SCtx (args := [vl]) (Q := fun r t => ∃ vv cc, r = .tup [.agg [vv, cc], .int .i64 0] ∧ CR t vv cc (addC ⟨[], []⟩ (l.map Nd.d))) (by simp [a48]) (fun r t t' hg hn ⟨vv, cc, e, h⟩ => ⟨vv, cc, e, h.mono fun id b hb => by rw [hg]; exact hb⟩) (fun r t hgr hk ⟨vv, cc, e, h⟩ => ⟨vv, cc, e, by
    rw [e] at hgr
    exact h.ground (plain_ground (ground_tup hgr).1) (plain_ground (ground_tup hgr).2)⟩) (w_SCtx (s := lowd s) (read_low' hr) hl hst)
  exact ⟨vv, cc, t, h1, h2, h3⟩
noncomputable def R_SDead : Con := runFn (tb [(62, conL ndC fValid), (71, R_SClN), (70, R_DelN), (69, conF dotC (pL ndC gDots)), (68, R_COf)]) a49
theorem s_SDead : SoundAt Tryz.prog 49 R_SDead := run_sound (tb_sound (l := [(62, conL ndC fValid), (71, R_SClN), (70, R_DelN), (69, conF dotC (pL ndC gDots)), (68, R_COf)]) (by simpa using ⟨s_StValid, s_SClN, s_DelN, s_Dots, s_COf⟩)) mixed Tryz.func49 k49 c49
theorem n_SDead : noNxtC a49.body = true := by kernel_rfl
theorem w_SDead {s : St} {vl : AV} {l : List Nd} (hr : read ndC s vl = some l) (hl : l.length ≤ 1000) (hst : storeL l = true) : ∀ env : Env, elen env = a49.ntmps → (∀ i x_, [vl][i]? = some x_ → E env i = x_) → awp (tb [(62, conL ndC fValid), (71, R_SClN), (70, R_DelN), (69, conF dotC (pL ndC gDots)), (68, R_COf)]) a49.body (fun x e t => (∀ i, x ≠ .exit i) ∧ ∃ r, aresults e t a49.results = some r ∧ (∃ vv cc, r = .tup [.agg [vv, cc], .int .i64 0] ∧ CR t vv cc (addC ⟨[], []⟩ ((deadL l).map Nd.d))) ∧ Keep s t) env s := by
  intro env hlen ha
  have h0 : E env 0 = _ := ha 0 _ rfl
  have hlen : elen env = _ := hlen
  simp only [a49] at hlen
  unfold a49
  try dsimp only [oO, oG]
  have hK1 : Keep s (s.push (.row [.nils, .nils] true)) := (Keep.refl s).push _
  have qv := q_StValid false (hK1.read hr) (by unfold lim; omega)
  rw [hst] at qv
  obtain ⟨w0, tc, qc, ⟨hN0, hcap⟩, hKc0⟩ := q_SClN (hK1.read hr) (by unfold lim; omega)
  obtain ⟨w1, td, qx, hN1, hC1⟩ := q_DelN hN0.nw hcap (by unfold lim; omega) (g := 72) (caps := []) (fun n => !decide (n.x = 0)) (fun t d _ => q_DeadF false d) (fun t d _ => q_DeadF false d)
  have hE : l.filter (fun d => !!decide (d.x = 0)) = deadL l := by simp [deadL]
  rw [hE] at hN1
  have hKd0 := hKc0.chgn hC1 (newX_vids hN0)
  have hdl : (deadL l).length ≤ 1000 := Nat.le_trans (List.length_filter_le _ _) hl
  obtain ⟨u1, t1, hd, hKd, hOd⟩ := fresh_L (D := dotC) (f := gDots) hN1.read (by unfold lim; omega) rfl (by simp)
  rw [mkR_none] at hd
  obtain ⟨vv, cc, t3, q1, hR, hKc⟩ := q_COf hOd.read (by rw [List.length_map]; omega) (dots_valid hst fun x hx => (List.mem_filter.1 hx).1)
  have hKr := (hKd0.trans hKd).trans hKc
  have hrb : t3.get (s).next = some (.row [.nils, .nils] true) := hKr.blk (St.get_push_new (s) _)
  have hstr := sto_row2 hrb (read_oneD hR.1).2 (read_oneD hR.2).2
  have hlr := St.get_lt hrb
  have hlo : lod (t3.put (s).next (.row [vv, cc] true)) 2 (.ptr (s).next 0) = some (.agg [vv, cc]) := lod_row2 (St.get_put_same hrb)
  skip
  simp (config := {contextual := true, maxDischargeDepth := 12}) only [tb_at, h0, hlen, qv, hd, q1, qc, qx, ap_build, fillP_nil, rc2, hstr, hlo, notV_bool, Bool.not_true, ↓bD, bU, forall_const, bS, implies_true, isNx, eq_self, ↓wp_cond, ↓wp_loop, ↓reduceIte, reduceCtorEq, Nat.reduceEqDiff, Nat.reduceLT, Nat.reduceAdd, Nat.reduceMul, bT, ↓sg_bsl, ↓st_callf, bX, List.cons_append, List.nil_append, ↓st_appf, bY, slcV_nils0N, slcV_sl0N, bslV_0N, bin_shr1, bsl_nd, q_known]
  exact ⟨_, rfl, ⟨vv, cc, rfl, cr_put hrb (by intro k n h; cases h) hR⟩, (hK1.trans hKr).put _ (by simp) hlr⟩
theorem q_SDead {s : St} {vl : AV} {l : List Nd} (hr : read ndC s vl = some l) (hl : l.length ≤ 1000) (hst : storeL l = true) : ∃ vv cc t, acall R_SDead false [vl] s = some (.tup [.agg [vv, cc], .int .i64 0], t) ∧ CR t vv cc (addC ⟨[], []⟩ ((deadL l).map Nd.d)) ∧ Keep s t := by
  obtain ⟨r, t, h1, ⟨vv, cc, rfl, h2⟩, h3⟩ := run_any n_SDead (args := [vl]) (Q := fun r t => ∃ vv cc, r = .tup [.agg [vv, cc], .int .i64 0] ∧ CR t vv cc (addC ⟨[], []⟩ ((deadL l).map Nd.d))) (by simp [a49]) (fun r t t' hg hn ⟨vv, cc, e, h⟩ => ⟨vv, cc, e, h.mono fun id b hb => by rw [hg]; exact hb⟩) (fun r t hgr hk ⟨vv, cc, e, h⟩ => ⟨vv, cc, e, by
    rw [e] at hgr
    exact h.ground (plain_ground (ground_tup hgr).1) (plain_ground (ground_tup hgr).2)⟩) (w_SDead (s := lowd s) (read_low' hr) hl hst)
  exact ⟨vv, cc, t, h1, h2, h3⟩
end Go.AM
end
/-
  Plain laws of contexts as the references of layers 14 and 16 make them. Own work of this project.
-/
section
namespace Go.AM
open Go Go.Proofs

/-- A dot is there, whether it is valid or not. -/
def jhas (x : DCx) (d : Dot) : Bool := decide (d.c ≤ vget x.v d.r) || decide (d ∈ x.c)
theorem jhas_chas {x : DCx} {d : Dot} (h : d.valid = true) : jhas x d = chas x d := by
  unfold jhas chas
  rw [h, Bool.true_and]
/-- The reference's way to say that one compact context is within another one. -/
def jwithin (a b : DCx) : Bool := (a.v.all fun d => decide (d.c ≤ vget b.v d.r)) && a.c.all (jhas b)
theorem jwithin_iff {a b : DCx} (ha : isC a = true) (hb : isC b = true) : jwithin a b = true ↔ subC a b := by
  have ca := ((isC_iff a).1 ha).1
  obtain ⟨va, _, wa⟩ := (cvalid_iff a).1 ca
  rw [← rwithin_iff ca ((isC_iff b).1 hb).1]
  unfold jwithin rwithin
  rw [comp_id hb, Bool.and_eq_true, Bool.and_eq_true, List.all_eq_true, List.all_eq_true, List.all_eq_true, List.all_eq_true]
  have hv := ((vvalid_iff a.v).1 va).2
  constructor
  · rintro ⟨q1, q2⟩
    refine ⟨fun d hd => by rw [← jhas_chas (wa d hd)]; exact q2 d hd, fun d hd => ?_⟩
    unfold vhas
    rw [hv d hd, Bool.true_and]
    exact q1 d hd
  · rintro ⟨q1, q2⟩
    refine ⟨fun d hd => ?_, fun d hd => by rw [jhas_chas (wa d hd)]; exact q1 d hd⟩
    have := q2 d hd
    unfold vhas at this
    rw [hv d hd, Bool.true_and] at this
    exact this
/-! ### Vectors by replica -/
def vecL (f : Nat → Nat) (n : Nat) : List Dot := (List.range n).filterMap fun k => if 0 < f (k + 1) then some ⟨((k + 1 : Nat) : Int), (f (k + 1) : Int)⟩ else none
theorem vecL_succ (f : Nat → Nat) (n : Nat) : vecL f (n + 1) = vecL f n ++ (if 0 < f (n + 1) then [⟨((n + 1 : Nat) : Int), (f (n + 1) : Int)⟩] else []) := by
  unfold vecL
  rw [List.range_succ, List.filterMap_append]
  congr 1
  by_cases h : 0 < f (n + 1)
  · rw [if_pos h]; simp [h]
  · rw [if_neg h]; simp [h]
theorem vecL_len (f : Nat → Nat) : ∀ n, (vecL f n).length ≤ n
  | 0 => Nat.le_refl _
  | n + 1 => by
    rw [vecL_succ, List.length_append]
    have := vecL_len f n
    split <;> simp <;> omega
theorem vecL_mem {f : Nat → Nat} {n : Nat} {d : Dot} (h : d ∈ vecL f n) : ∃ k, k < n ∧ 0 < f (k + 1) ∧ d = ⟨((k + 1 : Nat) : Int), (f (k + 1) : Int)⟩ := by
  unfold vecL at h
  obtain ⟨k, hk, he⟩ := List.mem_filterMap.1 h
  split at he
  · rename_i h0
    injection he with he
    exact ⟨k, List.mem_range.1 hk, h0, he.symm⟩
  · cases he
theorem vecL_srt (f : Nat → Nat) : ∀ n, VSrt (vecL f n)
  | 0 => .nil
  | n + 1 => by
    rw [vecL_succ]
    refine List.pairwise_append.2 ⟨vecL_srt f n, ?_, fun a ha b hb => ?_⟩
    · split
      · exact List.pairwise_singleton _ _
      · exact .nil
    · obtain ⟨k, hk, _, rfl⟩ := vecL_mem ha
      split at hb
      · rw [List.mem_singleton.1 hb]
        simp only [vlt, decide_eq_true_eq]
        omega
      · cases hb
theorem vecL_get (f : Nat → Nat) (n k : Nat) : vget (vecL f n) ((k + 1 : Nat) : Int) = if k < n then (f (k + 1) : Int) else 0 := by
  by_cases hk : k < n
  · rw [if_pos hk]
    by_cases h0 : 0 < f (k + 1)
    · have hm : (⟨((k + 1 : Nat) : Int), (f (k + 1) : Int)⟩ : Dot) ∈ vecL f n := by
        unfold vecL
        exact List.mem_filterMap.2 ⟨k, List.mem_range.2 hk, by rw [if_pos h0]⟩
      exact vget_mem (vecL_srt f n) hm
    · rw [vget_none fun x hx e => ?_]
      · omega
      · obtain ⟨j, _, h1, rfl⟩ := vecL_mem hx
        simp only at e
        have : j = k := by omega
        subst this
        exact h0 h1
  · rw [if_neg hk]
    refine vget_none fun x hx e => ?_
    obtain ⟨j, h1, _, rfl⟩ := vecL_mem hx
    simp only at e
    omega
theorem vecL_valid {f : Nat → Nat} (h : ∀ k, f k ≤ 4294967295) : vvalid (vecL f 64) = true := by
  refine (vvalid_iff _).2 ⟨vecL_srt f 64, fun x hx => ?_⟩
  obtain ⟨k, h1, h2, rfl⟩ := vecL_mem hx
  have := h (k + 1)
  exact (valid_iff _).2 ⟨by simp only; omega, by simp only; omega, by simp only; omega, by simp only; omega⟩

/-! ### The context of dots in order -/
/-- How far a replica's dots go without a gap, the list gone through once. -/
def runL (r : Int) (n : Nat) (l : List Dot) : Nat := l.foldl (fun n d => if d.r = r ∧ d.c = ((n + 1 : Nat) : Int) then n + 1 else n) n
theorem runL_cons (r : Int) (n : Nat) (d : Dot) (l : List Dot) : runL r n (d :: l) = runL r (if d.r = r ∧ d.c = ((n + 1 : Nat) : Int) then n + 1 else n) l := rfl
theorem runL_snoc {r : Int} {l : List Dot} {i : Nat} {d : Dot} (hx : l[i]? = some d) : runL r 0 (l.take (i + 1)) = if d.r = r ∧ d.c = ((runL r 0 (l.take i) + 1 : Nat) : Int) then runL r 0 (l.take i) + 1 else runL r 0 (l.take i) := by
  have : l.take (i + 1) = l.take i ++ [d] := by rw [List.take_add_one, hx]; rfl
  rw [this]
  unfold runL
  rw [List.foldl_append]
  rfl
theorem runL_up (r : Int) : ∀ (l : List Dot) (n : Nat), n ≤ runL r n l ∧ ∀ k : Nat, n < k → k ≤ runL r n l → (⟨r, (k : Int)⟩ : Dot) ∈ l
  | [], n => ⟨Nat.le_refl _, fun k h1 h2 => by simp only [runL, List.foldl_nil] at h2; omega⟩
  | d :: l, n => by
    rw [runL_cons]
    by_cases hd : d.r = r ∧ d.c = ((n + 1 : Nat) : Int)
    · rw [if_pos hd]
      obtain ⟨h1, h2⟩ := runL_up r l (n + 1)
      refine ⟨by omega, fun k h3 h4 => ?_⟩
      by_cases hk : k = n + 1
      · subst hk
        have : d = ⟨r, ((n + 1 : Nat) : Int)⟩ := by
          obtain ⟨dr, dc⟩ := d
          simp only at hd
          rw [hd.1, hd.2]
        rw [← this]
        exact List.mem_cons_self
      · exact List.mem_cons_of_mem _ (h2 k (by omega) h4)
    · rw [if_neg hd]
      obtain ⟨h1, h2⟩ := runL_up r l n
      exact ⟨h1, fun k h3 h4 => List.mem_cons_of_mem _ (h2 k h3 h4)⟩
theorem before_same {a b : Dot} (h : a.before b = true) (e : a.r = b.r) : a.c < b.c := by
  simp only [Dot.before, Bool.or_eq_true, Bool.and_eq_true, decide_eq_true_eq] at h
  omega
theorem runL_stop (r : Int) : ∀ (l : List Dot) (n : Nat), Srt l → (∀ d ∈ l, d.r = r → (n : Int) < d.c) → (⟨r, ((runL r n l + 1 : Nat) : Int)⟩ : Dot) ∉ l
  | [], n, _, _ => by simp
  | d :: l, n, hs, hn => by
    obtain ⟨h1, h2⟩ := srt_cons.1 hs
    rw [runL_cons]
    by_cases hd : d.r = r ∧ d.c = ((n + 1 : Nat) : Int)
    · rw [if_pos hd]
      have hn' : ∀ x ∈ l, x.r = r → ((n + 1 : Nat) : Int) < x.c := fun x hx e => by
        have := before_same (h1 x hx) (by rw [hd.1, e])
        omega
      have ih := runL_stop r l (n + 1) h2 hn'
      intro hm
      rcases List.mem_cons.1 hm with hm | hm
      · have h3 := (runL_up r l (n + 1)).1
        rw [← hm] at hd
        simp only at hd
        omega
      · exact ih hm
    · rw [if_neg hd]
      have ih := runL_stop r l n h2 fun x hx e => hn x (List.mem_cons_of_mem _ hx) e
      intro hm
      rcases List.mem_cons.1 hm with hm | hm
      · have hdr : d.r = r := by rw [← hm]
        have hgt := hn d List.mem_cons_self hdr
        obtain ⟨h3, h4⟩ := runL_up r l n
        by_cases hrun : runL r n l = n
        · rw [hrun] at hm
          exact hd ⟨hdr, by rw [← hm]⟩
        · have := h4 (n + 1) (by omega) (by omega)
          have h5 := before_same (h1 _ this) (by rw [hdr])
          have hdc : d.c = ((runL r n l + 1 : Nat) : Int) := by rw [← hm]
          simp only at h5
          omega
      · exact ih hm
/-- The reference's context. -/
def ctxV (l : List Dot) : List Dot := vecL (fun r => runL (r : Int) 0 l) 64
def ctxL (l : List Dot) : DCx := ⟨ctxV l, l.filter fun d => decide (vget (ctxV l) d.r < d.c)⟩
theorem ctxV_get (l : List Dot) {r : Int} (h : 1 ≤ r ∧ r ≤ 64) : vget (ctxV l) r = (runL r 0 l : Int) := by
  have e : r = ((r.toNat - 1 + 1 : Nat) : Int) := by omega
  rw [e]
  unfold ctxV
  rw [vecL_get, if_pos (by omega)]
theorem runL_le {l : List Dot} (hv : l.all Dot.valid = true) (r : Int) : runL r 0 l ≤ 4294967295 := by
  by_cases h0 : runL r 0 l = 0
  · omega
  · have := (runL_up r l 0).2 (runL r 0 l) (by omega) (Nat.le_refl _)
    have := (valid_iff _).1 (chas_all hv _ this)
    simp only at this
    omega
theorem ctxL_eq {l : List Dot} (hs : Srt l) (hv : l.all Dot.valid = true) : ctxL l = addC ⟨[], []⟩ l := by
  have h0 : cvalid ⟨[], []⟩ = true := rfl
  have hval := chas_all hv
  have hvv : vvalid (ctxV l) = true := vecL_valid fun k => runL_le hv _
  have hisC : isC (ctxL l) = true := by
    refine (isC_iff _).2 ⟨(cvalid_iff _).2 ⟨hvv, hs.filter _, fun d hd => hval d (List.mem_filter.1 hd).1⟩, fun d hd => ?_⟩
    obtain ⟨hd1, hd2⟩ := List.mem_filter.1 hd
    simp only [decide_eq_true_eq] at hd2
    have hb := (valid_iff d).1 (hval d hd1)
    show vget (ctxV l) d.r + 1 < d.c
    rw [ctxV_get l ⟨hb.1, hb.2.1⟩] at hd2 ⊢
    have hst := runL_stop d.r l 0 hs fun x hx _ => by have := (valid_iff x).1 (hval x hx); omega
    rcases Int.lt_or_eq_of_le (show (runL d.r 0 l : Int) + 1 ≤ d.c by omega) with h | h
    · exact h
    · exfalso
      refine hst ?_
      have : (⟨d.r, ((runL d.r 0 l + 1 : Nat) : Int)⟩ : Dot) = d := by
        obtain ⟨dr, dc⟩ := d
        simp only at h ⊢
        rw [← h]
        simp
      rw [this]
      exact hd1
  refine isC_ext hisC (add_isC h0 hv) fun d => ?_
  rw [add_has h0 hv]
  have he : chas ⟨[], []⟩ d = false := by
    unfold chas
    cases hd : d.valid
    · rfl
    · have := (valid_iff d).1 hd
      have h1 : ¬ d.c ≤ vget (⟨[], []⟩ : DCx).v d.r := by show ¬ d.c ≤ 0; omega
      rw [decide_eq_false h1]
      simp
  rw [he, Bool.false_or]
  unfold chas
  cases hd : d.valid
  · rfl
  · have hb := (valid_iff d).1 hd
    rw [Bool.true_and, Bool.true_and, Bool.eq_iff_iff]
    simp only [Bool.or_eq_true, decide_eq_true_eq]
    show d.c ≤ vget (ctxV l) d.r ∨ d ∈ l.filter _ ↔ d ∈ l
    rw [List.mem_filter, decide_eq_true_eq]
    constructor
    · rintro (h | h)
      · rw [ctxV_get l ⟨hb.1, hb.2.1⟩] at h
        have := (runL_up d.r l 0).2 d.c.toNat (by omega) (by omega)
        have e : (⟨d.r, (d.c.toNat : Int)⟩ : Dot) = d := by
          obtain ⟨dr, dc⟩ := d
          simp only at hb ⊢
          congr 1
          omega
        rwa [e] at this
      · exact h.1
    · intro h
      by_cases hc : d.c ≤ vget (ctxV l) d.r
      · exact .inl hc
      · exact .inr ⟨h, by omega⟩

/-! ### Two contexts together -/
/-- What a union's vector says. -/
structure UniV (a b : DCx) (f : Nat → Nat) : Prop where
  low : ∀ k : Nat, 1 ≤ k → k ≤ 64 → vget a.v (k : Int) ≤ (f k : Int) ∧ vget b.v (k : Int) ≤ (f k : Int)
  fill : ∀ k j : Nat, 1 ≤ k → k ≤ 64 → 1 ≤ j → j ≤ f k → jhas a ⟨(k : Int), (j : Int)⟩ = true ∨ jhas b ⟨(k : Int), (j : Int)⟩ = true
  stop : ∀ k : Nat, 1 ≤ k → k ≤ 64 → jhas a ⟨(k : Int), ((f k + 1 : Nat) : Int)⟩ = false ∧ jhas b ⟨(k : Int), ((f k + 1 : Nat) : Int)⟩ = false
  high : ∀ k, f k ≤ 4294967295
/-! ### Digests -/
structure DDg where
  all : DCx
  gone : DCx
  deriving DecidableEq
def dgV (d : DDg) : Bool := isC d.all && (isC d.gone && jwithin d.gone d.all)
def lackD (d : DDg) (n : Nd) : Bool := !jhas d.all n.d || (decide (n.x = 0) && !jhas d.gone n.d)
def diffD (s : List Nd) (d : DDg) : List Nd := s.filter (lackD d)
end Go.AM
end
/-
  Contexts as the reference of layer 14 looks at them. Own work of this project; in part printed by a program of it.
-/
section
set_option maxRecDepth 100000
set_option maxHeartbeats 8000000
namespace Go.AM
open Go Go.Proofs

variable {s t u : St}
noncomputable def R_JLast : Con := runFn (tb []) a55
theorem s_JLast : SoundAt Tryz.prog 55 R_JLast := run_sound (tb_sound (l := []) (by simp)) mixed Tryz.func55 k55 c55
theorem n_JLast : noNxtC a55.body = true := by kernel_rfl
theorem w_JLast {s : St} {v : AV} {l : List Dot} (hr : read dotC s v = some l) (hl : l.length ≤ lim) (q : Int) : ∀ env : Env, elen env = a55.ntmps → (∀ i x_, [v, .int .i64 q][i]? = some x_ → E env i = x_) → awp (tb []) a55.body (fun x e t => (∀ i, x ≠ .exit i) ∧ aresults e t a55.results = some (.int .i64 (vget l q)) ∧ Keep s t) env s := by
  intro env hlen ha
  have h0 : E env 0 = _ := ha 0 _ rfl
  have h1 : E env 1 = _ := ha 1 _ rfl
  have hlen : elen env = _ := hlen
  simp only [a55] at hlen
  unfold a55
  try dsimp only [oO, oG]
  have hL := lenV_read hr
  simp (config := {contextual := true, maxDischargeDepth := 12}) only [tb_at, h0, h1, hlen, hL, ↓bD, bU, forall_const, bS, implies_true, isNx, eq_self, ↓wp_cond, ↓wp_loop, ↓reduceIte, reduceCtorEq, Nat.reduceEqDiff, Nat.reduceLT, Nat.reduceAdd, Nat.reduceMul, bT, ↓sg_bsl, ↓st_callf, bX, ap_mkfn, ae_callvV, callvV_fn, List.cons_append, List.nil_append, boxV_i]
  obtain ⟨I, hI⟩ : ∃ I : Nat → Env → St → Prop, ∀ n e t, I n e t = (t = s ∧ ∃ i : Nat, n + i = l.length ∧ elen e = 24 ∧ E e 0 = v ∧ E e 1 = .int .i64 q ∧ E e 5 = .int .i64 (i : Int) ∧ ∀ k y, k < i → l[k]? = some y → y.r ≠ q) := ⟨fun n e t => (t = s ∧ ∃ i : Nat, n + i = l.length ∧ elen e = 24 ∧ E e 0 = v ∧ E e 1 = .int .i64 q ∧ E e 5 = .int .i64 (i : Int) ∧ ∀ k y, k < i → l[k]? = some y → y.r ≠ q), fun _ _ _ => rfl⟩
  refine lwp_inv I (n := l.length) ?_ ?_
  · rw [hI]
    exact ⟨rfl, 0, by omega, (by simp only [bE, Nat.reduceEqDiff, bN, Nat.reduceLT, hlen]; try rfl), (by simp only [bE, Nat.reduceEqDiff, bN, Nat.reduceLT, hlen, h0]; try rfl), (by simp only [bE, Nat.reduceEqDiff, bN, Nat.reduceLT, hlen, h1]; try rfl), (by simp only [bE, Nat.reduceEqDiff, bN, Nat.reduceLT, hlen]; try rfl), fun k y hk => by omega⟩
  intro n e t hi
  rw [hI] at hi
  obtain ⟨hK, i, hni, he, e0, e1, e5, hpre⟩ := hi
  subst hK
  by_cases hlt : i < l.length
  · obtain ⟨x, hx⟩ := getsome hlt
    have hw2 := wrap_add1 (n := i) (by unfold lim at hl; omega)
    obtain ⟨a1, a2, a3, a4⟩ := dot_lods hr (.refl _) hx
    have i1 := dot_idx hr hx .i64
    by_cases hp : x.r = q
    · have hz := eq_true hp
      have hS := vget_hit hx hp hpre
      simp (config := {contextual := true, maxDischargeDepth := 12}) only [tb_at, he, e0, e1, e5, hL, hlt, hw2, a1, a2, a3, i1, hz, hS, ↓bD, bU, forall_const, bS, implies_true, isNx, eq_self, ↓wp_cond, ↓wp_loop, ↓reduceIte, reduceCtorEq, Nat.reduceEqDiff, Nat.reduceLT, Nat.reduceAdd, Nat.reduceMul, bT, ↓sg_bsl, ↓st_callf, bX, ap_mkfn, ae_callvV, callvV_fn, List.cons_append, List.nil_append, boxV_i]
      all_goals first | exact .refl _ | skip
    · have hz := eq_false hp
      simp (config := {contextual := true, maxDischargeDepth := 12}) only [tb_at, he, e0, e1, e5, hL, hlt, hw2, a1, a2, a3, i1, hz, ↓bD, bU, forall_const, bS, implies_true, isNx, eq_self, ↓wp_cond, ↓wp_loop, ↓reduceIte, reduceCtorEq, Nat.reduceEqDiff, Nat.reduceLT, Nat.reduceAdd, Nat.reduceMul, bT, ↓sg_bsl, ↓st_callf, bX, ap_mkfn, ae_callvV, callvV_fn, List.cons_append, List.nil_append, boxV_i]
      refine ⟨n - 1, by omega, ?_⟩
      rw [hI]
      exact ⟨rfl, i + 1, by omega, (by simp only [bE, Nat.reduceEqDiff, bN, Nat.reduceLT, he, e0, e1, e5]; try rfl), (by simp only [bE, Nat.reduceEqDiff, bN, Nat.reduceLT, he, e0, e1, e5]; try rfl), (by simp only [bE, Nat.reduceEqDiff, bN, Nat.reduceLT, he, e0, e1, e5]; try rfl), (by simp only [bE, Nat.reduceEqDiff, bN, Nat.reduceLT, he, e0, e1, e5]; try rfl), pre_next (P := fun k y => y.r ≠ q) hx hpre hp⟩
  · obtain rfl : i = l.length := by omega
    have hS : vget l q = 0 := vget_none fun x hx => by
      obtain ⟨k, hk⟩ := List.getElem?_of_mem hx
      exact hpre k x (getlt hk) hk
    simp (config := {contextual := true, maxDischargeDepth := 12}) only [tb_at, he, e0, e1, e5, hL, hlt, hS, ↓bD, bU, forall_const, bS, implies_true, isNx, eq_self, ↓wp_cond, ↓wp_loop, ↓reduceIte, reduceCtorEq, Nat.reduceEqDiff, Nat.reduceLT, Nat.reduceAdd, Nat.reduceMul, bT, ↓sg_bsl, ↓st_callf, bX, ap_mkfn, ae_callvV, callvV_fn, List.cons_append, List.nil_append, boxV_i]
    all_goals first | exact .refl _ | skip
theorem q_JLast (cl : Bool) {s : St} {v : AV} {l : List Dot} (hr : read dotC s v = some l) (hl : l.length ≤ lim) (q : Int) : acall R_JLast cl [v, .int .i64 q] s = some (.int .i64 (vget l q), s) := run_same n_JLast (by simp [a55]) rfl (w_JLast (s := lowd s) (read_low' hr) hl q)
noncomputable def R_JSameD : Con := runFn (tb []) a67
theorem s_JSameD : SoundAt Tryz.prog 67 R_JSameD := run_sound (tb_sound (l := []) (by simp)) mixed Tryz.func67 k67 c67
theorem n_JSameD : noNxtC a67.body = true := by kernel_rfl
theorem w_JSameD {s : St} {v : AV} {l : List Dot} (hr : read dotC s v = some l) (hl : l.length ≤ lim) {w : AV} {m : List Dot} (hrw : read dotC s w = some m) (hm : m.length ≤ lim) : ∀ env : Env, elen env = a67.ntmps → (∀ i x_, [v, w][i]? = some x_ → E env i = x_) → awp (tb []) a67.body (fun x e t => (∀ i, x ≠ .exit i) ∧ aresults e t a67.results = some (.bool (decide (l = m))) ∧ Keep s t) env s := by
  intro env hlen ha
  have h0 : E env 0 = _ := ha 0 _ rfl
  have h1 : E env 1 = _ := ha 1 _ rfl
  have hlen : elen env = _ := hlen
  simp only [a67] at hlen
  unfold a67
  try dsimp only [oO, oG]
  have hL := lenV_read hr
  have hM := lenV_read hrw
  by_cases hlm : l.length = m.length
  · have hz : ((l.length : Int) = (m.length : Int)) = True := eq_true (by omega)
    simp (config := {contextual := true, maxDischargeDepth := 12}) only [tb_at, h0, h1, hlen, hL, hM, hz, ↓bD, bU, forall_const, bS, implies_true, isNx, eq_self, ↓wp_cond, ↓wp_loop, ↓reduceIte, reduceCtorEq, Nat.reduceEqDiff, Nat.reduceLT, Nat.reduceAdd, Nat.reduceMul, bT, ↓sg_bsl, ↓st_callf, bX, ap_mkfn, ae_callvV, callvV_fn, List.cons_append, List.nil_append, boxV_i]
    obtain ⟨I, hI⟩ : ∃ I : Nat → Env → St → Prop, ∀ n e t, I n e t = (t = s ∧ ∃ i : Nat, n + i = l.length ∧ elen e = 26 ∧ E e 0 = v ∧ E e 1 = w ∧ E e 5 = .int .i64 (i : Int) ∧ ∀ k y, k < i → l[k]? = some y → m[k]? = some y) := ⟨fun n e t => (t = s ∧ ∃ i : Nat, n + i = l.length ∧ elen e = 26 ∧ E e 0 = v ∧ E e 1 = w ∧ E e 5 = .int .i64 (i : Int) ∧ ∀ k y, k < i → l[k]? = some y → m[k]? = some y), fun _ _ _ => rfl⟩
    refine lwp_inv I (n := l.length) ?_ ?_
    · rw [hI]
      exact ⟨rfl, 0, by omega, (by simp only [bE, Nat.reduceEqDiff, bN, Nat.reduceLT, hlen]; try rfl), (by simp only [bE, Nat.reduceEqDiff, bN, Nat.reduceLT, hlen, h0]; try rfl), (by simp only [bE, Nat.reduceEqDiff, bN, Nat.reduceLT, hlen, h1]; try rfl), (by simp only [bE, Nat.reduceEqDiff, bN, Nat.reduceLT, hlen]; try rfl), fun k y hk => by omega⟩
    intro n e t hi
    rw [hI] at hi
    obtain ⟨hK, i, hni, he, e0, e1, e5, hpre⟩ := hi
    subst hK
    by_cases hlt : i < l.length
    · obtain ⟨x, hx⟩ := getsome hlt
      obtain ⟨y, hy⟩ := getsome (l := m) (i := i) (by omega)
      have hw2 := wrap_add1 (n := i) (by unfold lim at hl; omega)
      obtain ⟨a1, a2, a3, a4⟩ := dot_lods hr (.refl _) hx
      have i1 := dot_idx hr hx .i64
      obtain ⟨b1, b2, b3, b4⟩ := dot_lods hrw (.refl _) hy
      have i2 := dot_idx hrw hy .i64
      by_cases hp : x = y
      · have hz := eq_true hp
        simp (config := {contextual := true, maxDischargeDepth := 12}) only [tb_at, he, e0, e1, e5, hL, hM, hlt, hw2, a1, i1, b1, i2, hz, reserve0, ↓bD, bU, forall_const, bS, implies_true, isNx, eq_self, ↓wp_cond, ↓wp_loop, ↓reduceIte, reduceCtorEq, Nat.reduceEqDiff, Nat.reduceLT, Nat.reduceAdd, Nat.reduceMul, bT, ↓sg_bsl, ↓st_callf, bX, ap_mkfn, ae_callvV, callvV_fn, List.cons_append, List.nil_append, boxV_i]
        refine ⟨n - 1, by omega, ?_⟩
        rw [hI]
        exact ⟨rfl, i + 1, by omega, (by simp only [bE, Nat.reduceEqDiff, bN, Nat.reduceLT, he, e0, e1, e5]; try rfl), (by simp only [bE, Nat.reduceEqDiff, bN, Nat.reduceLT, he, e0, e1, e5]; try rfl), (by simp only [bE, Nat.reduceEqDiff, bN, Nat.reduceLT, he, e0, e1, e5]; try rfl), (by simp only [bE, Nat.reduceEqDiff, bN, Nat.reduceLT, he, e0, e1, e5]; try rfl), pre_next (P := fun k y => m[k]? = some y) hx hpre (by rw [hp]; exact hy)⟩
      · have hz := eq_false hp
        have hS : decide (l = m) = false := decide_eq_false (ne_at hx hy hp)
        simp (config := {contextual := true, maxDischargeDepth := 12}) only [tb_at, he, e0, e1, e5, hL, hM, hlt, hw2, a1, i1, b1, i2, hz, hS, reserve0, ↓bD, bU, forall_const, bS, implies_true, isNx, eq_self, ↓wp_cond, ↓wp_loop, ↓reduceIte, reduceCtorEq, Nat.reduceEqDiff, Nat.reduceLT, Nat.reduceAdd, Nat.reduceMul, bT, ↓sg_bsl, ↓st_callf, bX, ap_mkfn, ae_callvV, callvV_fn, List.cons_append, List.nil_append, boxV_i]
        all_goals first | exact .refl _ | skip
    · obtain rfl : i = l.length := by omega
      have hS : decide (l = m) = true := decide_eq_true (eq_of_at hlm fun k x y hx hy => by
        have := hpre k x (getlt hx) hx
        rw [hy] at this
        exact (Option.some.inj this).symm)
      simp (config := {contextual := true, maxDischargeDepth := 12}) only [tb_at, he, e0, e1, e5, hL, hM, hlt, hS, ↓bD, bU, forall_const, bS, implies_true, isNx, eq_self, ↓wp_cond, ↓wp_loop, ↓reduceIte, reduceCtorEq, Nat.reduceEqDiff, Nat.reduceLT, Nat.reduceAdd, Nat.reduceMul, bT, ↓sg_bsl, ↓st_callf, bX, ap_mkfn, ae_callvV, callvV_fn, List.cons_append, List.nil_append, boxV_i]
      all_goals first | exact .refl _ | skip
  · have hz : ((l.length : Int) = (m.length : Int)) = False := eq_false (by omega)
    have hS : decide (l = m) = false := decide_eq_false fun h => hlm (by rw [h])
    simp (config := {contextual := true, maxDischargeDepth := 12}) only [tb_at, h0, h1, hlen, hL, hM, hz, hS, ↓bD, bU, forall_const, bS, implies_true, isNx, eq_self, ↓wp_cond, ↓wp_loop, ↓reduceIte, reduceCtorEq, Nat.reduceEqDiff, Nat.reduceLT, Nat.reduceAdd, Nat.reduceMul, bT, ↓sg_bsl, ↓st_callf, bX, ap_mkfn, ae_callvV, callvV_fn, List.cons_append, List.nil_append, boxV_i]
    all_goals first | exact .refl _ | skip
theorem q_JSameD (cl : Bool) {s : St} {v : AV} {l : List Dot} (hr : read dotC s v = some l) (hl : l.length ≤ lim) {w : AV} {m : List Dot} (hrw : read dotC s w = some m) (hm : m.length ≤ lim) : acall R_JSameD cl [v, w] s = some (.bool (decide (l = m)), s) := run_same n_JSameD (by simp [a67]) rfl (w_JSameD (s := lowd s) (read_low' hr) hl (read_low' hrw) hm)
noncomputable def R_JSameC : Con := runFn (tb [(67, R_JSameD)]) a47
theorem s_JSameC : SoundAt Tryz.prog 47 R_JSameC := run_sound (tb_sound (l := [(67, R_JSameD)]) (by simpa using s_JSameD)) mixed Tryz.func47 k47 c47
theorem n_JSameC : noNxtC a47.body = true := by kernel_rfl
theorem w_JSameC {s : St} {v w : AV} {X : DCx} (hv : read dotC s v = some X.v) (hw : read dotC s w = some X.c) (hlv : X.v.length ≤ lim) (hlw : X.c.length ≤ lim) {v' w' : AV} {Y : DCx} (kv : read dotC s v' = some Y.v) (kw : read dotC s w' = some Y.c) (klv : Y.v.length ≤ lim) (klw : Y.c.length ≤ lim) : ∀ env : Env, elen env = a47.ntmps → (∀ i x_, [.agg [v, w], .agg [v', w']][i]? = some x_ → E env i = x_) → awp (tb [(67, R_JSameD)]) a47.body (fun x e t => (∀ i, x ≠ .exit i) ∧ aresults e t a47.results = some (.bool (decide (X = Y))) ∧ Keep s t) env s := by
  intro env hlen ha
  have h0 : E env 0 = _ := ha 0 _ rfl
  have h1 : E env 1 = _ := ha 1 _ rfl
  have hlen : elen env = _ := hlen
  simp only [a47] at hlen
  unfold a47
  try dsimp only [oO, oG]
  have hbx := boxV_2 (read_oneD hv).2 (read_oneD hw).2
  have hby := boxV_2 (read_oneD kv).2 (read_oneD kw).2
  have hK2 : Keep s ((s.push (.row [v, w] true)).push (.row [v', w'] true)) := ((Keep.refl s).push _).push _
  obtain ⟨c1, c2, c3, c4⟩ := box_ctx s v w ((Keep.refl _).push (.row [v', w'] true))
  obtain ⟨d1, d2, d3, d4⟩ := box_ctx (s.push (.row [v, w] true)) v' w' (.refl _)
  have q1 := q_JSameD false (hK2.read hv) hlv (hK2.read kv) klv
  have q2 := q_JSameD false (hK2.read hw) hlw (hK2.read kw) klw
  have hS : (decide (X.v = Y.v) && decide (X.c = Y.c)) = decide (X = Y) := by
    obtain ⟨xv, xc⟩ := X
    obtain ⟨yv, yc⟩ := Y
    rw [Bool.eq_iff_iff]
    simp
  simp (config := {contextual := true, maxDischargeDepth := 12}) only [tb_at, h0, h1, hlen, hbx, hby, c1, c2, c3, c4, d1, d2, d3, d4, q1, q2, hS, ↓bD, bU, forall_const, bS, implies_true, isNx, eq_self, ↓wp_cond, ↓wp_loop, ↓reduceIte, reduceCtorEq, Nat.reduceEqDiff, Nat.reduceLT, Nat.reduceAdd, Nat.reduceMul, bT, ↓sg_bsl, ↓st_callf, bX, ap_mkfn, ae_callvV, callvV_fn, List.cons_append, List.nil_append, boxV_i, boxV_dot, sto_dot]
  all_goals exact hK2
theorem q_JSameC (cl : Bool) {s : St} {v w : AV} {X : DCx} (hv : read dotC s v = some X.v) (hw : read dotC s w = some X.c) (hlv : X.v.length ≤ lim) (hlw : X.c.length ≤ lim) {v' w' : AV} {Y : DCx} (kv : read dotC s v' = some Y.v) (kw : read dotC s w' = some Y.c) (klv : Y.v.length ≤ lim) (klw : Y.c.length ≤ lim) : acall R_JSameC cl [.agg [v, w], .agg [v', w']] s = some (.bool (decide (X = Y)), s) := run_same n_JSameC (by simp [a47]) rfl (w_JSameC (s := lowd s) (read_low' hv) (read_low' hw) hlv hlw (read_low' kv) (read_low' kw) klv klw)
noncomputable def R_JDots : Con := runFn (tb []) a35
theorem s_JDots : SoundAt Tryz.prog 35 R_JDots := run_sound (tb_sound (l := []) (by simp)) mixed Tryz.func35 k35 c35
theorem n_JDots : noNxtC a35.body = true := by kernel_rfl
theorem w_JDots {s : St} {vl : AV} {l : List Nd} (hr : read ndC s vl = some l) (hl : l.length ≤ 1000) (b : Bool) : ∀ env : Env, elen env = a35.ntmps → (∀ i x_, [vl, .bool b][i]? = some x_ → E env i = x_) → awp (tb []) a35.body (fun x e t => (∀ i, x ≠ .exit i) ∧ Keep s t ∧ ∃ r, aresults e t a35.results = some r ∧ Own dotC s t r (dotsR l b)) env s := by
  intro env hlen ha
  have h0 : E env 0 = _ := ha 0 _ rfl
  have h1 : E env 1 = _ := ha 1 _ rfl
  have hlen : elen env = _ := hlen
  simp only [a35] at hlen
  unfold a35
  try dsimp only [oO, oG]
  have hL := lenV_read hr
  simp (config := {contextual := true, maxDischargeDepth := 12}) only [tb_at, h0, h1, hlen, hL, ↓bD, bU, forall_const, bS, implies_true, isNx, eq_self, ↓wp_cond, ↓wp_loop, ↓reduceIte, reduceCtorEq, Nat.reduceEqDiff, Nat.reduceLT, Nat.reduceAdd, Nat.reduceMul, bT, ↓sg_bsl, ↓st_callf, bX, List.cons_append, List.nil_append, ↓st_appf, bY, slcV_nils0N, slcV_sl0N, bslV_0N, bin_shr1, bsl_nd, q_known]
  obtain ⟨I, hI⟩ : ∃ I : Nat → Env → St → Prop, ∀ n e t, I n e t = (Keep s t ∧ ∃ i : Nat, n + i = l.length ∧ elen e = 32 ∧ E e 0 = vl ∧ E e 1 = .bool b ∧ E e 6 = .int .i64 (i : Int) ∧ Own dotC s t (E e 5) (dotsR (l.take i) b)) := ⟨fun n e t => (Keep s t ∧ ∃ i : Nat, n + i = l.length ∧ elen e = 32 ∧ E e 0 = vl ∧ E e 1 = .bool b ∧ E e 6 = .int .i64 (i : Int) ∧ Own dotC s t (E e 5) (dotsR (l.take i) b)), fun _ _ _ => rfl⟩
  refine lwp_inv I (n := l.length) ?_ ?_
  · rw [hI]
    exact ⟨.refl s, 0, by omega, (by simp only [bE, Nat.reduceEqDiff, bN, Nat.reduceLT, hlen]; try rfl), (by simp only [bE, Nat.reduceEqDiff, bN, Nat.reduceLT, hlen, h0]; try rfl), (by simp only [bE, Nat.reduceEqDiff, bN, Nat.reduceLT, hlen, h1]; try rfl), (by simp only [bE, Nat.reduceEqDiff, bN, Nat.reduceLT, hlen]; try rfl), by simp only [bE, Nat.reduceEqDiff, bN, Nat.reduceLT, hlen]; exact .nil _ _ _⟩
  clear h0 h1 hlen
  intro n e t hi
  rw [hI] at hi
  obtain ⟨hK, i, hni, he, e0, e1, e6, hO⟩ := hi
  by_cases hlt : i < l.length
  · obtain ⟨x, hx⟩ := getsome hlt
    have hw2 := wrap_add1 (n := i) (by omega)
    obtain ⟨a1, a2, a3, a5, a6, a4⟩ := nd_lods hr hK hx
    have i1 := nd_idx hr hx .i64
    have hsn := dotsR_snoc (b := b) hx
    cases b
    · rw [if_pos (by simp)] at hsn
      obtain ⟨u1, t1, ap, hK', hO'⟩ := appV_one (C := dotC) hK hO x.d 16 (by have := dotsR_len (l.take i) false; rw [List.length_take] at this; unfold roomBytes; omega)
      have ap : appV (t.push (.row (Dot.av x.d) true)) 2 16 (E e 5) (.sl t.next 0 1 (some 1) 2) = some (u1, t1) := ap
      simp (config := {contextual := true, maxDischargeDepth := 12}) only [tb_at, he, e0, e1, e6, hL, hlt, hw2, a2, a4, a6, i1, ap, notV_bool, Bool.not_false, ↓bD, bU, forall_const, bS, implies_true, isNx, eq_self, ↓wp_cond, ↓wp_loop, ↓reduceIte, reduceCtorEq, Nat.reduceEqDiff, Nat.reduceLT, Nat.reduceAdd, Nat.reduceMul, bT, ↓sg_bsl, ↓st_callf, bX, List.cons_append, List.nil_append, ↓st_appf, bY, slcV_nils0N, slcV_sl0N, bslV_0N, bin_shr1, bsl_nd, q_known]
      refine ⟨n - 1, by omega, ?_⟩
      rw [hI]
      exact ⟨hK', i + 1, by omega, (by simp only [bE, Nat.reduceEqDiff, bN, Nat.reduceLT, he, e0, e1, e6]; try rfl), (by simp only [bE, Nat.reduceEqDiff, bN, Nat.reduceLT, he, e0, e1, e6]; try rfl), (by simp only [bE, Nat.reduceEqDiff, bN, Nat.reduceLT, he, e0, e1, e6]; try rfl), (by simp only [bE, Nat.reduceEqDiff, bN, Nat.reduceLT, he, e0, e1, e6]; try rfl), by simp only [bE, Nat.reduceEqDiff, bN, Nat.reduceLT, he]; rw [hsn]; exact hO'⟩
    · by_cases hx0 : x.x = 0
      · have hz := eq_true hx0
        rw [if_pos (by simp [hx0])] at hsn
        obtain ⟨u1, t1, ap, hK', hO'⟩ := appV_one (C := dotC) hK hO x.d 16 (by have := dotsR_len (l.take i) true; rw [List.length_take] at this; unfold roomBytes; omega)
        have ap : appV (t.push (.row (Dot.av x.d) true)) 2 16 (E e 5) (.sl t.next 0 1 (some 1) 2) = some (u1, t1) := ap
        simp (config := {contextual := true, maxDischargeDepth := 12}) only [tb_at, he, e0, e1, e6, hL, hlt, hw2, a2, a4, a6, i1, ap, notV_bool, Bool.not_true, hz, ↓bD, bU, forall_const, bS, implies_true, isNx, eq_self, ↓wp_cond, ↓wp_loop, ↓reduceIte, reduceCtorEq, Nat.reduceEqDiff, Nat.reduceLT, Nat.reduceAdd, Nat.reduceMul, bT, ↓sg_bsl, ↓st_callf, bX, List.cons_append, List.nil_append, ↓st_appf, bY, slcV_nils0N, slcV_sl0N, bslV_0N, bin_shr1, bsl_nd, q_known]
        refine ⟨n - 1, by omega, ?_⟩
        rw [hI]
        exact ⟨hK', i + 1, by omega, (by simp only [bE, Nat.reduceEqDiff, bN, Nat.reduceLT, he, e0, e1, e6]; try rfl), (by simp only [bE, Nat.reduceEqDiff, bN, Nat.reduceLT, he, e0, e1, e6]; try rfl), (by simp only [bE, Nat.reduceEqDiff, bN, Nat.reduceLT, he, e0, e1, e6]; try rfl), (by simp only [bE, Nat.reduceEqDiff, bN, Nat.reduceLT, he, e0, e1, e6]; try rfl), by simp only [bE, Nat.reduceEqDiff, bN, Nat.reduceLT, he]; rw [hsn]; exact hO'⟩
      · have hz := eq_false hx0
        rw [if_neg (by simp [hx0]), List.append_nil] at hsn
        simp (config := {contextual := true, maxDischargeDepth := 12}) only [tb_at, he, e0, e1, e6, hL, hlt, hw2, a2, a4, a6, i1, notV_bool, Bool.not_true, hz, ↓bD, bU, forall_const, bS, implies_true, isNx, eq_self, ↓wp_cond, ↓wp_loop, ↓reduceIte, reduceCtorEq, Nat.reduceEqDiff, Nat.reduceLT, Nat.reduceAdd, Nat.reduceMul, bT, ↓sg_bsl, ↓st_callf, bX, List.cons_append, List.nil_append, ↓st_appf, bY, slcV_nils0N, slcV_sl0N, bslV_0N, bin_shr1, bsl_nd, q_known]
        refine ⟨n - 1, by omega, ?_⟩
        rw [hI]
        exact ⟨hK, i + 1, by omega, (by simp only [bE, Nat.reduceEqDiff, bN, Nat.reduceLT, he, e0, e1, e6]; try rfl), (by simp only [bE, Nat.reduceEqDiff, bN, Nat.reduceLT, he, e0, e1, e6]; try rfl), (by simp only [bE, Nat.reduceEqDiff, bN, Nat.reduceLT, he, e0, e1, e6]; try rfl), (by simp only [bE, Nat.reduceEqDiff, bN, Nat.reduceLT, he, e0, e1, e6]; try rfl), by simp only [bE, Nat.reduceEqDiff, bN, Nat.reduceLT, he]; rw [hsn]; exact hO⟩
  · obtain rfl : i = l.length := by omega
    rw [List.take_length] at hO
    simp (config := {contextual := true, maxDischargeDepth := 12}) only [tb_at, he, e0, e1, e6, hL, hlt, ↓bD, bU, forall_const, bS, implies_true, isNx, eq_self, ↓wp_cond, ↓wp_loop, ↓reduceIte, reduceCtorEq, Nat.reduceEqDiff, Nat.reduceLT, Nat.reduceAdd, Nat.reduceMul, bT, ↓sg_bsl, ↓st_callf, bX, List.cons_append, List.nil_append, ↓st_appf, bY, slcV_nils0N, slcV_sl0N, bslV_0N, bin_shr1, bsl_nd, q_known]
    first | exact ⟨hK, _, rfl, hO⟩ | exact ⟨_, rfl, hO⟩
theorem q_JDots {s : St} {vl : AV} {l : List Nd} (hr : read ndC s vl = some l) (hl : l.length ≤ 1000) (b : Bool) : ∃ v t, acall R_JDots false [vl, .bool b] s = some (v, t) ∧ Own dotC s t v (dotsR l b) ∧ Keep s t := run_fresh n_JDots (by simp [a35]) (fun v => v) (fun _ _ _ _ _ => rfl) (w_JDots (s := lowd s) (read_low' hr) hl b)
end Go.AM
end
/-
  Contexts as the reference of layer 14 makes them. Own work of this project; in part printed by a program of it.
-/
section
set_option maxRecDepth 100000
set_option maxHeartbeats 8000000
namespace Go.AM
open Go Go.Proofs

variable {s t u : St}

/-- A context that is being made: the result's box, its own box, its two lists. -/
structure CB (s t : St) (rb b : Nat) (vv cc : AV) (V C : List Dot) : Prop where
  keep : Keep s t
  rbox : t.get rb = some (.row [.nils, .nils] true)
  obox : t.get b = some (.row [vv, cc] true)
  vec : Own dotC s t vv V
  cld : Own dotC s t cc C
  vdis : ∀ id ∈ vids vv, id ≠ b ∧ id ≠ rb ∧ id ∉ vids cc
  cdis : ∀ id ∈ vids cc, id ≠ b ∧ id ≠ rb
  rge : s.next ≤ rb
  bge : s.next ≤ b
  ne : rb ≠ b
theorem CB.start (s : St) : CB s ((s.push (.row [.nils, .nils] true)).push (.row [.nils, .nils] true)) s.next (s.next + 1) .nils .nils [] [] :=
  ⟨((Keep.refl s).push _).push _, get_push_some _ (St.get_push_new s _), St.get_push_new (s.push (.row [.nils, .nils] true)) _, .nil _ _ _, .nil _ _ _, by simp [vids], by simp [vids], Nat.le_refl _, by omega, by omega⟩
theorem CB.low {rb b : Nat} {vv cc : AV} {V C : List Dot} (h : CB s t rb b vv cc V C) (x : List AV) : CB s (t.lowed.push (.row x true)) rb b vv cc V C :=
  ⟨h.keep.lowed.push _, get_push_some _ h.rbox, get_push_some _ h.obox, h.vec.mono fun _ _ k => get_push_some _ k, h.cld.mono fun _ _ k => get_push_some _ k, h.vdis, h.cdis, h.rge, h.bge, h.ne⟩
theorem CB.lowed {rb b : Nat} {vv cc : AV} {V C : List Dot} (h : CB s t rb b vv cc V C) : CB s t.lowed rb b vv cc V C :=
  ⟨h.keep.lowed, h.rbox, h.obox, h.vec.mono fun _ _ k => k, h.cld.mono fun _ _ k => k, h.vdis, h.cdis, h.rge, h.bge, h.ne⟩
theorem CB.appc {rb b : Nat} {vv cc : AV} {V C : List Dot} (h : CB s t rb b vv cc V C) (x : Dot) (hb : C.length + 1 ≤ 4000000) : ∃ cc' t', appV (t.push (.row (Dot.av x) true)) 2 16 cc (.sl t.next 0 1 (some 1) 2) = some (cc', t') ∧ sto t' 1 (.ptr b 1) cc' = some (.und, t'.put b (.row [vv, cc'] true)) ∧ ltN b t' ∧ CB s (t'.put b (.row [vv, cc'] true)) rb b vv cc' V (C ++ [x]) := by
  obtain ⟨t', h1, h2, h3, h4⟩ := app1D h.cld x hb
  have hob : t'.get b = some (.row [vv, cc] true) := h3.blk h.obox fun q => (h.cdis _ q).1 rfl
  have hrb : t'.get rb = some (.row [.nils, .nils] true) := h3.blk h.rbox fun q => (h.cdis _ q).2 rfl
  have hK : Keep s t' := h.keep.chgn h3 (own_vids h.cld)
  have hlb' := St.get_lt hob
  have hlo := St.get_lt h.obox
  have hlr := St.get_lt h.rbox
  refine ⟨_, t', h1, (row2_sto hob rfl rfl).2, hlb', ⟨hK.put _ h.bge hlb', ?_, St.get_put_same hob, ?_, .inr ⟨t.next + 1, by simp; rfl, by simp, ?_, ?_⟩, fun id hid => ⟨(h.vdis id hid).1, (h.vdis id hid).2.1, ?_⟩, fun id hid => ?_, h.rge, h.bge, h.ne⟩⟩
  · rw [St.get_put_ne _ _ hlb' h.ne]; exact hrb
  · exact (h.vec.keep h3 fun id hid => (h.vdis id hid).2.2).keep ((Chg.refl [b] t').put _ (.inl (by simp)) hlb') fun id hid => by
      have := (h.vdis id hid).1
      simpa using this
  · have := h.keep.next
    omega
  · rw [St.get_put_ne _ _ hlb' (by omega)]; exact h2
  · have := own_vidl h.vec id hid
    simp [vids]
    omega
  · simp [vids] at hid
    omega
theorem CB.appv {rb b : Nat} {vv cc : AV} {V C : List Dot} (h : CB s t rb b vv cc V C) (x : Dot) (hb : V.length + 1 ≤ 4000000) : ∃ vv' t', appV (t.push (.row (Dot.av x) true)) 2 16 vv (.sl t.next 0 1 (some 1) 2) = some (vv', t') ∧ sto t' 1 (.ptr b 0) vv' = some (.und, t'.put b (.row [vv', cc] true)) ∧ ltN b t' ∧ CB s (t'.put b (.row [vv', cc] true)) rb b vv' cc (V ++ [x]) C := by
  obtain ⟨t', h1, h2, h3, h4⟩ := app1D h.vec x hb
  have hob : t'.get b = some (.row [vv, cc] true) := h3.blk h.obox fun q => (h.vdis _ q).1 rfl
  have hrb : t'.get rb = some (.row [.nils, .nils] true) := h3.blk h.rbox fun q => (h.vdis _ q).2.1 rfl
  have hK : Keep s t' := h.keep.chgn h3 (own_vids h.vec)
  have hlb' := St.get_lt hob
  have hlo := St.get_lt h.obox
  have hlr := St.get_lt h.rbox
  refine ⟨_, t', h1, (row2_sto hob rfl rfl).1, hlb', ⟨hK.put _ h.bge hlb', ?_, St.get_put_same hob, .inr ⟨t.next + 1, by simp; rfl, by simp, ?_, ?_⟩, ?_, fun id hid => ?_, h.cdis, h.rge, h.bge, h.ne⟩⟩
  · rw [St.get_put_ne _ _ hlb' h.ne]; exact hrb
  · have := h.keep.next
    omega
  · rw [St.get_put_ne _ _ hlb' (by omega)]; exact h2
  · exact (h.cld.keep h3 fun id hid q => (h.vdis id q).2.2 hid).keep ((Chg.refl [b] t').put _ (.inl (by simp)) hlb') fun id hid => by
      have := (h.cdis id hid).1
      simpa using this
  · simp [vids] at hid
    refine ⟨by omega, by omega, fun q => ?_⟩
    have := own_vidl h.cld id q
    omega
theorem CB.done {rb b : Nat} {vv cc : AV} {V C : List Dot} (h : CB s t rb b vv cc V C) : lod t 2 (.ptr b 0) = some (.agg [vv, cc]) ∧ sto t 2 (.ptr rb 0) (.agg [vv, cc]) = some (.und, t.put rb (.row [vv, cc] true)) ∧ ltN rb t ∧ lod (t.put rb (.row [vv, cc] true)) 2 (.ptr rb 0) = some (.agg [vv, cc]) ∧ CR (t.put rb (.row [vv, cc] true)) vv cc ⟨V, C⟩ ∧ Keep s (t.put rb (.row [vv, cc] true)) := by
  have hlr := St.get_lt h.rbox
  have hC : Chg [rb] t (t.put rb (.row [vv, cc] true)) := (Chg.refl _ _).put _ (.inl (by simp)) hlr
  refine ⟨lod_row2 h.obox, sto_row2 h.rbox (read_oneD h.vec.read).2 (read_oneD h.cld.read).2, hlr, lod_row2 (St.get_put_same h.rbox), ⟨(h.vec.keep hC fun id hid => ?_).read, (h.cld.keep hC fun id hid => ?_).read⟩, h.keep.put _ h.rge hlr⟩
  · have := (h.vdis id hid).2.1
    simpa using this
  · have := (h.cdis id hid).2
    simpa using this
theorem fctx_snoc {v l : List Dot} {i : Nat} {d : Dot} (hx : l[i]? = some d) : (l.take (i + 1)).filter (fun d => decide (vget v d.r < d.c)) = (l.take i).filter (fun d => decide (vget v d.r < d.c)) ++ (if vget v d.r < d.c then [d] else []) := by
  rw [take_snoc hx, List.filter_append]
  congr 1
  by_cases h : vget v d.r < d.c
  · rw [if_pos h]; simp [h]
  · rw [if_neg h]; simp [h]
theorem runL_len (r : Int) (l : List Dot) : ∀ n, runL r n l ≤ n + l.length := by
  induction l with
  | nil => intro n; exact Nat.le_refl _
  | cons d l ih =>
    intro n
    rw [runL_cons]
    have := ih (if d.r = r ∧ d.c = ((n + 1 : Nat) : Int) then n + 1 else n)
    simp only [List.length_cons]
    split at this <;> rename_i h <;> first | (rw [if_pos h]; omega) | (rw [if_neg h]; omega)
noncomputable def R_JCtx : Con := runFn (tb [(55, R_JLast)]) a34
theorem s_JCtx : SoundAt Tryz.prog 34 R_JCtx := run_sound (tb_sound (l := [(55, R_JLast)]) (by simpa using s_JLast)) mixed Tryz.func34 k34 c34
theorem n_JCtx : noNxtC a34.body = true := by kernel_rfl
theorem w_JCtx {s : St} {v : AV} {l : List Dot} (hr : read dotC s v = some l) (hl : l.length ≤ 1000) : ∀ env : Env, elen env = a34.ntmps → (∀ i x_, [v][i]? = some x_ → E env i = x_) → awp (tb [(55, R_JLast)]) a34.body (fun x e t => (∀ i, x ≠ .exit i) ∧ ∃ r, aresults e t a34.results = some r ∧ (∃ vv cc, r = .agg [vv, cc] ∧ CR t vv cc (ctxL l)) ∧ Keep s t) env s := by
  intro env hlen ha
  have h0 : E env 0 = _ := ha 0 _ rfl
  have hlen : elen env = _ := hlen
  simp only [a34] at hlen
  unfold a34
  try dsimp only [oO, oG]
  have hL := lenV_read hr
  simp (config := {contextual := true, maxDischargeDepth := 12}) only [tb_at, h0, hlen, hL, ↓bD, bU, forall_const, bS, implies_true, isNx, eq_self, ↓wp_cond, ↓wp_loop, ↓reduceIte, reduceCtorEq, Nat.reduceEqDiff, Nat.reduceLT, Nat.reduceAdd, Nat.reduceMul, bT, ↓sg_bsl, ↓st_callf, bX, List.cons_append, List.nil_append, ↓st_appf, bY, slcV_nils0N, slcV_sl0N, bslV_0N, bin_shr1, bsl_nd]
  obtain ⟨I, hI⟩ : ∃ I : Nat → Env → St → Prop, ∀ n e t, I n e t = (True ∧ ∃ (i : Nat) (vv : AV), n + i = 64 ∧ elen e = 77 ∧ E e 0 = v ∧ E e 2 = .ptr s.next 0 ∧ E e 3 = .ptr (s.next + 1) 0 ∧ E e 4 = .int .i64 ((i + 1 : Nat) : Int) ∧ CB s t s.next (s.next + 1) vv .nils (vecL (fun r => runL (r : Int) 0 l) i) []) := ⟨fun n e t => (True ∧ ∃ (i : Nat) (vv : AV), n + i = 64 ∧ elen e = 77 ∧ E e 0 = v ∧ E e 2 = .ptr s.next 0 ∧ E e 3 = .ptr (s.next + 1) 0 ∧ E e 4 = .int .i64 ((i + 1 : Nat) : Int) ∧ CB s t s.next (s.next + 1) vv .nils (vecL (fun r => runL (r : Int) 0 l) i) []), fun _ _ _ => rfl⟩
  refine lwp_inv I (n := 64) ?_ ?_
  · rw [hI]
    exact ⟨trivial, 0, .nils, by omega, (by simp only [bE, Nat.reduceEqDiff, bN, Nat.reduceLT, hlen]; try rfl), (by simp only [bE, Nat.reduceEqDiff, bN, Nat.reduceLT, hlen, h0]; try rfl), (by simp only [bE, Nat.reduceEqDiff, bN, Nat.reduceLT, hlen]; try rfl), (by simp only [bE, Nat.reduceEqDiff, bN, Nat.reduceLT, hlen]; try rfl), (by simp only [bE, Nat.reduceEqDiff, bN, Nat.reduceLT, hlen]; try rfl), CB.start s⟩
  clear h0 hlen
  intro n e t hi
  rw [hI] at hi
  obtain ⟨hK, i, vv, hni, he, e0, e2, e3, e4, hJ⟩ := hi
  by_cases hlt : i < 64
  · have hle := eq_true (show ((i + 1 : Nat) : Int) ≤ 64 by omega)
    have hw4 := wrap_add1 (n := i + 1) (by omega)
    simp (config := {contextual := true, maxDischargeDepth := 12}) only [tb_at, he, e0, e2, e3, e4, hle, hL, ↓bD, bU, forall_const, bS, implies_true, isNx, eq_self, ↓wp_cond, ↓wp_loop, ↓reduceIte, reduceCtorEq, Nat.reduceEqDiff, Nat.reduceLT, Nat.reduceAdd, Nat.reduceMul, bT, ↓sg_bsl, ↓st_callf, bX, List.cons_append, List.nil_append, ↓st_appf, bY, slcV_nils0N, slcV_sl0N, bslV_0N, bin_shr1, bsl_nd]
    obtain ⟨i0, hi0⟩ : ∃ i0, i0 = i := ⟨_, rfl⟩
    obtain ⟨t0, ht0⟩ : ∃ t0, t0 = t := ⟨_, rfl⟩
    rw [← hi0] at e4 hni hlt hw4 hle hJ
    rw [← ht0] at hJ
    obtain ⟨I2, hI2⟩ : ∃ I : Nat → Env → St → Prop, ∀ n e t, I n e t = (t = t0 ∧ ∃ i : Nat, n + i = l.length ∧ elen e = 77 ∧ E e 0 = v ∧ E e 2 = .ptr s.next 0 ∧ E e 3 = .ptr (s.next + 1) 0 ∧ E e 4 = .int .i64 ((i0 + 1 : Nat) : Int) ∧ E e 5 = .int .i64 ((runL ((i0 + 1 : Nat) : Int) 0 (l.take i) : Nat) : Int) ∧ E e 6 = .int .i64 (i : Int)) := ⟨fun n e t => (t = t0 ∧ ∃ i : Nat, n + i = l.length ∧ elen e = 77 ∧ E e 0 = v ∧ E e 2 = .ptr s.next 0 ∧ E e 3 = .ptr (s.next + 1) 0 ∧ E e 4 = .int .i64 ((i0 + 1 : Nat) : Int) ∧ E e 5 = .int .i64 ((runL ((i0 + 1 : Nat) : Int) 0 (l.take i) : Nat) : Int) ∧ E e 6 = .int .i64 (i : Int)), fun _ _ _ => rfl⟩
    refine lwp_inv I2 (n := l.length) ?_ ?_
    · rw [hI2]
      exact ⟨ht0.symm, 0, by omega, (by simp only [bE, Nat.reduceEqDiff, bN, Nat.reduceLT, he]; try rfl), (by simp only [bE, Nat.reduceEqDiff, bN, Nat.reduceLT, he, e0]; try rfl), (by simp only [bE, Nat.reduceEqDiff, bN, Nat.reduceLT, he, e2]; try rfl), (by simp only [bE, Nat.reduceEqDiff, bN, Nat.reduceLT, he, e3]; try rfl), (by simp only [bE, Nat.reduceEqDiff, bN, Nat.reduceLT, he, e4]; try rfl), (by simp only [bE, Nat.reduceEqDiff, bN, Nat.reduceLT, he]; try rfl), (by simp only [bE, Nat.reduceEqDiff, bN, Nat.reduceLT, he]; try rfl)⟩
    clear he e0 e2 e3 e4
    intro n2 e t hi
    rw [hI2] at hi
    obtain ⟨hK, i, hni2, he, e0, e2, e3, e4, e5, e6⟩ := hi
    subst hK
    by_cases hlt2 : i < l.length
    · obtain ⟨x, hx⟩ := getsome hlt2
      have hw2 := wrap_add1 (n := i) (by omega)
      obtain ⟨a1, a2, a3, a4⟩ := dot_lods hr hJ.keep hx
      have i1 := dot_idx hr hx .i64
      have hrl := runL_len ((i0 + 1 : Nat) : Int) (l.take i) 0
      rw [List.length_take] at hrl
      have hw5 := wrap_add1 (n := runL ((i0 + 1 : Nat) : Int) 0 (l.take i)) (by omega)
      have hsn := runL_snoc (r := ((i0 + 1 : Nat) : Int)) hx
      by_cases h1 : x.r = ((i0 + 1 : Nat) : Int)
      · have z1 := eq_true h1
        by_cases h2 : x.c = ((runL ((i0 + 1 : Nat) : Int) 0 (l.take i) + 1 : Nat) : Int)
        · have z2 := eq_true h2
          rw [if_pos ⟨h1, h2⟩] at hsn
          simp (config := {contextual := true, maxDischargeDepth := 12}) only [tb_at, he, e0, e2, e3, e4, e5, e6, hL, hlt2, hw2, hw5, a1, a2, a3, a4, i1, z1, z2, ↓bD, bU, forall_const, bS, implies_true, isNx, eq_self, ↓wp_cond, ↓wp_loop, ↓reduceIte, reduceCtorEq, Nat.reduceEqDiff, Nat.reduceLT, Nat.reduceAdd, Nat.reduceMul, bT, ↓sg_bsl, ↓st_callf, bX, List.cons_append, List.nil_append, ↓st_appf, bY, slcV_nils0N, slcV_sl0N, bslV_0N, bin_shr1, bsl_nd]
          refine ⟨n2 - 1, by omega, ?_⟩
          rw [hI2]
          exact ⟨rfl, i + 1, by omega, (by simp only [bE, Nat.reduceEqDiff, bN, Nat.reduceLT, he, e0, e2, e3, e4]; try rfl), (by simp only [bE, Nat.reduceEqDiff, bN, Nat.reduceLT, he, e0, e2, e3, e4]; try rfl), (by simp only [bE, Nat.reduceEqDiff, bN, Nat.reduceLT, he, e0, e2, e3, e4]; try rfl), (by simp only [bE, Nat.reduceEqDiff, bN, Nat.reduceLT, he, e0, e2, e3, e4]; try rfl), (by simp only [bE, Nat.reduceEqDiff, bN, Nat.reduceLT, he, e0, e2, e3, e4]; try rfl), by rw [hsn]; simp only [bE, Nat.reduceEqDiff, bN, Nat.reduceLT, he, e5]; try rfl, (by simp only [bE, Nat.reduceEqDiff, bN, Nat.reduceLT, he]; try rfl)⟩
        · have z2 := eq_false h2
          rw [if_neg (fun q => h2 q.2)] at hsn
          simp (config := {contextual := true, maxDischargeDepth := 12}) only [tb_at, he, e0, e2, e3, e4, e5, e6, hL, hlt2, hw2, hw5, a1, a2, a3, a4, i1, z1, z2, ↓bD, bU, forall_const, bS, implies_true, isNx, eq_self, ↓wp_cond, ↓wp_loop, ↓reduceIte, reduceCtorEq, Nat.reduceEqDiff, Nat.reduceLT, Nat.reduceAdd, Nat.reduceMul, bT, ↓sg_bsl, ↓st_callf, bX, List.cons_append, List.nil_append, ↓st_appf, bY, slcV_nils0N, slcV_sl0N, bslV_0N, bin_shr1, bsl_nd]
          refine ⟨n2 - 1, by omega, ?_⟩
          rw [hI2]
          exact ⟨rfl, i + 1, by omega, (by simp only [bE, Nat.reduceEqDiff, bN, Nat.reduceLT, he, e0, e2, e3, e4]; try rfl), (by simp only [bE, Nat.reduceEqDiff, bN, Nat.reduceLT, he, e0, e2, e3, e4]; try rfl), (by simp only [bE, Nat.reduceEqDiff, bN, Nat.reduceLT, he, e0, e2, e3, e4]; try rfl), (by simp only [bE, Nat.reduceEqDiff, bN, Nat.reduceLT, he, e0, e2, e3, e4]; try rfl), (by simp only [bE, Nat.reduceEqDiff, bN, Nat.reduceLT, he, e0, e2, e3, e4]; try rfl), by rw [hsn]; simp only [bE, Nat.reduceEqDiff, bN, Nat.reduceLT, he, e5]; try rfl, (by simp only [bE, Nat.reduceEqDiff, bN, Nat.reduceLT, he]; try rfl)⟩
      · have z1 := eq_false h1
        rw [if_neg (fun q => h1 q.1)] at hsn
        simp (config := {contextual := true, maxDischargeDepth := 12}) only [tb_at, he, e0, e2, e3, e4, e5, e6, hL, hlt2, hw2, hw5, a1, a2, a3, a4, i1, z1, ↓bD, bU, forall_const, bS, implies_true, isNx, eq_self, ↓wp_cond, ↓wp_loop, ↓reduceIte, reduceCtorEq, Nat.reduceEqDiff, Nat.reduceLT, Nat.reduceAdd, Nat.reduceMul, bT, ↓sg_bsl, ↓st_callf, bX, List.cons_append, List.nil_append, ↓st_appf, bY, slcV_nils0N, slcV_sl0N, bslV_0N, bin_shr1, bsl_nd]
        refine ⟨n2 - 1, by omega, ?_⟩
        rw [hI2]
        exact ⟨rfl, i + 1, by omega, (by simp only [bE, Nat.reduceEqDiff, bN, Nat.reduceLT, he, e0, e2, e3, e4]; try rfl), (by simp only [bE, Nat.reduceEqDiff, bN, Nat.reduceLT, he, e0, e2, e3, e4]; try rfl), (by simp only [bE, Nat.reduceEqDiff, bN, Nat.reduceLT, he, e0, e2, e3, e4]; try rfl), (by simp only [bE, Nat.reduceEqDiff, bN, Nat.reduceLT, he, e0, e2, e3, e4]; try rfl), (by simp only [bE, Nat.reduceEqDiff, bN, Nat.reduceLT, he, e0, e2, e3, e4]; try rfl), by rw [hsn]; simp only [bE, Nat.reduceEqDiff, bN, Nat.reduceLT, he, e5]; try rfl, (by simp only [bE, Nat.reduceEqDiff, bN, Nat.reduceLT, he]; try rfl)⟩
    · obtain rfl : i = l.length := by omega
      rw [List.take_length] at e5
      have hv1 := vecL_succ (fun r => runL (r : Int) 0 l) i0
      have hvl := vecL_len (fun r => runL (r : Int) 0 l) i0
      by_cases hpos : 0 < runL ((i0 + 1 : Nat) : Int) 0 l
      · have z1 := eq_true (show (0 : Int) < ((runL ((i0 + 1 : Nat) : Int) 0 l : Nat) : Int) by omega)
        rw [if_pos hpos] at hv1
        obtain ⟨o0, o1, olt⟩ := row2_lod hJ.obox
        obtain ⟨vv', t', hap, hsto, hbt, hJ'⟩ := hJ.appv ⟨((i0 + 1 : Nat) : Int), ((runL ((i0 + 1 : Nat) : Int) 0 l : Nat) : Int)⟩ (by omega)
        rw [← hv1] at hJ'
        simp (config := {contextual := true, maxDischargeDepth := 12}) only [tb_at, he, e0, e2, e3, e4, e5, e6, hL, hlt2, z1, o0, o1, olt, hap, hsto, hbt, hw4, ↓bD, bU, forall_const, bS, implies_true, isNx, eq_self, ↓wp_cond, ↓wp_loop, ↓reduceIte, reduceCtorEq, Nat.reduceEqDiff, Nat.reduceLT, Nat.reduceAdd, Nat.reduceMul, bT, ↓sg_bsl, ↓st_callf, bX, List.cons_append, List.nil_append, ↓st_appf, bY, slcV_nils0N, slcV_sl0N, bslV_0N, bin_shr1, bsl_nd]
        refine ⟨n - 1, by omega, ?_⟩
        rw [hI]
        exact ⟨trivial, i0 + 1, vv', by omega, (by simp only [bE, Nat.reduceEqDiff, bN, Nat.reduceLT, he, e0, e2, e3]; try rfl), (by simp only [bE, Nat.reduceEqDiff, bN, Nat.reduceLT, he, e0, e2, e3]; try rfl), (by simp only [bE, Nat.reduceEqDiff, bN, Nat.reduceLT, he, e0, e2, e3]; try rfl), (by simp only [bE, Nat.reduceEqDiff, bN, Nat.reduceLT, he, e0, e2, e3]; try rfl), (by simp only [bE, Nat.reduceEqDiff, bN, Nat.reduceLT, he, e0, e2, e3]; try rfl), hJ'⟩
      · have z1 := eq_false (show ¬ (0 : Int) < ((runL ((i0 + 1 : Nat) : Int) 0 l : Nat) : Int) by omega)
        rw [if_neg hpos, List.append_nil] at hv1
        rw [← hv1] at hJ
        simp (config := {contextual := true, maxDischargeDepth := 12}) only [tb_at, he, e0, e2, e3, e4, e5, e6, hL, hlt2, z1, hw4, ↓bD, bU, forall_const, bS, implies_true, isNx, eq_self, ↓wp_cond, ↓wp_loop, ↓reduceIte, reduceCtorEq, Nat.reduceEqDiff, Nat.reduceLT, Nat.reduceAdd, Nat.reduceMul, bT, ↓sg_bsl, ↓st_callf, bX, List.cons_append, List.nil_append, ↓st_appf, bY, slcV_nils0N, slcV_sl0N, bslV_0N, bin_shr1, bsl_nd]
        refine ⟨n - 1, by omega, ?_⟩
        rw [hI]
        exact ⟨trivial, i0 + 1, vv, by omega, (by simp only [bE, Nat.reduceEqDiff, bN, Nat.reduceLT, he, e0, e2, e3]; try rfl), (by simp only [bE, Nat.reduceEqDiff, bN, Nat.reduceLT, he, e0, e2, e3]; try rfl), (by simp only [bE, Nat.reduceEqDiff, bN, Nat.reduceLT, he, e0, e2, e3]; try rfl), (by simp only [bE, Nat.reduceEqDiff, bN, Nat.reduceLT, he, e0, e2, e3]; try rfl), (by simp only [bE, Nat.reduceEqDiff, bN, Nat.reduceLT, he, e0, e2, e3]; try rfl), hJ⟩
  · obtain rfl : i = 64 := by omega
    have hle := eq_false (show ¬ ((64 + 1 : Nat) : Int) ≤ 64 by omega)
    simp (config := {contextual := true, maxDischargeDepth := 12}) only [tb_at, he, e0, e2, e3, e4, hle, hL, ↓bD, bU, forall_const, bS, implies_true, isNx, eq_self, ↓wp_cond, ↓wp_loop, ↓reduceIte, reduceCtorEq, Nat.reduceEqDiff, Nat.reduceLT, Nat.reduceAdd, Nat.reduceMul, bT, ↓sg_bsl, ↓st_callf, bX, List.cons_append, List.nil_append, ↓st_appf, bY, slcV_nils0N, slcV_sl0N, bslV_0N, bin_shr1, bsl_nd]
    obtain ⟨I3, hI3⟩ : ∃ I : Nat → Env → St → Prop, ∀ n e t, I n e t = (True ∧ ∃ (i : Nat) (cc : AV), n + i = l.length ∧ elen e = 77 ∧ E e 0 = v ∧ E e 2 = .ptr s.next 0 ∧ E e 3 = .ptr (s.next + 1) 0 ∧ E e 7 = .int .i64 (i : Int) ∧ CB s t s.next (s.next + 1) vv cc (ctxV l) ((l.take i).filter fun d => decide (vget (ctxV l) d.r < d.c))) := ⟨fun n e t => (True ∧ ∃ (i : Nat) (cc : AV), n + i = l.length ∧ elen e = 77 ∧ E e 0 = v ∧ E e 2 = .ptr s.next 0 ∧ E e 3 = .ptr (s.next + 1) 0 ∧ E e 7 = .int .i64 (i : Int) ∧ CB s t s.next (s.next + 1) vv cc (ctxV l) ((l.take i).filter fun d => decide (vget (ctxV l) d.r < d.c))), fun _ _ _ => rfl⟩
    refine lwp_inv I3 (n := l.length) ?_ ?_
    · rw [hI3]
      exact ⟨trivial, 0, .nils, by omega, (by simp only [bE, Nat.reduceEqDiff, bN, Nat.reduceLT, he]; try rfl), (by simp only [bE, Nat.reduceEqDiff, bN, Nat.reduceLT, he, e0]; try rfl), (by simp only [bE, Nat.reduceEqDiff, bN, Nat.reduceLT, he, e2]; try rfl), (by simp only [bE, Nat.reduceEqDiff, bN, Nat.reduceLT, he, e3]; try rfl), (by simp only [bE, Nat.reduceEqDiff, bN, Nat.reduceLT, he]; try rfl), by rw [List.take_zero, List.filter_nil]; exact hJ⟩
    clear he e0 e2 e3 e4 hni
    clear hJ
    intro n e t hi
    rw [hI3] at hi
    obtain ⟨hK, i, cc, hni, he, e0, e2, e3, e7, hJ⟩ := hi
    have hvvl : (ctxV l).length ≤ 64 := vecL_len _ 64
    obtain ⟨o0, o1, olt⟩ := row2_lod hJ.obox
    by_cases hlt3 : i < l.length
    · obtain ⟨x, hx⟩ := getsome hlt3
      have hw2 := wrap_add1 (n := i) (by omega)
      obtain ⟨a1, a2, a3, a4⟩ := dot_lods hr hJ.keep hx
      have hKR := hJ.keep.trans (keep_reserve t 1)
      obtain ⟨r1, r2, r3, r4⟩ := dot_lods hr hKR hx
      obtain ⟨p0, p1, plt⟩ := row2_lod ((keep_reserve t 1).blk hJ.obox)
      have i1 := dot_idx hr hx .i64
      have q1 := q_JLast true hJ.vec.read (by unfold lim; omega) x.r
      have hsn := fctx_snoc (v := ctxV l) hx
      by_cases hgt : vget (ctxV l) x.r < x.c
      · have z1 := eq_true hgt
        rw [if_pos hgt] at hsn
        obtain ⟨cc', t', hap, hsto, hbt, hJ'⟩ := hJ.appc x (by have := List.length_filter_le (fun d => decide (vget (ctxV l) d.r < d.c)) (l.take i); rw [List.length_take] at this; omega)
        rw [← hsn] at hJ'
        simp (config := {contextual := true, maxDischargeDepth := 12}) only [tb_at, he, e0, e2, e3, e7, hL, hlt3, hw2, a2, a3, a4, r1, r4, i1, o0, o1, olt, p0, p1, plt, q1, z1, hap, hsto, hbt, ↓bD, bU, forall_const, bS, implies_true, isNx, eq_self, ↓wp_cond, ↓wp_loop, ↓reduceIte, reduceCtorEq, Nat.reduceEqDiff, Nat.reduceLT, Nat.reduceAdd, Nat.reduceMul, bT, ↓sg_bsl, ↓st_callf, bX, List.cons_append, List.nil_append, ↓st_appf, bY, slcV_nils0N, slcV_sl0N, bslV_0N, bin_shr1, bsl_nd]
        refine ⟨n - 1, by omega, ?_⟩
        rw [hI3]
        exact ⟨trivial, i + 1, cc', by omega, (by simp only [bE, Nat.reduceEqDiff, bN, Nat.reduceLT, he, e0, e2, e3, e7]; try rfl), (by simp only [bE, Nat.reduceEqDiff, bN, Nat.reduceLT, he, e0, e2, e3, e7]; try rfl), (by simp only [bE, Nat.reduceEqDiff, bN, Nat.reduceLT, he, e0, e2, e3, e7]; try rfl), (by simp only [bE, Nat.reduceEqDiff, bN, Nat.reduceLT, he, e0, e2, e3, e7]; try rfl), (by simp only [bE, Nat.reduceEqDiff, bN, Nat.reduceLT, he, e0, e2, e3, e7]; try rfl), hJ'⟩
      · have z1 := eq_false hgt
        rw [if_neg hgt, List.append_nil] at hsn
        rw [← hsn] at hJ
        simp (config := {contextual := true, maxDischargeDepth := 12}) only [tb_at, he, e0, e2, e3, e7, hL, hlt3, hw2, a2, a3, a4, i1, o0, o1, olt, q1, z1, ↓bD, bU, forall_const, bS, implies_true, isNx, eq_self, ↓wp_cond, ↓wp_loop, ↓reduceIte, reduceCtorEq, Nat.reduceEqDiff, Nat.reduceLT, Nat.reduceAdd, Nat.reduceMul, bT, ↓sg_bsl, ↓st_callf, bX, List.cons_append, List.nil_append, ↓st_appf, bY, slcV_nils0N, slcV_sl0N, bslV_0N, bin_shr1, bsl_nd]
        refine ⟨n - 1, by omega, ?_⟩
        rw [hI3]
        exact ⟨trivial, i + 1, cc, by omega, (by simp only [bE, Nat.reduceEqDiff, bN, Nat.reduceLT, he, e0, e2, e3, e7]; try rfl), (by simp only [bE, Nat.reduceEqDiff, bN, Nat.reduceLT, he, e0, e2, e3, e7]; try rfl), (by simp only [bE, Nat.reduceEqDiff, bN, Nat.reduceLT, he, e0, e2, e3, e7]; try rfl), (by simp only [bE, Nat.reduceEqDiff, bN, Nat.reduceLT, he, e0, e2, e3, e7]; try rfl), (by simp only [bE, Nat.reduceEqDiff, bN, Nat.reduceLT, he, e0, e2, e3, e7]; try rfl), hJ⟩
    · obtain rfl : i = l.length := by omega
      rw [List.take_length] at hJ
      obtain ⟨f1, f2, f3, f4, f5, f6⟩ := hJ.done
      simp (config := {contextual := true, maxDischargeDepth := 12}) only [tb_at, he, e0, e2, e3, e7, hL, hlt3, f1, f2, f3, f4, rc1, ↓bD, bU, forall_const, bS, implies_true, isNx, eq_self, ↓wp_cond, ↓wp_loop, ↓reduceIte, reduceCtorEq, Nat.reduceEqDiff, Nat.reduceLT, Nat.reduceAdd, Nat.reduceMul, bT, ↓sg_bsl, ↓st_callf, bX, List.cons_append, List.nil_append, ↓st_appf, bY, slcV_nils0N, slcV_sl0N, bslV_0N, bin_shr1, bsl_nd]
      exact ⟨_, rfl, ⟨vv, cc, rfl, f5⟩, f6⟩
theorem q_JCtx {s : St} {v : AV} {l : List Dot} (hr : read dotC s v = some l) (hl : l.length ≤ 1000) : ∃ vv cc t, acall R_JCtx false [v] s = some (.agg [vv, cc], t) ∧ CR t vv cc (ctxL l) ∧ Keep s t := by
  obtain ⟨r, t, h1, ⟨vv, cc, rfl, h2⟩, h3⟩ := run_any n_JCtx (args := [v]) (Q := fun r t => ∃ vv cc, r = .agg [vv, cc] ∧ CR t vv cc (ctxL l)) (by simp [a34]) (fun r t t' hg hn ⟨vv, cc, e, h⟩ => ⟨vv, cc, e, h.mono fun id b hb => by rw [hg]; exact hb⟩) (fun r t hgr hk ⟨vv, cc, e, h⟩ => ⟨vv, cc, e, by
    rw [e] at hgr
    exact h.ground (plain_ground (ground_agg hgr).1) (plain_ground (ground_agg hgr).2)⟩) (w_JCtx (s := lowd s) (read_low' hr) hl)
  exact ⟨vv, cc, t, h1, h2, h3⟩

end Go.AM
end
/-
  Plain laws of digests: the theorem of stage 16. Own work of this project.
-/
section
namespace Go.AM
open Go Go.Proofs

/-- The digest of a store. -/
def deadN (l : List Nd) : List Nd := l.filter fun n => decide (n.x = 0)
def dgOf (l : List Nd) : DDg := ⟨addC ⟨[], []⟩ (l.map Nd.d), addC ⟨[], []⟩ ((deadN l).map Nd.d)⟩
def dgMerge (a b : DDg) : DDg := ⟨uniC a.all b.all, uniC a.gone b.gone⟩
def dgWithin (a b : DDg) : Bool := jwithin a.all b.all && jwithin a.gone b.gone
theorem dots_ok {l m : List Nd} (h : storeL l = true) (k : ∀ x ∈ m, x ∈ l) : (m.map Nd.d).all Dot.valid = true := by
  rw [List.all_map, List.all_eq_true]
  intro x hx
  have := store_mem h (k x hx)
  simp only [Nd.valid, Bool.and_eq_true] at this
  exact this.1.1.1.1.1
theorem dots_srt {l : List Nd} (h : l.Pairwise ltP) : Srt (l.map Nd.d) := List.pairwise_map.2 (h.imp fun q => q)
theorem cv0 : cvalid ⟨[], []⟩ = true := rfl
theorem chas_nil (d : Dot) : chas ⟨[], []⟩ d = false := by
  unfold chas
  cases hd : d.valid
  · rfl
  · have := (valid_iff d).1 hd
    have h1 : ¬ d.c ≤ vget (⟨[], []⟩ : DCx).v d.r := by show ¬ d.c ≤ 0; omega
    rw [decide_eq_false h1]
    simp
theorem has_dots {l m : List Nd} (h : storeL l = true) (k : ∀ x ∈ m, x ∈ l) (d : Dot) : chas (addC ⟨[], []⟩ (m.map Nd.d)) d = true ↔ ∃ x ∈ m, x.d = d := by
  rw [add_has cv0 (dots_ok h k), chas_nil, Bool.false_or, Bool.and_eq_true, decide_eq_true_eq, List.mem_map]
  constructor
  · rintro ⟨_, q⟩; exact q
  · rintro ⟨x, hx, rfl⟩
    exact ⟨chas_all (dots_ok h k) _ (List.mem_map_of_mem hx), x, hx, rfl⟩
theorem dead_sub (l : List Nd) : ∀ x ∈ deadN l, x ∈ l := fun x hx => (List.mem_filter.1 hx).1
theorem dgOf_all {l : List Nd} (h : storeL l = true) (d : Dot) : chas (dgOf l).all d = true ↔ ∃ x ∈ l, x.d = d := has_dots h (fun _ q => q) d
theorem dgOf_gone {l : List Nd} (h : storeL l = true) (d : Dot) : chas (dgOf l).gone d = true ↔ ∃ x ∈ l, x.d = d ∧ x.x = 0 := by
  rw [show (dgOf l).gone = addC ⟨[], []⟩ ((deadN l).map Nd.d) from rfl, has_dots h (dead_sub l)]
  constructor
  · rintro ⟨x, hx, e⟩
    obtain ⟨h1, h2⟩ := List.mem_filter.1 hx
    exact ⟨x, h1, e, by simpa using h2⟩
  · rintro ⟨x, hx, e, e2⟩
    exact ⟨x, List.mem_filter.2 ⟨hx, by simpa using e2⟩, e⟩
theorem dgOf_C {l : List Nd} (h : storeL l = true) : isC (dgOf l).all = true ∧ isC (dgOf l).gone = true := ⟨add_isC cv0 (dots_ok h fun _ q => q), add_isC cv0 (dots_ok h (dead_sub l))⟩
theorem dgOf_valid {l : List Nd} (h : storeL l = true) : dgV (dgOf l) = true := by
  obtain ⟨h1, h2⟩ := dgOf_C h
  unfold dgV
  rw [h1, h2, Bool.true_and, Bool.true_and, jwithin_iff h2 h1]
  intro d hd
  obtain ⟨x, hx, e, _⟩ := (dgOf_gone h d).1 hd
  exact (dgOf_all h d).2 ⟨x, hx, e⟩
structure DHolds (a b : List Nd) : Prop where
  sj : storeL (refJ a b) = true
  sd : storeL (diffD a (dgOf b)) = true
  j1 : joinsP a b = (refJ a b, 0)
  j2 : joinsP b (diffD a (dgOf b)) = (refJ a b, 0)
  w1 : withinP (diffD a (dgOf b)) a = (true, 0)
  m : dgOf (refJ a b) = dgMerge (dgOf a) (dgOf b)
  w2 : withinP a b = (dgWithin (dgOf a) (dgOf b), 0)
end Go.AM
end
/-
  Digests as the reference of layer 16 looks at them. Own work of this project; in part printed by a program of it.
-/
section
set_option maxRecDepth 100000
set_option maxHeartbeats 8000000
namespace Go.AM
open Go Go.Proofs

variable {s t u : St}

theorem boxV_4 {a b c d : AV} (ha : a.one = true) (hb : b.one = true) (hc : c.one = true) (hd : d.one = true) : boxV 4 (.agg [a, b, c, d]) = some (fun id => .ptr id 0, .row [a, b, c, d] true) := by
  simp [boxV, AV.cells, ha, hb, hc, hd]
theorem row4_lods {id : Nat} {a b c d : AV} {own : Bool} (h : t.get id = some (.row [a, b, c, d] own)) : lod t 4 (.ptr id 0) = some (.agg [a, b, c, d]) ∧ lod t 2 (.ptr id 0) = some (.agg [a, b]) ∧ lod t 2 (.ptr id 2) = some (.agg [c, d]) ∧ lod1 t (.ptr id 0) = some a ∧ lod1 t (.ptr id 1) = some b ∧ lod1 t (.ptr id 2) = some c ∧ lod1 t (.ptr id 3) = some d ∧ ltN id t :=
  ⟨by simp [lod, h], by simp [lod, h], by simp [lod, h], by simp [lod1, h], by simp [lod1, h], by simp [lod1, h], by simp [lod1, h], St.get_lt h⟩
theorem box_dg (s : St) (a b c d : AV) (hK : Keep (s.push (.row [a, b, c, d] true)) t) : lod t 4 (.ptr s.next 0) = some (.agg [a, b, c, d]) ∧ lod t 2 (.ptr s.next 0) = some (.agg [a, b]) ∧ lod t 2 (.ptr s.next 2) = some (.agg [c, d]) ∧ lod1 t (.ptr s.next 0) = some a ∧ lod1 t (.ptr s.next 1) = some b ∧ lod1 t (.ptr s.next 2) = some c ∧ lod1 t (.ptr s.next 3) = some d ∧ ltN s.next t :=
  row4_lods (hK.blk (St.get_push_new s _))
structure DgR (t : St) (a b c d : AV) (D : DDg) : Prop where
  r1 : read dotC t a = some D.all.v
  r2 : read dotC t b = some D.all.c
  r3 : read dotC t c = some D.gone.v
  r4 : read dotC t d = some D.gone.c
theorem DgR.mono {a b c d : AV} {D : DDg} (h : DgR t a b c d D) (k : ∀ id b, t.get id = some b → u.get id = some b) : DgR u a b c d D := ⟨read_mono h.r1 k, read_mono h.r2 k, read_mono h.r3 k, read_mono h.r4 k⟩
theorem DgR.keep {a b c d : AV} {D : DDg} (h : DgR t a b c d D) (k : Keep t u) : DgR u a b c d D := h.mono fun _ _ => k.blk
theorem DgR.low {a b c d : AV} {D : DDg} (h : DgR s a b c d D) : DgR (lowd s) a b c d D := ⟨read_low' h.r1, read_low' h.r2, read_low' h.r3, read_low' h.r4⟩
theorem DgR.box {a b c d : AV} {D : DDg} (h : DgR t a b c d D) : boxV 4 (.agg [a, b, c, d]) = some (fun id => .ptr id 0, .row [a, b, c, d] true) := boxV_4 (read_oneD h.r1).2 (read_oneD h.r2).2 (read_oneD h.r3).2 (read_oneD h.r4).2
theorem DgR.nils : DgR t .nils .nils .nils .nils ⟨⟨[], []⟩, ⟨[], []⟩⟩ := ⟨rfl, rfl, rfl, rfl⟩
theorem DgR.ground {a b c d : AV} {D : DDg} (h : DgR t a b c d D) (h1 : a.ground = true) (h2 : b.ground = true) (h3 : c.ground = true) (h4 : d.ground = true) : DgR u a b c d D := by
  obtain ⟨rfl, e1⟩ := read_ground h.r1 h1
  obtain ⟨rfl, e2⟩ := read_ground h.r2 h2
  obtain ⟨rfl, e3⟩ := read_ground h.r3 h3
  obtain ⟨rfl, e4⟩ := read_ground h.r4 h4
  exact ⟨by rw [e1]; rfl, by rw [e2]; rfl, by rw [e3]; rfl, by rw [e4]; rfl⟩
theorem sto_dg {n : Nat} {s : St} (h : sameN n s) {a b c d : AV} {D : DDg} {u : St} (k : DgR u a b c d D) : sto (s.push (.row [.nils, .nils, .nils, .nils] true)) 4 (.ptr n 0) (.agg [a, b, c, d]) = some (.und, s.lowed.push (.row [a, b, c, d] true)) := by
  unfold sameN at h
  subst h
  simp [sto, St.get_push_new, push_put, AV.cells, (read_oneD k.r1).2, (read_oneD k.r2).2, (read_oneD k.r3).2, (read_oneD k.r4).2, setAt]
theorem sto_row4 {id : Nat} {x1 x2 x3 x4 a b c d : AV} (h : t.get id = some (.row [x1, x2, x3, x4] true)) {D : DDg} {u : St} (k : DgR u a b c d D) : sto t 4 (.ptr id 0) (.agg [a, b, c, d]) = some (.und, t.put id (.row [a, b, c, d] true)) := by
  simp [sto, h, AV.cells, (read_oneD k.r1).2, (read_oneD k.r2).2, (read_oneD k.r3).2, (read_oneD k.r4).2, setAt]
theorem fstep_q0 {a b : AV} (ha : a.one = true) (hb : b.one = true) (w x y z : AV) (K : List AV → Option (List AV)) : fstep [w, x, y, z] 0 2 (.agg [a, b]) K = K [a, b, y, z] := by
  simp [fstep, AV.cells, ha, hb, setAt]
theorem fstep_q2 {a b : AV} (ha : a.one = true) (hb : b.one = true) (w x y z : AV) (K : List AV → Option (List AV)) : fstep [w, x, y, z] 2 2 (.agg [a, b]) K = K [w, x, a, b] := by
  simp [fstep, AV.cells, ha, hb, setAt]
structure DgL (D : DDg) (n : Nat) : Prop where
  l1 : D.all.v.length ≤ n
  l2 : D.all.c.length ≤ n
  l3 : D.gone.v.length ≤ n
  l4 : D.gone.c.length ≤ n
theorem lim_1000 {n : Nat} (h : n ≤ 1000) : n ≤ lim := by unfold lim; omega
theorem lim_80 {n : Nat} (h : n ≤ 1000) : n ≤ 80000 := by omega
theorem dg_dec (D G : DDg) : (decide (D.all = G.all) && decide (D.gone = G.gone)) = decide (D = G) := by
  rw [Bool.eq_iff_iff]
  simp only [Bool.and_eq_true, decide_eq_true_eq]
  constructor
  · rintro ⟨h1, h2⟩
    cases D; cases G; simp only at h1 h2; rw [h1, h2]
  · rintro rfl; exact ⟨rfl, rfl⟩
noncomputable def R_RgSame : Con := runFn (tb [(47, R_JSameC)]) a26
theorem s_RgSame : SoundAt Tryz.prog 26 R_RgSame := run_sound (tb_sound (l := [(47, R_JSameC)]) (by simpa using s_JSameC)) mixed Tryz.func26 k26 c26
theorem n_RgSame : noNxtC a26.body = true := by kernel_rfl
theorem w_RgSame {s : St} {a1 b1 c1 d1 : AV} {D : DDg} (hD : DgR s a1 b1 c1 d1 D) (hDl : DgL D 1000) {a2 b2 c2 d2 : AV} {G : DDg} (hG : DgR s a2 b2 c2 d2 G) (hGl : DgL G 1000) : ∀ env : Env, elen env = a26.ntmps → (∀ i x_, [.agg [a1, b1, c1, d1], .agg [a2, b2, c2, d2]][i]? = some x_ → E env i = x_) → awp (tb [(47, R_JSameC)]) a26.body (fun x e t => (∀ i, x ≠ .exit i) ∧ aresults e t a26.results = some (.bool (decide (D = G))) ∧ Keep s t) env s := by
  intro env hlen ha
  have h0 : E env 0 = _ := ha 0 _ rfl
  have h1 : E env 1 = _ := ha 1 _ rfl
  have hlen : elen env = _ := hlen
  simp only [a26] at hlen
  unfold a26
  try dsimp only [oO, oG]
  have hbx := hD.box
  have hby := hG.box
  have hK2 : Keep s ((s.push (.row [a1, b1, c1, d1] true)).push (.row [a2, b2, c2, d2] true)) := ((Keep.refl s).push _).push _
  have hK12 : Keep (s.push (.row [a1, b1, c1, d1] true)) ((s.push (.row [a1, b1, c1, d1] true)).push (.row [a2, b2, c2, d2] true)) := (Keep.refl _).push _
  obtain ⟨p1, p2, p3, p4, p5, p6, p7, p8⟩ := box_dg s a1 b1 c1 d1 hK12
  obtain ⟨r1, r2, r3, r4, r5, r6, r7, r8⟩ := box_dg (s.push (.row [a1, b1, c1, d1] true)) a2 b2 c2 d2 (.refl _)
  have q1 := q_JSameC false (hK2.read hD.r1) (hK2.read hD.r2) (lim_1000 hDl.l1) (lim_1000 hDl.l2) (hK2.read hG.r1) (hK2.read hG.r2) (lim_1000 hGl.l1) (lim_1000 hGl.l2)
  have q2 := q_JSameC false (hK2.read hD.r3) (hK2.read hD.r4) (lim_1000 hDl.l3) (lim_1000 hDl.l4) (hK2.read hG.r3) (hK2.read hG.r4) (lim_1000 hGl.l3) (lim_1000 hGl.l4)
  rw [← dg_dec]
  simp (config := {contextual := true, maxDischargeDepth := 12}) only [tb_at, h0, h1, hlen, q1, q2, hbx, hby, p1, p2, p3, p4, p5, p6, p7, p8, r1, r2, r3, r4, r5, r6, r7, r8, ↓bD, bU, forall_const, bS, implies_true, isNx, eq_self, ↓wp_cond, ↓wp_loop, ↓reduceIte, reduceCtorEq, Nat.reduceEqDiff, Nat.reduceLT, Nat.reduceAdd, Nat.reduceMul, bT, ↓sg_bsl, ↓st_callf, bX, List.cons_append, List.nil_append, ↓st_appf, bY, slcV_nils0N, slcV_sl0N, bslV_0N, bin_shr1, bsl_nd]
  all_goals first | exact hK2 | skip
theorem q_RgSame (cl : Bool) {s : St} {a1 b1 c1 d1 : AV} {D : DDg} (hD : DgR s a1 b1 c1 d1 D) (hDl : DgL D 1000) {a2 b2 c2 d2 : AV} {G : DDg} (hG : DgR s a2 b2 c2 d2 G) (hGl : DgL G 1000) : acall R_RgSame cl [.agg [a1, b1, c1, d1], .agg [a2, b2, c2, d2]] s = some (.bool (decide (D = G)), s) := run_same n_RgSame (by simp [a26]) rfl (w_RgSame (s := lowd s) hD.low hDl hG.low hGl)
theorem dgV_parts {D : DDg} (h : dgV D = true) : isC D.all = true ∧ isC D.gone = true ∧ jwithin D.gone D.all = true := by
  unfold dgV at h
  simpa only [Bool.and_eq_true] using h
end Go.AM
end
/-
  Digests: the package; the reference and its Of. Own work of this project; in part printed by a program of it.
-/
section
set_option maxRecDepth 100000
set_option maxHeartbeats 8000000
namespace Go.AM
open Go Go.Proofs

variable {s t u : St}

theorem win_eq {a b : DCx} (ha : isC a = true) (hb : isC b = true) : decide (uniC a b = compC b) = jwithin a b := by
  rw [Bool.eq_iff_iff, decide_eq_true_eq, jwithin_iff ha hb]
  exact sub_iff ((isC_iff a).1 ha).1 ((isC_iff b).1 hb).1
theorem isC_cvalid {x : DCx} (h : isC x = true) : cvalid x = true := ((isC_iff x).1 h).1
theorem dgV_false_a {D : DDg} (h : isC D.all = false) : dgV D = false := by unfold dgV; rw [h]; rfl
theorem dgV_false_g {D : DDg} (h : isC D.gone = false) : dgV D = false := by unfold dgV; rw [h]; cases isC D.all <;> rfl
theorem isC_of_cvalid {x : DCx} (h : cvalid x = false) : isC x = false := by unfold isC; rw [h]; rfl
theorem add_l0 {l : List Dot} (h : l.length ≤ 500) : (addC ⟨[], []⟩ l).v.length ≤ 1000 ∧ (addC ⟨[], []⟩ l).c.length ≤ 1000 := by
  have := add_len ⟨[], []⟩ l
  simp only [List.length_nil, Nat.zero_add] at this
  omega
theorem dgOf_len {l : List Nd} (h : l.length ≤ 500) : DgL (dgOf l) 1000 := by
  have h1 := add_l0 (l := l.map Nd.d) (by rw [List.length_map]; exact h)
  have h2 := add_l0 (l := (deadN l).map Nd.d) (by rw [List.length_map]; exact Nat.le_trans (List.length_filter_le _ _) h)
  exact ⟨h1.1, h1.2, h2.1, h2.2⟩
noncomputable def R_DgValid : Con := runFn (tb [(36, R_CWithin), (37, R_IsC)]) a12
theorem s_DgValid : SoundAt Tryz.prog 12 R_DgValid := run_sound (tb_sound (l := [(36, R_CWithin), (37, R_IsC)]) (by simpa using ⟨s_CWithin, s_IsC⟩)) mixed Tryz.func12 k12 c12
theorem n_DgValid : noNxtC a12.body = true := by kernel_rfl
theorem w_DgValid {s : St} {a1 b1 c1 d1 : AV} {D : DDg} (hD : DgR s a1 b1 c1 d1 D) (hDl : DgL D 1000) : ∀ env : Env, elen env = a12.ntmps → (∀ i x_, [.agg [a1, b1, c1, d1]][i]? = some x_ → E env i = x_) → awp (tb [(36, R_CWithin), (37, R_IsC)]) a12.body (fun x e t => (∀ i, x ≠ .exit i) ∧ aresults e t a12.results = some (.bool (dgV D)) ∧ Keep s t) env s := by
  intro env hlen ha
  have h0 : E env 0 = _ := ha 0 _ rfl
  have hlen : elen env = _ := hlen
  simp only [a12] at hlen
  unfold a12
  try dsimp only [oO, oG]
  have hbx := hD.box
  have hK1 : Keep s (s.push (.row [a1, b1, c1, d1] true)) := (Keep.refl s).push _
  obtain ⟨p1, p2, p3, p4, p5, p6, p7, p8⟩ := box_dg s a1 b1 c1 d1 (.refl _)
  have q2 := q_IsC false (hK1.read hD.r1) (hK1.read hD.r2) (lim_1000 hDl.l1) (lim_1000 hDl.l2)
  have q3 := q_IsC false (hK1.read hD.r3) (hK1.read hD.r4) (lim_1000 hDl.l3) (lim_1000 hDl.l4)
  have n20 : ((2 : Int) = 0) = False := eq_false (by decide)
  have n00 : ((0 : Int) = 0) = True := eq_true rfl
  cases hc : cvalid D.gone && cvalid D.all
  · have q1 := q_CWithin_bad false (hK1.read hD.r3) (hK1.read hD.r4) (lim_80 hDl.l3) (lim_80 hDl.l4) (hK1.read hD.r1) (hK1.read hD.r2) (lim_80 hDl.l1) (lim_80 hDl.l2) hc
    have hS : dgV D = false := by
      rw [Bool.and_eq_false_iff] at hc
      exact hc.elim (fun h => dgV_false_g (isC_of_cvalid h)) fun h => dgV_false_a (isC_of_cvalid h)
    rw [hS]
    cases h1 : isC D.all
    · rw [h1] at q2
      simp (config := {contextual := true, maxDischargeDepth := 12}) only [tb_at, h0, hlen, q1, q2, hbx, p1, p2, p3, p4, p5, p6, p7, p8, ↓bD, bU, forall_const, bS, implies_true, isNx, eq_self, ↓wp_cond, ↓wp_loop, ↓reduceIte, reduceCtorEq, Nat.reduceEqDiff, Nat.reduceLT, Nat.reduceAdd, Nat.reduceMul, bT, ↓sg_bsl, ↓st_callf, bX, List.cons_append, List.nil_append, ↓st_appf, bY, slcV_nils0N, slcV_sl0N, bslV_0N, bin_shr1, bsl_nd]
      all_goals first | exact hK1 | skip
    rw [h1] at q2
    cases h2 : isC D.gone
    · rw [h2] at q3
      simp (config := {contextual := true, maxDischargeDepth := 12}) only [tb_at, h0, hlen, q1, q2, q3, hbx, p1, p2, p3, p4, p5, p6, p7, p8, ↓bD, bU, forall_const, bS, implies_true, isNx, eq_self, ↓wp_cond, ↓wp_loop, ↓reduceIte, reduceCtorEq, Nat.reduceEqDiff, Nat.reduceLT, Nat.reduceAdd, Nat.reduceMul, bT, ↓sg_bsl, ↓st_callf, bX, List.cons_append, List.nil_append, ↓st_appf, bY, slcV_nils0N, slcV_sl0N, bslV_0N, bin_shr1, bsl_nd]
      all_goals first | exact hK1 | skip
    rw [h2] at q3
    simp (config := {contextual := true, maxDischargeDepth := 12}) only [tb_at, h0, hlen, q1, q2, q3, n20, decide_false, bin_eqE, hbx, p1, p2, p3, p4, p5, p6, p7, p8, ↓bD, bU, forall_const, bS, implies_true, isNx, eq_self, ↓wp_cond, ↓wp_loop, ↓reduceIte, reduceCtorEq, Nat.reduceEqDiff, Nat.reduceLT, Nat.reduceAdd, Nat.reduceMul, bT, ↓sg_bsl, ↓st_callf, bX, List.cons_append, List.nil_append, ↓st_appf, bY, slcV_nils0N, slcV_sl0N, bslV_0N, bin_shr1, bsl_nd]
    all_goals first | exact hK1 | skip
  rw [Bool.and_eq_true] at hc
  have q1 := q_CWithin false (hK1.read hD.r3) (hK1.read hD.r4) (lim_80 hDl.l3) (lim_80 hDl.l4) (hK1.read hD.r1) (hK1.read hD.r2) (lim_80 hDl.l1) (lim_80 hDl.l2) hc.1 hc.2
  cases h1 : isC D.all
  · rw [h1] at q2
    rw [dgV_false_a h1]
    simp (config := {contextual := true, maxDischargeDepth := 12}) only [tb_at, h0, hlen, q1, q2, hbx, p1, p2, p3, p4, p5, p6, p7, p8, ↓bD, bU, forall_const, bS, implies_true, isNx, eq_self, ↓wp_cond, ↓wp_loop, ↓reduceIte, reduceCtorEq, Nat.reduceEqDiff, Nat.reduceLT, Nat.reduceAdd, Nat.reduceMul, bT, ↓sg_bsl, ↓st_callf, bX, List.cons_append, List.nil_append, ↓st_appf, bY, slcV_nils0N, slcV_sl0N, bslV_0N, bin_shr1, bsl_nd]
    all_goals first | exact hK1 | skip
  rw [h1] at q2
  cases h2 : isC D.gone
  · rw [h2] at q3
    rw [dgV_false_g h2]
    simp (config := {contextual := true, maxDischargeDepth := 12}) only [tb_at, h0, hlen, q1, q2, q3, hbx, p1, p2, p3, p4, p5, p6, p7, p8, ↓bD, bU, forall_const, bS, implies_true, isNx, eq_self, ↓wp_cond, ↓wp_loop, ↓reduceIte, reduceCtorEq, Nat.reduceEqDiff, Nat.reduceLT, Nat.reduceAdd, Nat.reduceMul, bT, ↓sg_bsl, ↓st_callf, bX, List.cons_append, List.nil_append, ↓st_appf, bY, slcV_nils0N, slcV_sl0N, bslV_0N, bin_shr1, bsl_nd]
    all_goals first | exact hK1 | skip
  rw [h2] at q3
  rw [win_eq h2 h1] at q1
  have hS : dgV D = jwithin D.gone D.all := by unfold dgV; rw [h1, h2]; rfl
  rw [hS]
  simp (config := {contextual := true, maxDischargeDepth := 12}) only [tb_at, h0, hlen, q1, q2, q3, n00, decide_true, bin_eqE, hbx, p1, p2, p3, p4, p5, p6, p7, p8, ↓bD, bU, forall_const, bS, implies_true, isNx, eq_self, ↓wp_cond, ↓wp_loop, ↓reduceIte, reduceCtorEq, Nat.reduceEqDiff, Nat.reduceLT, Nat.reduceAdd, Nat.reduceMul, bT, ↓sg_bsl, ↓st_callf, bX, List.cons_append, List.nil_append, ↓st_appf, bY, slcV_nils0N, slcV_sl0N, bslV_0N, bin_shr1, bsl_nd]
  all_goals first | exact hK1 | skip
theorem q_DgValid (cl : Bool) {s : St} {a1 b1 c1 d1 : AV} {D : DDg} (hD : DgR s a1 b1 c1 d1 D) (hDl : DgL D 1000) : acall R_DgValid cl [.agg [a1, b1, c1, d1]] s = some (.bool (dgV D), s) := run_same n_DgValid (by simp [a12]) rfl (w_DgValid (s := lowd s) hD.low hDl)
theorem ground4 {a b c d : AV} (h : (AV.agg [a, b, c, d]).ground = true) : a.plain = true ∧ b.plain = true ∧ c.plain = true ∧ d.plain = true := by
  simpa [AV.ground, and_assoc] using h
theorem ground4t {a b c d e : AV} (h : (AV.tup [.agg [a, b, c, d], e]).ground = true) : a.plain = true ∧ b.plain = true ∧ c.plain = true ∧ d.plain = true := by
  simp [AV.ground, AV.plains, and_assoc] at h
  exact ⟨h.1, h.2.1, h.2.2.1, h.2.2.2.1⟩

theorem dgr_put {id : Nat} {n1 n2 n3 n4 x1 x2 x3 x4 : AV} {D : DDg} (h : t.get id = some (.row [.nils, .nils, .nils, .nils] true)) (hR : DgR t x1 x2 x3 x4 D) : DgR (t.put id (.row [n1, n2, n3, n4] true)) x1 x2 x3 x4 D := by
  have hlt := St.get_lt h
  have key : ∀ {v : AV} {l : List Dot}, read dotC t v = some l → read dotC (t.put id (.row [n1, n2, n3, n4] true)) v = some l := by
    intro v l hr
    cases v with
    | nils => exact hr
    | sl j off n cap z =>
      obtain ⟨rfl, hn, cs, own', hg, h1, h2, _⟩ := read_sl hr
      by_cases hj : j = id
      · subst hj
        rw [h] at hg
        injection hg with hg
        injection hg with hg _
        subst hg
        cases l with
        | nil =>
          simp at hn
          subst hn
          exact read_of (C := dotC) (n := 0) rfl (St.get_put_same h) (by simp at h1 ⊢; omega) (by simp [cells_nil])
        | cons d r =>
          exfalso
          have h22 : dotC.sz = 2 := rfl
          rw [h22] at h2 h1
          have hc : dotC.cells (d :: r) = .int .i64 d.r :: .int .i64 d.c :: dotC.cells r := by rw [cells_cons]; rfl
          rw [hc] at h2
          have hm : (AV.int .i64 d.r) ∈ [AV.nils, .nils, .nils, .nils] := by
            have : (AV.int .i64 d.r) ∈ (List.drop off [AV.nils, .nils, .nils, .nils]).take (n * 2) := by rw [h2]; simp
            exact List.mem_of_mem_drop (List.mem_of_mem_take this)
          simp at hm
      · exact read_of hn (by rw [St.get_put_ne _ _ hlt hj]; exact hg) h1 h2
    | _ => simp [AM.read] at hr
  exact ⟨key hR.r1, key hR.r2, key hR.r3, key hR.r4⟩
noncomputable def R_RgOf : Con := runFn (tb [(35, R_JDots), (34, R_JCtx)]) a11
theorem s_RgOf : SoundAt Tryz.prog 11 R_RgOf := run_sound (tb_sound (l := [(35, R_JDots), (34, R_JCtx)]) (by simpa using ⟨s_JDots, s_JCtx⟩)) mixed Tryz.func11 k11 c11
theorem n_RgOf : noNxtC a11.body = true := by kernel_rfl
theorem w_RgOf {s : St} {vl : AV} {l : List Nd} (hr : read ndC s vl = some l) (hl : l.length ≤ 500) (hst : storeL l = true) : ∀ env : Env, elen env = a11.ntmps → (∀ i x_, [vl][i]? = some x_ → E env i = x_) → awp (tb [(35, R_JDots), (34, R_JCtx)]) a11.body (fun x e t => (∀ i, x ≠ .exit i) ∧ ∃ r, aresults e t a11.results = some r ∧ (∃ x1 x2 x3 x4, r = .agg [x1, x2, x3, x4] ∧ DgR t x1 x2 x3 x4 (dgOf l)) ∧ Keep s t) env s := by
  intro env hlen ha
  have h0 : E env 0 = _ := ha 0 _ rfl
  have hlen : elen env = _ := hlen
  simp only [a11] at hlen
  unfold a11
  try dsimp only [oO, oG]
  have hK1 : Keep s (s.push (.row [.nils, .nils, .nils, .nils] true)) := (Keep.refl s).push _
  obtain ⟨u1, t1, q1, hO1, hK2⟩ := q_JDots (hK1.read hr) (by omega) false
  rw [dotsR_f] at hO1
  obtain ⟨x1, x2, t2, q2, hC2, hK3⟩ := q_JCtx hO1.read (by rw [List.length_map]; omega)
  obtain ⟨u3, t3, q3, hO3, hK4⟩ := q_JDots (((hK1.trans hK2).trans hK3).read hr) (by omega) true
  rw [dotsR_t] at hO3
  obtain ⟨x3, x4, t4, q4, hC4, hK5⟩ := q_JCtx hO3.read (by rw [List.length_map]; exact Nat.le_trans (List.length_filter_le _ _) (by omega))
  have hs := store_sorted hst
  rw [ctxL_eq (dots_srt hs) (dots_ok hst fun _ q => q)] at hC2
  rw [ctxL_eq (dots_srt (l := deadL l) (hs.filter _)) (dots_ok hst (dead_sub l))] at hC4
  have hC2' := hC2.keep (hK4.trans hK5)
  have hR : DgR t4 x1 x2 x3 x4 (dgOf l) := ⟨hC2'.1, hC2'.2, hC4.1, hC4.2⟩
  have hKr := (hK2.trans hK3).trans (hK4.trans hK5)
  have hbx := hKr.blk (St.get_push_new s (.row [.nils, .nils, .nils, .nils] true))
  have f0 := fstep_q0 (read_oneD hR.r1).2 (read_oneD hR.r2).2 .nils .nils .nils .nils
  have f2 := fstep_q2 (read_oneD hR.r3).2 (read_oneD hR.r4).2 x1 x2 .nils .nils
  have st4 := sto_row4 hbx hR
  have hlt := St.get_lt hbx
  obtain ⟨p1, p2, p3, p4, p5, p6, p7, p8⟩ := row4_lods (St.get_put_same (b := .row [x1, x2, x3, x4] true) hbx)
  simp (config := {contextual := true, maxDischargeDepth := 12}) only [tb_at, h0, hlen, q1, q2, q3, q4, ap_build, fillP_nil, fillP_cons, f0, f2, st4, hlt, p1, rc1, ↓bD, bU, forall_const, bS, implies_true, isNx, eq_self, ↓wp_cond, ↓wp_loop, ↓reduceIte, reduceCtorEq, Nat.reduceEqDiff, Nat.reduceLT, Nat.reduceAdd, Nat.reduceMul, bT, ↓sg_bsl, ↓st_callf, bX, List.cons_append, List.nil_append, ↓st_appf, bY, slcV_nils0N, slcV_sl0N, bslV_0N, bin_shr1, bsl_nd]
  exact ⟨_, rfl, ⟨x1, x2, x3, x4, rfl, dgr_put hbx hR⟩, (hK1.trans hKr).put _ (by simp) hlt⟩
theorem q_RgOf {s : St} {vl : AV} {l : List Nd} (hr : read ndC s vl = some l) (hl : l.length ≤ 500) (hst : storeL l = true) : ∃ x1 x2 x3 x4 t, acall R_RgOf false [vl] s = some (.agg [x1, x2, x3, x4], t) ∧ DgR t x1 x2 x3 x4 (dgOf l) ∧ Keep s t := by
  obtain ⟨r, t, h1, ⟨x1, x2, x3, x4, rfl, h2⟩, h3⟩ := run_any n_RgOf (args := [vl]) (Q := fun r t => ∃ x1 x2 x3 x4, r = .agg [x1, x2, x3, x4] ∧ DgR t x1 x2 x3 x4 (dgOf l)) (by simp [a11]) (fun r t t' hg hn ⟨x1, x2, x3, x4, e, h⟩ => ⟨x1, x2, x3, x4, e, h.mono fun id b hb => by rw [hg]; exact hb⟩) (fun r t hgr hk ⟨x1, x2, x3, x4, e, h⟩ => ⟨x1, x2, x3, x4, e, by
    rw [e] at hgr
    obtain ⟨g1, g2, g3, g4⟩ := ground4 hgr
    exact h.ground (plain_ground g1) (plain_ground g2) (plain_ground g3) (plain_ground g4)⟩) (w_RgOf (s := lowd s) (read_low' hr) hl hst)
  exact ⟨x1, x2, x3, x4, t, h1, h2, h3⟩

end Go.AM
end
/-
  Digests: Of, Within, Merge of the package. Own work of this project; in part printed by a program of it.
-/
section
set_option maxRecDepth 100000
set_option maxHeartbeats 8000000
namespace Go.AM
open Go Go.Proofs

variable {s t u : St}
noncomputable def R_DgOf : Con := runFn (tb [(48, R_SCtx), (49, R_SDead)]) a28
theorem s_DgOf : SoundAt Tryz.prog 28 R_DgOf := run_sound (tb_sound (l := [(48, R_SCtx), (49, R_SDead)]) (by simpa using ⟨s_SCtx, s_SDead⟩)) mixed Tryz.func28 k28 c28
theorem n_DgOf : noNxtC a28.body = true := by kernel_rfl
theorem w_DgOf_bad {s : St} {vl : AV} {l : List Nd} (hr : read ndC s vl = some l) (hl : l.length ≤ 500) (hst : storeL l = false) : ∀ env : Env, elen env = a28.ntmps → (∀ i x_, [vl][i]? = some x_ → E env i = x_) → awp (tb [(48, R_SCtx), (49, R_SDead)]) a28.body (fun x e t => (∀ i, x ≠ .exit i) ∧ aresults e t a28.results = some (.tup [.agg [.nils, .nils, .nils, .nils], .int .i64 2]) ∧ Keep s t) env s := by
  intro env hlen ha
  have h0 : E env 0 = _ := ha 0 _ rfl
  have hlen : elen env = _ := hlen
  simp only [a28] at hlen
  unfold a28
  try dsimp only [oO, oG]
  have hK1 : Keep s (s.push (.row [.nils, .nils, .nils, .nils] true)) := (Keep.refl s).push _
  have q1 := q_SCtx_bad false (hK1.read hr) (by omega) hst
  have hst0 := sto_ctx (show sameN (s.push (.row [.nils, .nils, .nils, .nils] true)).next (s.push (.row [.nils, .nils, .nils, .nils] true)) from rfl) (a := .nils) (b := .nils) rfl rfl
  have hK2 : Keep (s.push (.row [.nils, .nils, .nils, .nils] true)) ((s.push (.row [.nils, .nils, .nils, .nils] true)).lowed.push (.row [.nils, .nils] true)) := (Keep.refl _).lowed.push _
  have hbx := hK2.blk (St.get_push_new s (.row [.nils, .nils, .nils, .nils] true))
  have st4 := sto_row4 (D := ⟨⟨[], []⟩, ⟨[], []⟩⟩) (u := s) hbx (a := .nils) (b := .nils) (c := .nils) (d := .nils) .nils
  have hlt := St.get_lt hbx
  obtain ⟨p1, p2, p3, p4, p5, p6, p7, p8⟩ := row4_lods (St.get_put_same (b := .row [.nils, .nils, .nils, .nils] true) hbx)
  have n20 : ((2 : Int) = 0) = False := eq_false (by decide)
  have n00 : ((0 : Int) = 0) = True := eq_true rfl
  simp (config := {contextual := true, maxDischargeDepth := 12}) only [tb_at, h0, hlen, q1, hst0, n20, decide_false, Bool.not_false, bin_eqE, ap_build, fillP_nil, st4, hlt, p1, p8, rc2, ↓bD, bU, forall_const, bS, implies_true, isNx, eq_self, ↓wp_cond, ↓wp_loop, ↓reduceIte, reduceCtorEq, Nat.reduceEqDiff, Nat.reduceLT, Nat.reduceAdd, Nat.reduceMul, bT, ↓sg_bsl, ↓st_callf, bX, List.cons_append, List.nil_append, ↓st_appf, bY, slcV_nils0N, slcV_sl0N, bslV_0N, bin_shr1, bsl_nd]
  all_goals first | exact (hK1.trans hK2).put _ (by simp) hlt | skip
theorem q_DgOf_bad (cl : Bool) {s : St} {vl : AV} {l : List Nd} (hr : read ndC s vl = some l) (hl : l.length ≤ 500) (hst : storeL l = false) : acall R_DgOf cl [vl] s = some (.tup [.agg [.nils, .nils, .nils, .nils], .int .i64 2], s) := run_same n_DgOf (by simp [a28]) rfl (w_DgOf_bad (s := lowd s) (read_low' hr) hl hst)
theorem w_DgOf {s : St} {vl : AV} {l : List Nd} (hr : read ndC s vl = some l) (hl : l.length ≤ 500) (hst : storeL l = true) : ∀ env : Env, elen env = a28.ntmps → (∀ i x_, [vl][i]? = some x_ → E env i = x_) → awp (tb [(48, R_SCtx), (49, R_SDead)]) a28.body (fun x e t => (∀ i, x ≠ .exit i) ∧ ∃ r, aresults e t a28.results = some r ∧ (∃ x1 x2 x3 x4, r = .tup [.agg [x1, x2, x3, x4], .int .i64 0] ∧ DgR t x1 x2 x3 x4 (dgOf l)) ∧ Keep s t) env s := by
  intro env hlen ha
  have h0 : E env 0 = _ := ha 0 _ rfl
  have hlen : elen env = _ := hlen
  simp only [a28] at hlen
  unfold a28
  try dsimp only [oO, oG]
  have hK1 : Keep s (s.push (.row [.nils, .nils, .nils, .nils] true)) := (Keep.refl s).push _
  obtain ⟨x1, x2, t1, q1, hC1, hK2⟩ := q_SCtx (hK1.read hr) (by omega) hst
  have hs1 := sto_ctx (show sameN t1.next t1 from rfl) (read_oneD hC1.1).2 (read_oneD hC1.2).2
  have hK3 : Keep t1 (t1.lowed.push (.row [x1, x2] true)) := (Keep.refl t1).lowed.push _
  have hg3 := St.get_push_new t1.lowed (.row [x1, x2] true)
  have hKa := (hK1.trans hK2).trans hK3
  obtain ⟨x3, x4, t2, q2, hC2, hK4⟩ := q_SDead (hKa.read hr) (by omega) hst
  have hs2 := sto_ctx (show sameN t2.next t2 from rfl) (read_oneD hC2.1).2 (read_oneD hC2.2).2
  have hK5 : Keep t2 (t2.lowed.push (.row [x3, x4] true)) := (Keep.refl t2).lowed.push _
  have hg5 := St.get_push_new t2.lowed (.row [x3, x4] true)
  have d1 : lod (t2.lowed.push (.row [x3, x4] true)) 2 (.ptr t1.next 0) = some (.agg [x1, x2]) := lod_row2 ((hK4.trans hK5).blk hg3)
  have d2 : ltN t1.next (t2.lowed.push (.row [x3, x4] true)) := St.get_lt ((hK4.trans hK5).blk hg3)
  have d3 : lod (t2.lowed.push (.row [x3, x4] true)) 2 (.ptr t2.next 0) = some (.agg [x3, x4]) := lod_row2 hg5
  have d4 : ltN t2.next (t2.lowed.push (.row [x3, x4] true)) := St.get_lt hg5
  have hC1' := hC1.keep ((hK3.trans hK4).trans hK5)
  have hC2' := hC2.keep hK5
  have hR : DgR (t2.lowed.push (.row [x3, x4] true)) x1 x2 x3 x4 (dgOf l) := ⟨hC1'.1, hC1'.2, hC2'.1, hC2'.2⟩
  have hKr : Keep (s.push (.row [.nils, .nils, .nils, .nils] true)) (t2.lowed.push (.row [x3, x4] true)) := (hK2.trans hK3).trans (hK4.trans hK5)
  have hbx := hKr.blk (St.get_push_new s (.row [.nils, .nils, .nils, .nils] true))
  have f0 := fstep_q0 (read_oneD hR.r1).2 (read_oneD hR.r2).2 .nils .nils .nils .nils
  have f2 := fstep_q2 (read_oneD hR.r3).2 (read_oneD hR.r4).2 x1 x2 .nils .nils
  have st4 := sto_row4 hbx hR
  have hlt := St.get_lt hbx
  obtain ⟨p1, p2, p3, p4, p5, p6, p7, p8⟩ := row4_lods (St.get_put_same (b := .row [x1, x2, x3, x4] true) hbx)
  have n20 : ((2 : Int) = 0) = False := eq_false (by decide)
  have n00 : ((0 : Int) = 0) = True := eq_true rfl
  simp (config := {contextual := true, maxDischargeDepth := 12}) only [tb_at, h0, hlen, q1, hs1, q2, hs2, d1, d2, d3, d4, n00, decide_true, Bool.not_true, bin_eqE, ap_build, fillP_nil, fillP_cons, f0, f2, st4, hlt, p1, p8, rc2, ↓bD, bU, forall_const, bS, implies_true, isNx, eq_self, ↓wp_cond, ↓wp_loop, ↓reduceIte, reduceCtorEq, Nat.reduceEqDiff, Nat.reduceLT, Nat.reduceAdd, Nat.reduceMul, bT, ↓sg_bsl, ↓st_callf, bX, List.cons_append, List.nil_append, ↓st_appf, bY, slcV_nils0N, slcV_sl0N, bslV_0N, bin_shr1, bsl_nd]
  exact ⟨_, rfl, ⟨x1, x2, x3, x4, rfl, dgr_put hbx hR⟩, (hK1.trans hKr).put _ (by simp) hlt⟩
theorem q_DgOf {s : St} {vl : AV} {l : List Nd} (hr : read ndC s vl = some l) (hl : l.length ≤ 500) (hst : storeL l = true) : ∃ x1 x2 x3 x4 t, acall R_DgOf false [vl] s = some (.tup [.agg [x1, x2, x3, x4], .int .i64 0], t) ∧ DgR t x1 x2 x3 x4 (dgOf l) ∧ Keep s t := by
  obtain ⟨r, t, h1, ⟨x1, x2, x3, x4, rfl, h2⟩, h3⟩ := run_any n_DgOf (args := [vl]) (Q := fun r t => ∃ x1 x2 x3 x4, r = .tup [.agg [x1, x2, x3, x4], .int .i64 0] ∧ DgR t x1 x2 x3 x4 (dgOf l)) (by simp [a28]) (fun r t t' hg hn ⟨x1, x2, x3, x4, e, h⟩ => ⟨x1, x2, x3, x4, e, h.mono fun id b hb => by rw [hg]; exact hb⟩) (fun r t hgr hk ⟨x1, x2, x3, x4, e, h⟩ => ⟨x1, x2, x3, x4, e, by
    rw [e] at hgr
    obtain ⟨g1, g2, g3, g4⟩ := ground4t hgr
    exact h.ground (plain_ground g1) (plain_ground g2) (plain_ground g3) (plain_ground g4)⟩) (w_DgOf (s := lowd s) (read_low' hr) hl hst)
  exact ⟨x1, x2, x3, x4, t, h1, h2, h3⟩

def dwinP (D G : DDg) : Bool × Int := if dgV D = true ∧ dgV G = true then (dgWithin D G, 0) else (false, 2)
theorem dwinP_ok {D G : DDg} (h : dgV D = true) (k : dgV G = true) : dwinP D G = (dgWithin D G, 0) := by unfold dwinP; rw [if_pos ⟨h, k⟩]
theorem dwinP_bad {D G : DDg} (h : ¬ (dgV D = true ∧ dgV G = true)) : dwinP D G = (false, 2) := by unfold dwinP; rw [if_neg h]
theorem w_DgWithin {s : St} {a1 b1 c1 d1 : AV} {D : DDg} (hD : DgR s a1 b1 c1 d1 D) (hDl : DgL D 1000) {a2 b2 c2 d2 : AV} {G : DDg} (hG : DgR s a2 b2 c2 d2 G) (hGl : DgL G 1000) : ∀ env : Env, elen env = a43.ntmps → (∀ i x_, [.agg [a1, b1, c1, d1], .agg [a2, b2, c2, d2]][i]? = some x_ → E env i = x_) → awp (tb [(12, R_DgValid), (36, R_CWithin)]) a43.body (fun x e t => (∀ i, x ≠ .exit i) ∧ aresults e t a43.results = some (.tup [.bool (dwinP D G).1, .int .i64 (dwinP D G).2]) ∧ Keep s t) env s := by
  intro env hlen ha
  have h0 : E env 0 = _ := ha 0 _ rfl
  have h1 : E env 1 = _ := ha 1 _ rfl
  have hlen : elen env = _ := hlen
  simp only [a43] at hlen
  unfold a43
  try dsimp only [oO, oG]
  have hbx := hD.box
  have hby := hG.box
  have hK2 : Keep s ((s.push (.row [a1, b1, c1, d1] true)).push (.row [a2, b2, c2, d2] true)) := ((Keep.refl s).push _).push _
  have hK12 : Keep (s.push (.row [a1, b1, c1, d1] true)) ((s.push (.row [a1, b1, c1, d1] true)).push (.row [a2, b2, c2, d2] true)) := (Keep.refl _).push _
  obtain ⟨p1, p2, p3, p4, p5, p6, p7, p8⟩ := box_dg s a1 b1 c1 d1 hK12
  obtain ⟨r1, r2, r3, r4, r5, r6, r7, r8⟩ := box_dg (s.push (.row [a1, b1, c1, d1] true)) a2 b2 c2 d2 (.refl _)
  have v1 := q_DgValid false (hD.keep hK2) hDl
  have v2 := q_DgValid false (hG.keep hK2) hGl
  have n20 : ((2 : Int) = 0) = False := eq_false (by decide)
  have n00 : ((0 : Int) = 0) = True := eq_true rfl
  cases h1s : dgV D
  · rw [h1s] at v1
    rw [dwinP_bad (by rw [h1s]; simp)]
    simp (config := {contextual := true, maxDischargeDepth := 12}) only [tb_at, h0, h1, hlen, v1, notV_bool, Bool.not_false, hbx, hby, p1, p2, p3, p4, p5, p6, p7, p8, r1, r2, r3, r4, r5, r6, r7, r8, ↓bD, bU, forall_const, bS, implies_true, isNx, eq_self, ↓wp_cond, ↓wp_loop, ↓reduceIte, reduceCtorEq, Nat.reduceEqDiff, Nat.reduceLT, Nat.reduceAdd, Nat.reduceMul, bT, ↓sg_bsl, ↓st_callf, bX, List.cons_append, List.nil_append, ↓st_appf, bY, slcV_nils0N, slcV_sl0N, bslV_0N, bin_shr1, bsl_nd]
    all_goals first | exact hK2 | skip
  rw [h1s] at v1
  cases h2s : dgV G
  · rw [h2s] at v2
    rw [dwinP_bad (by rw [h2s]; simp)]
    simp (config := {contextual := true, maxDischargeDepth := 12}) only [tb_at, h0, h1, hlen, v1, v2, notV_bool, Bool.not_true, Bool.not_false, hbx, hby, p1, p2, p3, p4, p5, p6, p7, p8, r1, r2, r3, r4, r5, r6, r7, r8, ↓bD, bU, forall_const, bS, implies_true, isNx, eq_self, ↓wp_cond, ↓wp_loop, ↓reduceIte, reduceCtorEq, Nat.reduceEqDiff, Nat.reduceLT, Nat.reduceAdd, Nat.reduceMul, bT, ↓sg_bsl, ↓st_callf, bX, List.cons_append, List.nil_append, ↓st_appf, bY, slcV_nils0N, slcV_sl0N, bslV_0N, bin_shr1, bsl_nd]
    all_goals first | exact hK2 | skip
  rw [h2s] at v2
  rw [dwinP_ok h1s h2s]
  obtain ⟨x1, x2, _⟩ := dgV_parts h1s
  obtain ⟨y1, y2, _⟩ := dgV_parts h2s
  have w1 := q_CWithin false (hK2.read hD.r1) (hK2.read hD.r2) (lim_80 hDl.l1) (lim_80 hDl.l2) (hK2.read hG.r1) (hK2.read hG.r2) (lim_80 hGl.l1) (lim_80 hGl.l2) (isC_cvalid x1) (isC_cvalid y1)
  have w2 := q_CWithin false (hK2.read hD.r3) (hK2.read hD.r4) (lim_80 hDl.l3) (lim_80 hDl.l4) (hK2.read hG.r3) (hK2.read hG.r4) (lim_80 hGl.l3) (lim_80 hGl.l4) (isC_cvalid x2) (isC_cvalid y2)
  rw [win_eq x1 y1] at w1
  rw [win_eq x2 y2] at w2
  unfold dgWithin
  cases hj : jwithin D.all G.all
  · rw [hj] at w1
    simp (config := {contextual := true, maxDischargeDepth := 12}) only [tb_at, h0, h1, hlen, v1, v2, w1, n00, decide_true, notV_bool, bin_eqE, Bool.not_true, Bool.not_false, Bool.false_and, hbx, hby, p1, p2, p3, p4, p5, p6, p7, p8, r1, r2, r3, r4, r5, r6, r7, r8, ↓bD, bU, forall_const, bS, implies_true, isNx, eq_self, ↓wp_cond, ↓wp_loop, ↓reduceIte, reduceCtorEq, Nat.reduceEqDiff, Nat.reduceLT, Nat.reduceAdd, Nat.reduceMul, bT, ↓sg_bsl, ↓st_callf, bX, List.cons_append, List.nil_append, ↓st_appf, bY, slcV_nils0N, slcV_sl0N, bslV_0N, bin_shr1, bsl_nd]
    all_goals first | exact hK2 | skip
  · rw [hj] at w1
    simp (config := {contextual := true, maxDischargeDepth := 12}) only [tb_at, h0, h1, hlen, v1, v2, w1, w2, n00, decide_true, notV_bool, bin_eqE, Bool.not_true, Bool.not_false, Bool.true_and, hbx, hby, p1, p2, p3, p4, p5, p6, p7, p8, r1, r2, r3, r4, r5, r6, r7, r8, ↓bD, bU, forall_const, bS, implies_true, isNx, eq_self, ↓wp_cond, ↓wp_loop, ↓reduceIte, reduceCtorEq, Nat.reduceEqDiff, Nat.reduceLT, Nat.reduceAdd, Nat.reduceMul, bT, ↓sg_bsl, ↓st_callf, bX, List.cons_append, List.nil_append, ↓st_appf, bY, slcV_nils0N, slcV_sl0N, bslV_0N, bin_shr1, bsl_nd]
    all_goals first | exact hK2 | skip
end Go.AM
end
/-
  Contracts of digests that the kernel runs. Own work of this project; in part printed by a program of it.
-/
section
set_option maxRecDepth 100000
set_option maxHeartbeats 8000000
namespace Go.AM
open Go Go.Proofs

variable {s t u : St}

def rdDg (s : St) (a b c d : AV) : Option DDg := match AM.read dotC s a, AM.read dotC s b, AM.read dotC s c, AM.read dotC s d with
  | some v1, some c1, some v2, some c2 => if v1.length ≤ 1000 ∧ c1.length ≤ 1000 ∧ v2.length ≤ 1000 ∧ c2.length ≤ 1000 then some ⟨⟨v1, c1⟩, ⟨v2, c2⟩⟩ else none
  | _, _, _, _ => none
theorem rdDg_some {s : St} {a b c d : AV} {D : DDg} (h : rdDg s a b c d = some D) : DgR s a b c d D ∧ DgL D 1000 := by
  unfold rdDg at h
  split at h
  · split at h
    · rename_i h1 h2 h3 h4 hl
      injection h with h
      subst h
      exact ⟨⟨h1, h2, h3, h4⟩, ⟨hl.1, hl.2.1, hl.2.2.1, hl.2.2.2⟩⟩
    · cases h
  · cases h
def cDg (f : DDg → AV) : Con := fun xs s => match xs with
  | [.agg [a, b, c, d]] => (rdDg s a b c d).map fun D => (f D, s.lowed)
  | _ => none
def cDgDg (f : DDg → DDg → AV) : Con := fun xs s => match xs with
  | [.agg [a, b, c, d], .agg [a', b', c', d']] => match rdDg s a b c d, rdDg s a' b' c' d' with
    | some D, some G => some (f D G, s.lowed)
    | _, _ => none
  | _ => none
theorem cDg_some {f : DDg → AV} {xs : List AV} {s s' : St} {r : AV} (h : cDg f xs s = some (r, s')) : ∃ a b c d D, xs = [.agg [a, b, c, d]] ∧ DgR s a b c d D ∧ DgL D 1000 ∧ r = f D ∧ s' = s.lowed := by
  unfold cDg at h
  split at h
  · obtain ⟨D, h1, h2⟩ := Option.map_eq_some_iff.1 h
    obtain ⟨rfl, rfl⟩ := Prod.mk.inj h2
    exact ⟨_, _, _, _, D, rfl, (rdDg_some h1).1, (rdDg_some h1).2, rfl, rfl⟩
  · cases h
theorem cDgDg_some {f : DDg → DDg → AV} {xs : List AV} {s s' : St} {r : AV} (h : cDgDg f xs s = some (r, s')) : ∃ a b c d a' b' c' d' D G, xs = [.agg [a, b, c, d], .agg [a', b', c', d']] ∧ DgR s a b c d D ∧ DgL D 1000 ∧ DgR s a' b' c' d' G ∧ DgL G 1000 ∧ r = f D G ∧ s' = s.lowed := by
  unfold cDgDg at h
  split at h
  · split at h
    · rename_i D G h1 h2
      injection h with h
      obtain ⟨rfl, rfl⟩ := Prod.mk.inj h
      exact ⟨_, _, _, _, _, _, _, _, D, G, rfl, (rdDg_some h1).1, (rdDg_some h1).2, (rdDg_some h2).1, (rdDg_some h2).2, rfl, rfl⟩
    · cases h
  · cases h
theorem k_DgValid : SoundAt Tryz.prog 12 (cDg fun D => .bool (dgV D)) :=
  con_keep (tb_sound (l := [(36, R_CWithin), (37, R_IsC)]) (by simpa using ⟨s_CWithin, s_IsC⟩)) mixed Tryz.func12 k12 c12 fun args s r s' h => by
    obtain ⟨a, b, c, d, D, rfl, hD, hDl, rfl, rfl⟩ := cDg_some h
    exact ⟨rfl, rfl, by simp [a12], fun env hlen ha => w_DgValid hD hDl env hlen ha⟩
theorem k_DgWithin : SoundAt Tryz.prog 43 (cDgDg fun D G => .tup [.bool (dwinP D G).1, .int .i64 (dwinP D G).2]) :=
  con_keep (tb_sound (l := [(12, R_DgValid), (36, R_CWithin)]) (by simpa using ⟨s_DgValid, s_CWithin⟩)) mixed Tryz.func43 k43 c43 fun args s r s' h => by
    obtain ⟨a, b, c, d, a', b', c', d', D, G, rfl, hD, hDl, hG, hGl, rfl, rfl⟩ := cDgDg_some h
    exact ⟨rfl, rfl, by simp [a43], fun env hlen ha => w_DgWithin hD hDl hG hGl env hlen ha⟩
theorem k_RgSame : SoundAt Tryz.prog 26 (cDgDg fun D G => .bool (decide (D = G))) :=
  con_keep (tb_sound (l := [(47, R_JSameC)]) (by simpa using s_JSameC)) mixed Tryz.func26 k26 c26 fun args s r s' h => by
    obtain ⟨a, b, c, d, a', b', c', d', D, G, rfl, hD, hDl, hG, hGl, rfl, rfl⟩ := cDgDg_some h
    exact ⟨rfl, rfl, by simp [a26], fun env hlen ha => w_RgSame hD hDl hG hGl env hlen ha⟩

end Go.AM
end
/-
  What a closed run by the kernel shows. Own work of this project.
-/
section
namespace Go.AM
open Go

def isTrue : Option (AV × St) → Bool
  | some (.bool true, _) => true
  | _ => false
theorem isTrue_ex {o : Option (AV × St)} (h : isTrue o = true) : ∃ s, o = some (.bool true, s) := by
  unfold isTrue at h
  split at h
  · exact ⟨_, rfl⟩
  · cases h
end Go.AM
end
/-
  The chapter's examples: 'known' answers true. Own work of this project; in part printed by a program of it.
-/
section
set_option maxRecDepth 100000
set_option maxHeartbeats 4000000
namespace Go.AM
open Go Go.Proofs

def tabK : Nat → AFun
  | 8 => .code a8
  | 31 => .code a31
  | 10 => .code a10
  | 15 => .code a15
  | 23 => .code a23
  | 21 => .code a21
  | 28 => .code a28
  | 42 => .code a42
  | 63 => .code a63
  | 18 => .code a18
  | 44 => .code a44
  | 20 => .code a20
  | 56 => .code a56
  | 64 => .code a64
  | 68 => .code a68
  | 94 => .code a94
  | 57 => .code a57
  | 60 => .code a60
  | 87 => .code a87
  | 107 => .code a107
  | 85 => .code a85
  | 59 => .code a59
  | 84 => .code a84
  | 82 => .code a82
  | 91 => .code a91
  | 79 => .code a79
  | 106 => .code a106
  | 92 => .code a92
  | 97 => .code a97
  | 93 => .code a93
  | 86 => .code a86
  | 113 => .code a113
  | 80 => .code a80
  | 102 => .code a102
  | 50 => .code a50
  | 103 => .code a103
  | 62 => .code a62
  | 48 => .code a48
  | 49 => .code a49
  | 72 => .code a72
  | 69 => .code a69
  | 90 => .code a90
  | 76 => .code a76
  | 73 => .code a73
  | 98 => .code a98
  | 109 => .code a109
  | 118 => .code a118
  | 81 => .code a81
  | 71 => .code a71
  | 61 => .code a61
  | 105 => .code a105
  | 89 => .code a89
  | 88 => .code a88
  | 83 => .code a83
  | 95 => .code a95
  | 104 => .code a104
  | 101 => .code a101
  | 114 => .code a114
  | 112 => .code a112
  | 120 => .code a120
  | 119 => .code a119
  | 108 => .code a108
  | 115 => .code a115
  | 70 => .code a70
  | 74 => .code a74
  | 75 => .code a75
  | 96 => .code a96
  | 100 => .con (conF dotC (pL dotC gMade))
  | 116 => .con (cPdq 50 (fun _ => true) sortD)
  | 117 => .con (cBits)
  | 41 => .con (conL ndC fValid)
  | 12 => .con (cDg fun D => .bool (dgV D))
  | 43 => .con (cDgDg fun D G => .tup [.bool (dwinP D G).1, .int .i64 (dwinP D G).2])
  | 26 => .con (cDgDg fun D G => .bool (decide (D = G)))
  | _ => .no
theorem tabK_ok : ∀ f, FunOk Tryz.prog f (tabK f) := by
  intro f
  unfold tabK
  split
  · exact ⟨k8, _, Tryz.func8, c8⟩
  · exact ⟨k31, _, Tryz.func31, c31⟩
  · exact ⟨k10, _, Tryz.func10, c10⟩
  · exact ⟨k15, _, Tryz.func15, c15⟩
  · exact ⟨k23, _, Tryz.func23, c23⟩
  · exact ⟨k21, _, Tryz.func21, c21⟩
  · exact ⟨k28, _, Tryz.func28, c28⟩
  · exact ⟨k42, _, Tryz.func42, c42⟩
  · exact ⟨k63, _, Tryz.func63, c63⟩
  · exact ⟨k18, _, Tryz.func18, c18⟩
  · exact ⟨k44, _, Tryz.func44, c44⟩
  · exact ⟨k20, _, Tryz.func20, c20⟩
  · exact ⟨k56, _, Tryz.func56, c56⟩
  · exact ⟨k64, _, Tryz.func64, c64⟩
  · exact ⟨k68, _, Tryz.func68, c68⟩
  · exact ⟨k94, _, Tryz.func94, c94⟩
  · exact ⟨k57, _, Tryz.func57, c57⟩
  · exact ⟨k60, _, Tryz.func60, c60⟩
  · exact ⟨k87, _, Tryz.func87, c87⟩
  · exact ⟨k107, _, Tryz.func107, c107⟩
  · exact ⟨k85, _, Tryz.func85, c85⟩
  · exact ⟨k59, _, Tryz.func59, c59⟩
  · exact ⟨k84, _, Tryz.func84, c84⟩
  · exact ⟨k82, _, Tryz.func82, c82⟩
  · exact ⟨k91, _, Tryz.func91, c91⟩
  · exact ⟨k79, _, Tryz.func79, c79⟩
  · exact ⟨k106, _, Tryz.func106, c106⟩
  · exact ⟨k92, _, Tryz.func92, c92⟩
  · exact ⟨k97, _, Tryz.func97, c97⟩
  · exact ⟨k93, _, Tryz.func93, c93⟩
  · exact ⟨k86, _, Tryz.func86, c86⟩
  · exact ⟨k113, _, Tryz.func113, c113⟩
  · exact ⟨k80, _, Tryz.func80, c80⟩
  · exact ⟨k102, _, Tryz.func102, c102⟩
  · exact ⟨k50, _, Tryz.func50, c50⟩
  · exact ⟨k103, _, Tryz.func103, c103⟩
  · exact ⟨k62, _, Tryz.func62, c62⟩
  · exact ⟨k48, _, Tryz.func48, c48⟩
  · exact ⟨k49, _, Tryz.func49, c49⟩
  · exact ⟨k72, _, Tryz.func72, c72⟩
  · exact ⟨k69, _, Tryz.func69, c69⟩
  · exact ⟨k90, _, Tryz.func90, c90⟩
  · exact ⟨k76, _, Tryz.func76, c76⟩
  · exact ⟨k73, _, Tryz.func73, c73⟩
  · exact ⟨k98, _, Tryz.func98, c98⟩
  · exact ⟨k109, _, Tryz.func109, c109⟩
  · exact ⟨k118, _, Tryz.func118, c118⟩
  · exact ⟨k81, _, Tryz.func81, c81⟩
  · exact ⟨k71, _, Tryz.func71, c71⟩
  · exact ⟨k61, _, Tryz.func61, c61⟩
  · exact ⟨k105, _, Tryz.func105, c105⟩
  · exact ⟨k89, _, Tryz.func89, c89⟩
  · exact ⟨k88, _, Tryz.func88, c88⟩
  · exact ⟨k83, _, Tryz.func83, c83⟩
  · exact ⟨k95, _, Tryz.func95, c95⟩
  · exact ⟨k104, _, Tryz.func104, c104⟩
  · exact ⟨k101, _, Tryz.func101, c101⟩
  · exact ⟨k114, _, Tryz.func114, c114⟩
  · exact ⟨k112, _, Tryz.func112, c112⟩
  · exact ⟨k120, _, Tryz.func120, c120⟩
  · exact ⟨k119, _, Tryz.func119, c119⟩
  · exact ⟨k108, _, Tryz.func108, c108⟩
  · exact ⟨k115, _, Tryz.func115, c115⟩
  · exact ⟨k70, _, Tryz.func70, c70⟩
  · exact ⟨k74, _, Tryz.func74, c74⟩
  · exact ⟨k75, _, Tryz.func75, c75⟩
  · exact ⟨k96, _, Tryz.func96, c96⟩
  · exact s_VMade
  · exact s_pdqSSortD
  · exact s_bits
  · exact s_JValid
  · exact k_DgValid
  · exact k_DgWithin
  · exact k_RgSame
  · trivial
theorem known_run : isTrue (acalls tabK 400 20 8 [] St.empty) = true := by kernel_rfl
theorem s_known : SoundAt Tryz.prog 8 (closed [] (.bool true)) := by
  obtain ⟨s, hs⟩ := isTrue_ex known_run
  exact closed_sound (acalls_sound mixed tabK_ok 20 _) hs rfl
end Go.AM
end
/-
  The helpers of the statements of layer 16. Own work of this project; in part printed by a program of it.
-/
section
set_option maxRecDepth 100000
set_option maxHeartbeats 8000000
namespace Go.AM
open Go Go.Proofs

variable {s t u : St}

def ofDP (l : List Nd) : DDg × Int := if storeL l = true then (dgOf l, 0) else (⟨⟨[], []⟩, ⟨[], []⟩⟩, 2)
theorem ofDP_ok {l : List Nd} (h : storeL l = true) : ofDP l = (dgOf l, 0) := by unfold ofDP; rw [if_pos h]
theorem ofDP_bad {l : List Nd} (h : storeL l = false) : ofDP l = (⟨⟨[], []⟩, ⟨[], []⟩⟩, 2) := by unfold ofDP; rw [if_neg (by rw [h]; simp)]
theorem dgL_nil {n : Nat} : DgL ⟨⟨[], []⟩, ⟨[], []⟩⟩ n := ⟨Nat.zero_le _, Nat.zero_le _, Nat.zero_le _, Nat.zero_le _⟩
noncomputable def R_ofs : Con := runFn (tb [(28, R_DgOf), (26, R_RgSame)]) a10
theorem s_ofs : SoundAt Tryz.prog 10 R_ofs := run_sound (tb_sound (l := [(28, R_DgOf), (26, R_RgSame)]) (by simpa using ⟨s_DgOf, s_RgSame⟩)) mixed Tryz.func10 k10 c10
theorem n_ofs : noNxtC a10.body = true := by kernel_rfl
theorem w_ofs {s : St} {vl : AV} {l : List Nd} (hr : read ndC s vl = some l) (hl : l.length ≤ 500) {a1 b1 c1 d1 : AV} {D : DDg} (hD : DgR s a1 b1 c1 d1 D) (hDl : DgL D 1000) (c : Int) : ∀ env : Env, elen env = a10.ntmps → (∀ i x_, [vl, .agg [a1, b1, c1, d1], .int .i64 c][i]? = some x_ → E env i = x_) → awp (tb [(28, R_DgOf), (26, R_RgSame)]) a10.body (fun x e t => (∀ i, x ≠ .exit i) ∧ aresults e t a10.results = some (.bool (decide ((ofDP l).1 = D) && decide ((ofDP l).2 = c))) ∧ Keep s t) env s := by
  intro env hlen ha
  have h0 : E env 0 = _ := ha 0 _ rfl
  have h1 : E env 1 = _ := ha 1 _ rfl
  have h2 : E env 2 = _ := ha 2 _ rfl
  have hlen : elen env = _ := hlen
  simp only [a10] at hlen
  unfold a10
  try dsimp only [oO, oG]
  have hbx := hD.box
  have hK1 : Keep s (s.push (.row [a1, b1, c1, d1] true)) := (Keep.refl s).push _
  cases hst : storeL l
  · rw [ofDP_bad hst]
    have q1 := q_DgOf_bad false (hK1.read hr) hl hst
    have hQ : DgR (s.push (.row [a1, b1, c1, d1] true)) .nils .nils .nils .nils ⟨⟨[], []⟩, ⟨[], []⟩⟩ := .nils
    have hQl : DgL ⟨⟨[], []⟩, ⟨[], []⟩⟩ 1000 := dgL_nil
    have hst0 := sto_dg (show sameN (s.push (.row [a1, b1, c1, d1] true)).next (s.push (.row [a1, b1, c1, d1] true)) from rfl) hQ
    have hKb : Keep (s.push (.row [a1, b1, c1, d1] true)) ((s.push (.row [a1, b1, c1, d1] true)).lowed.push (.row [.nils, .nils, .nils, .nils] true)) := (Keep.refl _).lowed.push _
    obtain ⟨s1_, s2_, s3_, s4_, s5_, s6_, s7_, s8_⟩ := row4_lods (St.get_push_new (s.push (.row [a1, b1, c1, d1] true)).lowed (.row [.nils, .nils, .nils, .nils] true))
    have s1_ : lod ((s.push (.row [a1, b1, c1, d1] true)).lowed.push (.row [.nils, .nils, .nils, .nils] true)) 4 (.ptr (s.push (.row [a1, b1, c1, d1] true)).next 0) = some (.agg [.nils, .nils, .nils, .nils]) := s1_
    have s8_ : ltN (s.push (.row [a1, b1, c1, d1] true)).next ((s.push (.row [a1, b1, c1, d1] true)).lowed.push (.row [.nils, .nils, .nils, .nils] true)) := s8_
    have hQb := hQ.keep hKb
    obtain ⟨p1, p2, p3, p4, p5, p6, p7, p8⟩ := box_dg s a1 b1 c1 d1 (hKb)
    have q2 := q_RgSame false hQb hQl (hD.keep (hK1.trans (hKb))) hDl
    simp (config := {contextual := true, maxDischargeDepth := 12}) only [tb_at, h0, h1, h2, hlen, hbx, q1, hst0, s1_, s8_, p1, p8, q2, bin_eqE, ↓bD, bU, forall_const, bS, implies_true, isNx, eq_self, ↓wp_cond, ↓wp_loop, ↓reduceIte, reduceCtorEq, Nat.reduceEqDiff, Nat.reduceLT, Nat.reduceAdd, Nat.reduceMul, bT, ↓sg_bsl, ↓st_callf, bX, List.cons_append, List.nil_append, ↓st_appf, bY, slcV_nils0N, slcV_sl0N, bslV_0N, bin_shr1, bsl_nd, q_known]
    all_goals first | exact hK1.trans (hKb) | skip
  rw [ofDP_ok hst]
  obtain ⟨y1, y2, y3, y4, t1, q1, hQ, hKq⟩ := q_DgOf (hK1.read hr) hl hst
  have hQl := dgOf_len hl
  have hst0 := sto_dg (show sameN (t1).next (t1) from rfl) hQ
  have hKb : Keep (t1) ((t1).lowed.push (.row [y1, y2, y3, y4] true)) := (Keep.refl _).lowed.push _
  obtain ⟨s1_, s2_, s3_, s4_, s5_, s6_, s7_, s8_⟩ := row4_lods (St.get_push_new (t1).lowed (.row [y1, y2, y3, y4] true))
  have s1_ : lod ((t1).lowed.push (.row [y1, y2, y3, y4] true)) 4 (.ptr (t1).next 0) = some (.agg [y1, y2, y3, y4]) := s1_
  have s8_ : ltN (t1).next ((t1).lowed.push (.row [y1, y2, y3, y4] true)) := s8_
  have hQb := hQ.keep hKb
  obtain ⟨p1, p2, p3, p4, p5, p6, p7, p8⟩ := box_dg s a1 b1 c1 d1 (hKq.trans hKb)
  have q2 := q_RgSame false hQb hQl (hD.keep (hK1.trans (hKq.trans hKb))) hDl
  simp (config := {contextual := true, maxDischargeDepth := 12}) only [tb_at, h0, h1, h2, hlen, hbx, q1, hst0, s1_, s8_, p1, p8, q2, bin_eqE, ↓bD, bU, forall_const, bS, implies_true, isNx, eq_self, ↓wp_cond, ↓wp_loop, ↓reduceIte, reduceCtorEq, Nat.reduceEqDiff, Nat.reduceLT, Nat.reduceAdd, Nat.reduceMul, bT, ↓sg_bsl, ↓st_callf, bX, List.cons_append, List.nil_append, ↓st_appf, bY, slcV_nils0N, slcV_sl0N, bslV_0N, bin_shr1, bsl_nd, q_known]
  all_goals first | exact hK1.trans (hKq.trans hKb) | skip
theorem q_ofs (cl : Bool) {s : St} {vl : AV} {l : List Nd} (hr : read ndC s vl = some l) (hl : l.length ≤ 500) {a1 b1 c1 d1 : AV} {D : DDg} (hD : DgR s a1 b1 c1 d1 D) (hDl : DgL D 1000) (c : Int) : acall R_ofs cl [vl, .agg [a1, b1, c1, d1], .int .i64 c] s = some (.bool (decide ((ofDP l).1 = D) && decide ((ofDP l).2 = c)), s) := run_same n_ofs (by simp [a10]) rfl (w_ofs (s := lowd s) (read_low' hr) hl hD.low hDl c)
theorem DgL.le {D : DDg} {n m : Nat} (h : DgL D n) (k : n ≤ m) : DgL D m := ⟨Nat.le_trans h.l1 k, Nat.le_trans h.l2 k, Nat.le_trans h.l3 k, Nat.le_trans h.l4 k⟩
end Go.AM
end
/-
  What arguments show: digests. Own work of this project.
-/
section
set_option maxRecDepth 100000
namespace Go.AM
open Go Go.Proofs

variable {s : St}
end Go.AM
end
/-
  DigestOf, DigestDiffs, DigestHolds in the abstract machine. Own work of this project; in part printed by a program of it.
-/
section
set_option maxRecDepth 100000
set_option maxHeartbeats 8000000
namespace Go.AM
open Go Go.Proofs

variable {s t u : St}

theorem s_DigestOf : SoundAt Tryz.prog 3 (lawC Tryz.prog 8 [23]) :=
  con_keep (tb_sound (l := [(8, closed [] (.bool true)), (9, conL ndC fStore), (10, R_ofs), (11, R_RgOf), (12, R_DgValid)]) (by simpa using ⟨s_known, s_Store, s_ofs, s_RgOf, s_DgValid⟩)) mixed Tryz.func3 k3 c3 fun args s r s' h => by
    obtain ⟨hh, rfl, rfl⟩ := lawC_some h
    obtain ⟨v0, rfl, hv0⟩ := rdas_1 hh
    obtain ⟨l, hr⟩ := rda_state nd_cks7 hv0
    refine ⟨rfl, rfl, by simp [a3], fun env hlen ha => ?_⟩
    have h0 : E env 0 = _ := ha 0 _ rfl
    have hlen : elen env = _ := hlen
    simp only [a3] at hlen
    unfold a3
    try dsimp only [oO, oG]
    have hL := lenV_read hr
    by_cases hlz : 60 < l.length
    · have hz := eq_true (show (60 : Int) < (l.length : Int) by omega)
      simp (config := {contextual := true, maxDischargeDepth := 12}) only [tb_at, h0, hlen, hL, hz, notV_bool, Bool.not_true, Bool.not_false, pickV_t, pickV_f, bin_eqE, bin_eqb, gcall_tt, reserve0, ↓bD, bU, forall_const, bS, implies_true, isNx, eq_self, ↓wp_cond, ↓wp_loop, ↓reduceIte, reduceCtorEq, Nat.reduceEqDiff, Nat.reduceLT, Nat.reduceAdd, Nat.reduceMul, bT, ↓sg_bsl, ↓st_callf, bX, List.cons_append, List.nil_append, ↓st_appf, bY, slcV_nils0N, slcV_sl0N, bslV_0N, bin_shr1, bsl_nd, q_known]
      all_goals first | exact .refl _ | skip
    have hz := eq_false (show ¬ (60 : Int) < (l.length : Int) by omega)
    have hls : l.length ≤ 500 := by omega
    have qs := q_Store false hr (by unfold lim; omega)
    cases hst : storeL l
    · rw [hst] at qs
      have q1 := q_ofs false hr hls (DgR.nils (t := s)) (dgL_nil (n := 1000)) 2
      rw [ofDP_bad hst, decide_eq_true rfl, decide_eq_true rfl] at q1
      simp (config := {contextual := true, maxDischargeDepth := 12}) only [tb_at, h0, hlen, hL, hz, qs, q1, ap_build, fillP_nil, Bool.true_and, notV_bool, Bool.not_true, Bool.not_false, pickV_t, pickV_f, bin_eqE, bin_eqb, gcall_tt, reserve0, ↓bD, bU, forall_const, bS, implies_true, isNx, eq_self, ↓wp_cond, ↓wp_loop, ↓reduceIte, reduceCtorEq, Nat.reduceEqDiff, Nat.reduceLT, Nat.reduceAdd, Nat.reduceMul, bT, ↓sg_bsl, ↓st_callf, bX, List.cons_append, List.nil_append, ↓st_appf, bY, slcV_nils0N, slcV_sl0N, bslV_0N, bin_shr1, bsl_nd, q_known]
      all_goals first | exact .refl _ | skip
    rw [hst] at qs
    obtain ⟨x1, x2, x3, x4, t1, q1, hR1, hK1⟩ := q_RgOf hr hls hst
    have q2 := q_ofs false (hK1.read hr) hls hR1 (dgOf_len hls) 0
    rw [ofDP_ok hst, decide_eq_true rfl, decide_eq_true rfl] at q2
    obtain ⟨y1, y2, y3, y4, t2, q3, hR2, hK2⟩ := q_RgOf (hK1.read hr) hls hst
    have q4 := q_DgValid false hR2 (dgOf_len hls)
    rw [dgOf_valid hst] at q4
    simp (config := {contextual := true, maxDischargeDepth := 12}) only [tb_at, h0, hlen, hL, hz, qs, q1, q2, q3, q4, Bool.true_and, notV_bool, Bool.not_true, Bool.not_false, pickV_t, pickV_f, bin_eqE, bin_eqb, gcall_tt, reserve0, ↓bD, bU, forall_const, bS, implies_true, isNx, eq_self, ↓wp_cond, ↓wp_loop, ↓reduceIte, reduceCtorEq, Nat.reduceEqDiff, Nat.reduceLT, Nat.reduceAdd, Nat.reduceMul, bT, ↓sg_bsl, ↓st_callf, bX, List.cons_append, List.nil_append, ↓st_appf, bY, slcV_nils0N, slcV_sl0N, bslV_0N, bin_shr1, bsl_nd, q_known]
    all_goals first | exact hK1.trans hK2 | skip
end Go.AM
end
