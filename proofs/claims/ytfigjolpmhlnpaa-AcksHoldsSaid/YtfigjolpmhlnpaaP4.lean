/-
  New of the program. Own work of this project; in part printed by a program of it.
-/
import Derived.Test.YtfigjolpmhlnpaaP3
import Derived.KernelRfl
set_option linter.unusedVariables false
set_option linter.unusedSimpArgs false
section
set_option maxRecDepth 100000
set_option maxHeartbeats 8000000
namespace Go.AM
open Go Go.Proofs

variable {s t u : St}

theorem w_Values {s : St} {v : AV} {l : List Int} (hr : AM.read inC s v = some l) : ∀ env : Env, elen env = a29.ntmps → (∀ i x_, [v][i]? = some x_ → E env i = x_) → awp (tb []) a29.body (fun x e t => (∀ i, x ≠ .exit i) ∧ ∃ r, aresults e t a29.results = some r ∧ (∃ p, r = .fn 40 [.ptr p 0] ∧ t.get p = some (.row [v] true) ∧ s.next ≤ p) ∧ Keep s t) env s := by
  intro env hlen ha
  have h0 : E env 0 = _ := ha 0 _ rfl
  have hlen : elen env = _ := hlen
  simp only [a29] at hlen
  unfold a29
  try dsimp only [oO, oG]
  try dsimp only [oO, oG]
  have hbx : boxV 1 v = some (fun id => .ptr id 0, .row [v] true) := by
    cases v with
    | nils => rfl
    | sl => rfl
    | _ => simp [AM.read] at hr
  have hg := St.get_push_new s (.row [v] true)
  have hK : Keep s (s.push (.row [v] true)) := (Keep.refl s).push _
  simp (config := {contextual := true, maxDischargeDepth := 12}) only [tb_at, h0, hlen, hbx, ↓bD, bU, forall_const, bS, implies_true, isNx, eq_self, ↓wp_cond, ↓wp_loop, ↓reduceIte, reduceCtorEq, Nat.reduceEqDiff, Nat.reduceLT, Nat.reduceAdd, Nat.reduceMul, bT, ↓sg_bsl, ↓st_callf, bX, ap_mkfn, ap_conv, ↓wi_seq, ↓wi_base, ↓wi_block, ↓wi_cond, ↓wi_loop, ↓wi_rf, ↓wy_seq, ↓wy_base, ↓wy_block, ↓wy_cond, ↓wy_loop, ↓wy_yld, bin_shr1, q_known, ae_callvV, callvV_fn, List.append_nil, List.cons_append, List.nil_append, fs40, fs41, mmV_max2, ↓sg_callf3]
  all_goals first | exact ⟨_, rfl, ⟨_, rfl, hg, Nat.le_refl _⟩, hK⟩ | exact ⟨_, rfl, _, rfl, hg, Nat.le_refl _⟩ | skip
theorem q_Values {s : St} {v : AV} {l : List Int} (hr : AM.read inC s v = some l) : ∃ p t, acall R_Values false [v] s = some (.fn 40 [.ptr p 0], t) ∧ t.get p = some (.row [v] true) ∧ Keep s t := by
  obtain ⟨r, t, h1, ⟨p, rfl, h2, _⟩, h3⟩ := run_any (s := s) n_Values (args := [v]) (Q := fun r t => ∃ p, r = .fn 40 [.ptr p 0] ∧ t.get p = some (.row [v] true) ∧ s.next ≤ p) (by simp [a29]) (fun r t t' hg hn ⟨p, e, h, h4⟩ => ⟨p, e, by rw [hg]; exact h, h4⟩) (fun r t hgr hk ⟨p, e, _⟩ => by
    rw [e] at hgr
    simp [AV.ground, AV.plain, AV.plains] at hgr) (w_Values (s := lowd s) (read_low' hr))
  exact ⟨p, t, h1, h2, h3⟩
noncomputable def R_New : Con := runFn (tb [(27, R_repl), (29, R_Values), (28, conF inC pSrt)]) a9
theorem s_New : SoundAt Try.prog 9 R_New := run_sound (tb_sound (l := [(27, R_repl), (29, R_Values), (28, conF inC pSrt)]) (by simpa using ⟨s_repl, s_Values, s_Srt⟩)) mixed Try.func9 k9 c9
theorem n_New : noNxtC a9.body = true := by kernel_rfl
theorem w_New {s : St} {nv : AV} {own : Int} {l : List Int} (hr : AM.read inC s nv = some l) (hl : l.length ≤ 100) : ∀ env : Env, elen env = a9.ntmps → (∀ i x_, [.int .i64 own, nv][i]? = some x_ → E env i = x_) → awp (tb [(27, R_repl), (29, R_Values), (28, conF inC pSrt)]) a9.body (fun x e t => (∀ i, x ≠ .exit i) ∧ ∃ r, aresults e t a9.results = some r ∧ ((okL own l → ∃ id j cap, r = .tup [.ptr id 0, .int .i64 0] ∧ AkR t id j cap own ((sortI l).map nbI) ∧ s.next ≤ id ∧ s.next ≤ j) ∧ (¬ okL own l → r = .tup [.nilp, .int .i64 2])) ∧ Keep s t) env s := by
  intro env hlen ha
  have h0 : E env 0 = _ := ha 0 _ rfl
  have h1 : E env 1 = _ := ha 1 _ rfl
  have hlen : elen env = _ := hlen
  simp only [a9] at hlen
  unfold a9
  try dsimp only [oO, oG]
  have q1 := q_repl false own (s := s)
  by_cases h0w : 1 ≤ own ∧ own ≤ 64
  rotate_left
  · have hno : ¬ okL own l := fun q => h0w q.1
    have hf : (decide (1 ≤ own) && decide (own ≤ 64)) = false := by
      rw [← Bool.decide_and]
      exact decide_eq_false h0w
    rw [hf] at q1
    have hKK := Keep.refl s
    simp (config := {contextual := true, maxDischargeDepth := 12}) only [tb_at, h0, h1, hlen, q1, decide_true, decide_false, Bool.not_true, Bool.not_false, bin_eql, bin_neq, ↓bD, bU, forall_const, bS, implies_true, isNx, eq_self, ↓wp_cond, ↓wp_loop, ↓reduceIte, reduceCtorEq, Nat.reduceEqDiff, Nat.reduceLT, Nat.reduceAdd, Nat.reduceMul, bT, ↓sg_bsl, ↓st_callf, bX, ap_mkfn, ap_conv, ↓wi_seq, ↓wi_base, ↓wi_block, ↓wi_cond, ↓wi_loop, ↓wi_rf, ↓wy_seq, ↓wy_base, ↓wy_block, ↓wy_cond, ↓wy_loop, ↓wy_yld, bin_shr1, q_known, ae_callvV, callvV_fn, List.append_nil, List.cons_append, List.nil_append, fs40, fs41, mmV_max2, ↓sg_callf3]
    all_goals first | exact ⟨_, rfl, ⟨fun q => absurd q hno, fun _ => rfl⟩, hKK⟩ | exact ⟨_, rfl, fun q => absurd q hno, fun _ => rfl⟩ | exact ⟨⟨fun q => absurd q hno, fun _ => rfl⟩, hKK⟩ | exact ⟨fun q => absurd q hno, fun _ => rfl⟩ | skip
  have ht : (decide (1 ≤ own) && decide (own ≤ 64)) = true := by
    rw [← Bool.decide_and]
    exact decide_eq_true h0w
  rw [ht] at q1
  have f0 := fsb0 (.int .i64 own) ⟨rfl, rfl⟩ (.int .i64 0) .nils
  have hbx := boxV_2b (a := .int .i64 own) (b := .nils) rfl rfl
  have hK0 : Keep s (s.push (.row [.int .i64 own, .nils] true)) := (Keep.refl s).push _
  have hg0 := St.get_push_new s (.row [.int .i64 own, .nils] true)
  obtain ⟨p, u1, q2, hp, hK1⟩ := q_Values (hK0.read hr)
  obtain ⟨lv, u, q3, hK2, hO1⟩ := acall_fresh (D := inC) (pSrt_low hp ((hK0.trans hK1).read hr) (by omega)) (fun x hx => by cases hx)
  have q3 : acall (conF inC pSrt) false [.fn 40 [.ptr p 0]] u1 = some (lv, u) := q3
  have hg1 := (hK1.trans hK2).blk hg0
  have hKu := (hK0.trans hK1).trans hK2
  have hlS := sortI_len l
  have hlv := lenV_read hO1.read
  simp (config := {contextual := true, maxDischargeDepth := 12}) only [tb_at, h0, h1, hlen, q1, ap_build, fillP_nil, fillP_cons, f0, hbx, q2, q3, hlv, decide_true, decide_false, Bool.not_true, Bool.not_false, bin_eql, bin_neq, ↓bD, bU, forall_const, bS, implies_true, isNx, eq_self, ↓wp_cond, ↓wp_loop, ↓reduceIte, reduceCtorEq, Nat.reduceEqDiff, Nat.reduceLT, Nat.reduceAdd, Nat.reduceMul, bT, ↓sg_bsl, ↓st_callf, bX, ap_mkfn, ap_conv, ↓wi_seq, ↓wi_base, ↓wi_block, ↓wi_cond, ↓wi_loop, ↓wi_rf, ↓wy_seq, ↓wy_base, ↓wy_block, ↓wy_cond, ↓wy_loop, ↓wy_yld, bin_shr1, q_known, ae_callvV, callvV_fn, List.append_nil, List.cons_append, List.nil_append, fs40, fs41, mmV_max2, ↓sg_callf3]
  have hib : s.next < u.next := St.get_lt hg1
  have hsep : lv = .nils ∨ bid lv ∉ [s.next] := by
    rcases hO1 with ⟨q, _⟩ | ⟨j, q, h5, h6, h7⟩
    · exact .inl q
    · refine .inr ?_
      subst q
      have hlt := St.get_lt (hK1.blk hg0)
      simp only [bid, List.mem_singleton]
      omega
  obtain ⟨I, hI⟩ : ∃ I : Nat → Env → St → Prop, ∀ n0 e t, I n0 e t = (∃ k w, n0 + k = (sortI l).length ∧ elen e = 60 ∧ E e 0 = .int .i64 own ∧ E e 6 = .ptr s.next 0 ∧ E e 7 = lv ∧ E e 19 = lv ∧ E e 20 = .int .i64 ((sortI l).length : Int) ∧ E e 21 = .int .i64 (k : Int) ∧ Chg [s.next] u t ∧ t.get s.next = some (.row [.int .i64 own, w] true) ∧ Own nbC u t w (((sortI l).take k).map nbI) ∧ (∀ x ∈ (sortI l).take k, (1 ≤ x ∧ x ≤ 64) ∧ x ≠ own) ∧ ((sortI l).take k).Pairwise (· < ·)) := ⟨fun n0 e t => (∃ k w, n0 + k = (sortI l).length ∧ elen e = 60 ∧ E e 0 = .int .i64 own ∧ E e 6 = .ptr s.next 0 ∧ E e 7 = lv ∧ E e 19 = lv ∧ E e 20 = .int .i64 ((sortI l).length : Int) ∧ E e 21 = .int .i64 (k : Int) ∧ Chg [s.next] u t ∧ t.get s.next = some (.row [.int .i64 own, w] true) ∧ Own nbC u t w (((sortI l).take k).map nbI) ∧ (∀ x ∈ (sortI l).take k, (1 ≤ x ∧ x ≤ 64) ∧ x ≠ own) ∧ ((sortI l).take k).Pairwise (· < ·)), fun _ _ _ => rfl⟩
  refine lwp_inv I (n := (sortI l).length) ?_ ?_
  · rw [hI]
    exact ⟨0, .nils, by omega, (by simp only [bE, Nat.reduceEqDiff, bN, Nat.reduceLT, hlen, h0, h1]; try rfl), (by simp only [bE, Nat.reduceEqDiff, bN, Nat.reduceLT, hlen, h0, h1]; try rfl), (by simp only [bE, Nat.reduceEqDiff, bN, Nat.reduceLT, hlen, h0, h1]; try rfl), (by simp only [bE, Nat.reduceEqDiff, bN, Nat.reduceLT, hlen, h0, h1]; try rfl), (by simp only [bE, Nat.reduceEqDiff, bN, Nat.reduceLT, hlen, h0, h1]; try rfl), (by simp only [bE, Nat.reduceEqDiff, bN, Nat.reduceLT, hlen, h0, h1]; try rfl), (by simp only [bE, Nat.reduceEqDiff, bN, Nat.reduceLT, hlen, h0, h1]; try rfl), Chg.refl _ _, hg1, .nil _ _ _, by simp, by simp⟩
  clear h0 h1 hlen q1 q2 q3 ha
  intro n0 e t hi
  rw [hI] at hi
  obtain ⟨k, w, hnk, he, e0, e6, e7, e19, e20, e21, hC, hbox, hO, hpre, hasc⟩ := hi
  have hKK : Keep s t := hKu.chgn hC (by simp)
  have hrd := read_chg hO1.read hC hsep
  by_cases hlt : k < (sortI l).length
  rotate_left
  · have hk : k = (sortI l).length := by omega
    rw [hk, List.take_length] at hO hpre hasc
    have hok : okL own l := okL_sort h0w hpre hasc
    have z1 := eq_false (show ¬ (k : Int) < ((sortI l).length : Int) by omega)
    obtain ⟨j, cap, hA, hj⟩ := hO.nwb.akr (s0 := s) (u := t) (id := s.next) (rep := own) (by omega) hbox (fun _ _ h _ => h) (by rw [List.length_map]; omega) (Nat.le_refl _)
    simp (config := {contextual := true, maxDischargeDepth := 12}) only [tb_at, he, e0, e6, e7, e19, e20, e21, z1, decide_true, decide_false, Bool.not_true, Bool.not_false, bin_eql, bin_neq, ↓bD, bU, forall_const, bS, implies_true, isNx, eq_self, ↓wp_cond, ↓wp_loop, ↓reduceIte, reduceCtorEq, Nat.reduceEqDiff, Nat.reduceLT, Nat.reduceAdd, Nat.reduceMul, bT, ↓sg_bsl, ↓st_callf, bX, ap_mkfn, ap_conv, ↓wi_seq, ↓wi_base, ↓wi_block, ↓wi_cond, ↓wi_loop, ↓wi_rf, ↓wy_seq, ↓wy_base, ↓wy_block, ↓wy_cond, ↓wy_loop, ↓wy_yld, bin_shr1, q_known, ae_callvV, callvV_fn, List.append_nil, List.cons_append, List.nil_append, fs40, fs41, mmV_max2, ↓sg_callf3]
    all_goals first | exact ⟨_, rfl, ⟨fun _ => ⟨_, _, _, rfl, hA, Nat.le_refl _, hj⟩, fun q => absurd hok q⟩, hKK⟩ | exact ⟨_, rfl, fun _ => ⟨_, _, _, rfl, hA, Nat.le_refl _, hj⟩, fun q => absurd hok q⟩ | exact ⟨⟨fun _ => ⟨_, _, _, rfl, hA, Nat.le_refl _, hj⟩, fun q => absurd hok q⟩, hKK⟩ | exact ⟨fun _ => ⟨_, _, _, rfl, hA, Nat.le_refl _, hj⟩, fun q => absurd hok q⟩ | skip
  have z1 := eq_true (show (k : Int) < ((sortI l).length : Int) by omega)
  obtain ⟨b, hb⟩ := getsome hlt
  obtain ⟨i1, i2, i3⟩ := in_lods hrd hb
  have q4 := q_repl false b (s := t)
  have hbm : b ∈ l := (sortI_perm l).mem_iff.1 (List.mem_of_getElem? hb)
  by_cases c1 : 1 ≤ b ∧ b ≤ 64
  rotate_left
  · have hno : ¬ okL own l := fun q => c1 (q.2.1 b hbm).1
    rw [show (decide (1 ≤ b) && decide (b ≤ 64)) = false by rw [← Bool.decide_and]; exact decide_eq_false c1] at q4
    simp (config := {contextual := true, maxDischargeDepth := 12}) only [tb_at, he, e0, e6, e7, e19, e20, e21, z1, i1, i2, i3, q4, notV_bool, pickV_t, pickV_f, decide_true, decide_false, Bool.not_true, Bool.not_false, bin_eql, bin_neq, ↓bD, bU, forall_const, bS, implies_true, isNx, eq_self, ↓wp_cond, ↓wp_loop, ↓reduceIte, reduceCtorEq, Nat.reduceEqDiff, Nat.reduceLT, Nat.reduceAdd, Nat.reduceMul, bT, ↓sg_bsl, ↓st_callf, bX, ap_mkfn, ap_conv, ↓wi_seq, ↓wi_base, ↓wi_block, ↓wi_cond, ↓wi_loop, ↓wi_rf, ↓wy_seq, ↓wy_base, ↓wy_block, ↓wy_cond, ↓wy_loop, ↓wy_yld, bin_shr1, q_known, ae_callvV, callvV_fn, List.append_nil, List.cons_append, List.nil_append, fs40, fs41, mmV_max2, ↓sg_callf3]
    all_goals first | exact ⟨_, rfl, ⟨fun q => absurd q hno, fun _ => rfl⟩, hKK⟩ | exact ⟨_, rfl, fun q => absurd q hno, fun _ => rfl⟩ | exact ⟨⟨fun q => absurd q hno, fun _ => rfl⟩, hKK⟩ | exact ⟨fun q => absurd q hno, fun _ => rfl⟩ | skip
  rw [show (decide (1 ≤ b) && decide (b ≤ 64)) = true by rw [← Bool.decide_and]; exact decide_eq_true c1] at q4
  by_cases c2 : b = own
  · have hno : ¬ okL own l := fun q => (q.2.1 b hbm).2 c2
    have z2 := eq_true c2
    simp (config := {contextual := true, maxDischargeDepth := 12}) only [tb_at, he, e0, e6, e7, e19, e20, e21, z1, z2, i1, i2, i3, q4, notV_bool, pickV_t, pickV_f, decide_true, decide_false, Bool.not_true, Bool.not_false, bin_eql, bin_neq, ↓bD, bU, forall_const, bS, implies_true, isNx, eq_self, ↓wp_cond, ↓wp_loop, ↓reduceIte, reduceCtorEq, Nat.reduceEqDiff, Nat.reduceLT, Nat.reduceAdd, Nat.reduceMul, bT, ↓sg_bsl, ↓st_callf, bX, ap_mkfn, ap_conv, ↓wi_seq, ↓wi_base, ↓wi_block, ↓wi_cond, ↓wi_loop, ↓wi_rf, ↓wy_seq, ↓wy_base, ↓wy_block, ↓wy_cond, ↓wy_loop, ↓wy_yld, bin_shr1, q_known, ae_callvV, callvV_fn, List.append_nil, List.cons_append, List.nil_append, fs40, fs41, mmV_max2, ↓sg_callf3]
    all_goals first | exact ⟨_, rfl, ⟨fun q => absurd q hno, fun _ => rfl⟩, hKK⟩ | exact ⟨_, rfl, fun q => absurd q hno, fun _ => rfl⟩ | exact ⟨⟨fun q => absurd q hno, fun _ => rfl⟩, hKK⟩ | exact ⟨fun q => absurd q hno, fun _ => rfl⟩ | skip
  have z2 := eq_false c2
  have hbxb : bslV [.int .i64 0, .int .i64 0, .int .i64 0, .int .i64 0] 1 4 [(0, .agg [.int .i64 b, .int .i64 0, .int .i64 0, .int .i64 0])] = some (fun id => .sl id 0 1 (some 1) 4, .row [.int .i64 b, .int .i64 0, .int .i64 0, .int .i64 0] true) := rfl
  have ff0 : ∀ K : List AV → Option (List AV), fstep [.int .i64 0, .int .i64 0, .int .i64 0, .int .i64 0] 0 1 (.int .i64 b) K = K [.int .i64 b, .int .i64 0, .int .i64 0, .int .i64 0] := fun K => rfl
  have ff1 : ∀ K : List AV → Option (List AV), fstep [.int .i64 0, .int .i64 0, .int .i64 0, .int .i64 0] 0 4 (.agg [.int .i64 b, .int .i64 0, .int .i64 0, .int .i64 0]) K = K [.int .i64 b, .int .i64 0, .int .i64 0, .int .i64 0] := fun K => rfl
  obtain ⟨b0, b1, blt⟩ := row2_lod hbox
  obtain ⟨w', u', hap, hst, hlt', hC', hbox', hO'⟩ := box_app hC hbox hib hO (nbI b) (by rw [List.length_map, List.length_take]; omega)
  have hap : appV (t.push (.row [.int .i64 b, .int .i64 0, .int .i64 0, .int .i64 0] true)) 4 32 w (.sl t.next 0 1 (some 1) 4) = some (w', u') := hap
  have hb0 : lod1 (t.push (.row [.int .i64 b, .int .i64 0, .int .i64 0, .int .i64 0] true)) (.ptr s.next 1) = some w := (row2_lod (get_push_some _ hbox)).2.1
  have hw2 := wrap_add1 (n := k) (by omega)
  have htk : (sortI l).take (k + 1) = (sortI l).take k ++ [b] := by rw [List.take_add_one, hb]; rfl
  have hOn : Own nbC u (u'.put s.next (.row [.int .i64 own, w'] true)) w' (((sortI l).take (k + 1)).map nbI) := by
    rw [htk, List.map_append]
    exact hO'
  have hpre' : ∀ x ∈ (sortI l).take (k + 1), (1 ≤ x ∧ x ≤ 64) ∧ x ≠ own := fun x hx => by
    rw [htk] at hx
    rcases List.mem_append.1 hx with q | q
    · exact hpre x q
    · rw [List.mem_singleton] at q
      subst q
      exact ⟨c1, c2⟩
  by_cases c3 : 0 < k
  rotate_left
  · have z3 := eq_false (show ¬ (0 : Int) < (k : Int) by omega)
    have hasc' : ((sortI l).take (k + 1)).Pairwise (· < ·) := asc_snoc hasc hb (fun c h => absurd h c3)
    simp (config := {contextual := true, maxDischargeDepth := 12}) only [tb_at, he, e0, e6, e7, e19, e20, e21, z1, z2, z3, i1, i2, i3, q4, b0, b1, blt, ap_build, fillP_nil, fillP_cons, ff0, ff1, aa_bsl1, hbxb, hap, hst, hlt', hb0, hw2, nchkV_ptr, notV_bool, pickV_t, pickV_f, decide_true, decide_false, Bool.not_true, Bool.not_false, bin_eql, bin_neq, ↓bD, bU, forall_const, bS, implies_true, isNx, eq_self, ↓wp_cond, ↓wp_loop, ↓reduceIte, reduceCtorEq, Nat.reduceEqDiff, Nat.reduceLT, Nat.reduceAdd, Nat.reduceMul, bT, ↓sg_bsl, ↓st_callf, bX, ap_mkfn, ap_conv, ↓wi_seq, ↓wi_base, ↓wi_block, ↓wi_cond, ↓wi_loop, ↓wi_rf, ↓wy_seq, ↓wy_base, ↓wy_block, ↓wy_cond, ↓wy_loop, ↓wy_yld, bin_shr1, q_known, ae_callvV, callvV_fn, List.append_nil, List.cons_append, List.nil_append, fs40, fs41, mmV_max2, ↓sg_callf3]
    refine ⟨n0 - 1, by omega, ?_⟩
    rw [hI]
    exact ⟨k + 1, w', by omega, (by simp only [bE, Nat.reduceEqDiff, bN, Nat.reduceLT, he, e0, e6, e7, e19, e20, e21]; try rfl), (by simp only [bE, Nat.reduceEqDiff, bN, Nat.reduceLT, he, e0, e6, e7, e19, e20, e21]; try rfl), (by simp only [bE, Nat.reduceEqDiff, bN, Nat.reduceLT, he, e0, e6, e7, e19, e20, e21]; try rfl), (by simp only [bE, Nat.reduceEqDiff, bN, Nat.reduceLT, he, e0, e6, e7, e19, e20, e21]; try rfl), (by simp only [bE, Nat.reduceEqDiff, bN, Nat.reduceLT, he, e0, e6, e7, e19, e20, e21]; try rfl), (by simp only [bE, Nat.reduceEqDiff, bN, Nat.reduceLT, he, e0, e6, e7, e19, e20, e21]; try rfl), (by simp only [bE, Nat.reduceEqDiff, bN, Nat.reduceLT, he, e0, e6, e7, e19, e20, e21]; try rfl), hC', hbox', hOn, hpre', hasc'⟩
  have z3 := eq_true (show (0 : Int) < (k : Int) by omega)
  obtain ⟨c, hc⟩ := getsome (show k - 1 < (sortI l).length by omega)
  have hwk : IntKind.i64.wrap ((k : Int) - 1) = ((k - 1 : Nat) : Int) := by
    rw [show (k : Int) - 1 = ((k - 1 : Nat) : Int) by omega]
    exact wrapI (by omega) (by omega)
  obtain ⟨j1, j2, j3⟩ := in_lods hrd hc
  have hcb := sorted_le (sortI_sorted l) hc hb (by omega)
  by_cases c4 : c = b
  · subst c4
    have hno : ¬ okL own l := fun q => nodup_ne ((sortI_perm l).nodup_iff.2 q.2.2) hc hb (by omega)
    simp (config := {contextual := true, maxDischargeDepth := 12}) only [tb_at, he, e0, e6, e7, e19, e20, e21, z1, z2, z3, i1, i2, i3, hwk, j1, j2, j3, q4, notV_bool, pickV_t, pickV_f, decide_true, decide_false, Bool.not_true, Bool.not_false, bin_eql, bin_neq, ↓bD, bU, forall_const, bS, implies_true, isNx, eq_self, ↓wp_cond, ↓wp_loop, ↓reduceIte, reduceCtorEq, Nat.reduceEqDiff, Nat.reduceLT, Nat.reduceAdd, Nat.reduceMul, bT, ↓sg_bsl, ↓st_callf, bX, ap_mkfn, ap_conv, ↓wi_seq, ↓wi_base, ↓wi_block, ↓wi_cond, ↓wi_loop, ↓wi_rf, ↓wy_seq, ↓wy_base, ↓wy_block, ↓wy_cond, ↓wy_loop, ↓wy_yld, bin_shr1, q_known, ae_callvV, callvV_fn, List.append_nil, List.cons_append, List.nil_append, fs40, fs41, mmV_max2, ↓sg_callf3]
    all_goals first | exact ⟨_, rfl, ⟨fun q => absurd q hno, fun _ => rfl⟩, hKK⟩ | exact ⟨_, rfl, fun q => absurd q hno, fun _ => rfl⟩ | exact ⟨⟨fun q => absurd q hno, fun _ => rfl⟩, hKK⟩ | exact ⟨fun q => absurd q hno, fun _ => rfl⟩ | skip
  have z4 := eq_false c4
  have hasc' : ((sortI l).take (k + 1)).Pairwise (· < ·) := asc_snoc hasc hb (fun d _ hd => by
    rw [hc] at hd
    injection hd with hd
    omega)
  simp (config := {contextual := true, maxDischargeDepth := 12}) only [tb_at, he, e0, e6, e7, e19, e20, e21, z1, z2, z3, z4, i1, i2, i3, hwk, j1, j2, j3, q4, b0, b1, blt, ap_build, fillP_nil, fillP_cons, ff0, ff1, aa_bsl1, hbxb, hap, hst, hlt', hb0, hw2, nchkV_ptr, notV_bool, pickV_t, pickV_f, decide_true, decide_false, Bool.not_true, Bool.not_false, bin_eql, bin_neq, ↓bD, bU, forall_const, bS, implies_true, isNx, eq_self, ↓wp_cond, ↓wp_loop, ↓reduceIte, reduceCtorEq, Nat.reduceEqDiff, Nat.reduceLT, Nat.reduceAdd, Nat.reduceMul, bT, ↓sg_bsl, ↓st_callf, bX, ap_mkfn, ap_conv, ↓wi_seq, ↓wi_base, ↓wi_block, ↓wi_cond, ↓wi_loop, ↓wi_rf, ↓wy_seq, ↓wy_base, ↓wy_block, ↓wy_cond, ↓wy_loop, ↓wy_yld, bin_shr1, q_known, ae_callvV, callvV_fn, List.append_nil, List.cons_append, List.nil_append, fs40, fs41, mmV_max2, ↓sg_callf3]
  refine ⟨n0 - 1, by omega, ?_⟩
  rw [hI]
  exact ⟨k + 1, w', by omega, (by simp only [bE, Nat.reduceEqDiff, bN, Nat.reduceLT, he, e0, e6, e7, e19, e20, e21]; try rfl), (by simp only [bE, Nat.reduceEqDiff, bN, Nat.reduceLT, he, e0, e6, e7, e19, e20, e21]; try rfl), (by simp only [bE, Nat.reduceEqDiff, bN, Nat.reduceLT, he, e0, e6, e7, e19, e20, e21]; try rfl), (by simp only [bE, Nat.reduceEqDiff, bN, Nat.reduceLT, he, e0, e6, e7, e19, e20, e21]; try rfl), (by simp only [bE, Nat.reduceEqDiff, bN, Nat.reduceLT, he, e0, e6, e7, e19, e20, e21]; try rfl), (by simp only [bE, Nat.reduceEqDiff, bN, Nat.reduceLT, he, e0, e6, e7, e19, e20, e21]; try rfl), (by simp only [bE, Nat.reduceEqDiff, bN, Nat.reduceLT, he, e0, e6, e7, e19, e20, e21]; try rfl), hC', hbox', hOn, hpre', hasc'⟩

end Go.AM
end
/-
  New of the reference. Own work of this project; in part printed by a program of it.
-/
section
set_option maxRecDepth 100000
set_option maxHeartbeats 8000000
namespace Go.AM
open Go Go.Proofs

variable {s t u : St}
theorem q_New {s : St} {nv : AV} {own : Int} {l : List Int} (hr : AM.read inC s nv = some l) (hl : l.length ≤ 100) : ∃ r t, acall R_New false [.int .i64 own, nv] s = some (r, t) ∧ ((okL own l → ∃ id j cap, r = .tup [.ptr id 0, .int .i64 0] ∧ AkR t id j cap own ((sortI l).map nbI) ∧ s.next ≤ id ∧ s.next ≤ j) ∧ (¬ okL own l → r = .tup [.nilp, .int .i64 2])) ∧ Keep s t :=
  run_any n_New (args := [.int .i64 own, nv]) (Q := (fun r t => (okL own l → ∃ id j cap, r = .tup [.ptr id 0, .int .i64 0] ∧ AkR t id j cap own ((sortI l).map nbI) ∧ s.next ≤ id ∧ s.next ≤ j) ∧ (¬ okL own l → r = .tup [.nilp, .int .i64 2]))) (by simp [a9]) (fun r t t' hg hn ⟨h1, h2⟩ => ⟨fun q => by
    obtain ⟨id, j, cap, e, h, h4, h5⟩ := h1 q
    exact ⟨id, j, cap, e, ⟨by rw [hg]; exact h.box, fun q => by rw [hg]; exact h.dat q, h.hcap, h.hn, by rw [hn]; exact h.jlt⟩, h4, h5⟩, h2⟩) (fun r t hgr hk ⟨h1, h2⟩ => ⟨fun q => by
    obtain ⟨id, j, cap, e, _⟩ := h1 q
    rw [e] at hgr
    simp [AV.ground, AV.plain, AV.plains] at hgr, h2⟩) (w_New (s := lowd s) (read_low' hr) hl)
theorem q_New_ok {s : St} {nv : AV} {own : Int} {l : List Int} (hr : AM.read inC s nv = some l) (hl : l.length ≤ 100) (hok : okL own l) : ∃ id j cap t, acall R_New false [.int .i64 own, nv] s = some (.tup [.ptr id 0, .int .i64 0], t) ∧ AkR t id j cap own ((sortI l).map nbI) ∧ s.next ≤ id ∧ s.next ≤ j ∧ Keep s t := by
  obtain ⟨r, t, h1, ⟨h2, _⟩, h3⟩ := q_New (own := own) hr hl
  obtain ⟨id, j, cap, rfl, h4, h5, h6⟩ := h2 hok
  exact ⟨id, j, cap, t, h1, h4, h5, h6, h3⟩
end Go.AM
end
/-
  What the arguments of the statements show: numbers, nodes, states, lists of states. Own work of this project.
-/
section
set_option maxRecDepth 100000
namespace Go.AM
open Go Go.Proofs

variable {P : Program} {s : St}
theorem rd_slice {d : Nat} {t e : TypeId} {vs : List AV} (hu : P.underlying t = some (.slice e)) (h : RdT P s (d + 1) t vs) : vs = [.nils] ∨ ∃ (id n cap : Nat) (rows : List (List AV)), vs = [.sl id 0 n (some cap) (P.cellsOf e)] ∧ n ≤ cap ∧ cap ≤ maxLen ∧ rows.length = cap ∧ s.get id = some (.row rows.flatten false) ∧ ∀ r ∈ rows, RdT P s d e r ∧ r.length = P.cellsOf e := by
  simp only [RdT, hu] at h
  exact h
theorem rd_int {d : Nat} {t : TypeId} {k : IntKind} {vs : List AV} (hu : P.underlying t = some (.int k)) (h : RdT P s (d + 1) t vs) : ∃ n, vs = [.int k n] ∧ (Lit.int k n).wf = true := by
  simp only [RdT, hu] at h
  exact h
theorem rda_int {d : Nat} {t : TypeId} {k : IntKind} {v : AV} (hu : P.underlying t = some (.int k)) (h : RdA P s (d + 1) t v) : ∃ n, v = .int k n ∧ (Lit.int k n).wf = true := by
  obtain ⟨vs, h1, rfl⟩ := h
  obtain ⟨n, rfl, hw⟩ := rd_int hu h1
  exact ⟨n, by simp [argAV, hu], hw⟩
theorem lawC_some {d : Nat} {ts : List TypeId} {xs : List AV} {r : AV} {s' : St} (h : lawC P d ts xs s = some (r, s')) : RdAs P s d ts xs ∧ r = .bool true ∧ s' = s.lowed := by
  unfold lawC at h
  split at h
  · rename_i hr
    injection h with h
    obtain ⟨rfl, rfl⟩ := Prod.mk.inj h
    exact ⟨hr, rfl, rfl⟩
  · cases h
theorem rdas_1 {d : Nat} {t : TypeId} {xs : List AV} (h : RdAs P s d [t] xs) : ∃ v, xs = [v] ∧ RdA P s d t v := by
  obtain ⟨v, r, rfl, h1, h2⟩ := h
  simp only [RdAs] at h2
  subst h2
  exact ⟨v, rfl, h1⟩
theorem rdas_2 {d : Nat} {t1 t2 : TypeId} {xs : List AV} (h : RdAs P s d [t1, t2] xs) : ∃ v w, xs = [v, w] ∧ RdA P s d t1 v ∧ RdA P s d t2 w := by
  obtain ⟨v, r, rfl, h1, h2⟩ := h
  obtain ⟨w, rfl, h3⟩ := rdas_1 h2
  exact ⟨v, w, rfl, h1, h3⟩
theorem rdas_3 {d : Nat} {t1 t2 t3 : TypeId} {xs : List AV} (h : RdAs P s d [t1, t2, t3] xs) : ∃ v w u, xs = [v, w, u] ∧ RdA P s d t1 v ∧ RdA P s d t2 w ∧ RdA P s d t3 u := by
  obtain ⟨v, r, rfl, h1, h2⟩ := h
  obtain ⟨w, u, rfl, h3, h4⟩ := rdas_2 h2
  exact ⟨v, w, u, rfl, h1, h3, h4⟩
end Go.AM
end
/-
  Lists of integers as arguments; AcksNew. Own work of this project; in part printed by a program of it.
-/
section
set_option maxRecDepth 100000
set_option maxHeartbeats 8000000
namespace Go.AM
open Go Go.Proofs

variable {s t u : St}

theorem int_underK : Try.prog.underlying 3 = some (.int .i64) := by kernel_rfl
end Go.AM
end
/-
  AcksPlays. Own work of this project; in part printed by a program of it.
-/
section
set_option maxRecDepth 100000
set_option maxHeartbeats 8000000
namespace Go.AM
open Go Go.Proofs

variable {s t u : St}

theorem acts_under : Try.prog.underlying 40 = some (.slice 42) := by kernel_rfl
theorem act_cells : Try.prog.cellsOf 42 = 4 := by kernel_rfl
theorem act_fields : fieldsT Try.prog 42 = some [3, 3, 3, 3] := by kernel_rfl
theorem acts_of_rows {d : Nat} : ∀ {rows : List (List AV)}, (∀ r ∈ rows, RdT Try.prog s (d + 2) 42 r) → ∃ l : List Nb, rows.flatten = nbC.cells l ∧ l.length = rows.length
  | [], _ => ⟨[], rfl, rfl⟩
  | r :: rows, h => by
    obtain ⟨r1, x1, rfl, k1, r2, x2, rfl, k2, r3, x3, rfl, k3, r4, x4, rfl, k4, rfl⟩ := rd_struct act_fields (h r (by simp))
    obtain ⟨a, rfl, _⟩ := rd_int int_underK k1
    obtain ⟨b, rfl, _⟩ := rd_int int_underK k2
    obtain ⟨c, rfl, _⟩ := rd_int int_underK k3
    obtain ⟨f, rfl, _⟩ := rd_int int_underK k4
    obtain ⟨l, h1, h2⟩ := acts_of_rows (rows := rows) fun r' hr' => h r' (by simp [hr'])
    exact ⟨⟨a, b, c, f⟩ :: l, by rw [List.flatten_cons, h1, cells_cons]; rfl, by simp [h2]⟩
theorem rda_acts25 {v : AV} (h : RdA Try.prog s 8 40 v) : ∃ l, read nbC s v = some l := by
  obtain ⟨vs, h1, rfl⟩ := h
  rcases rd_slice acts_under h1 with rfl | ⟨id, n, cap, rows, rfl, h1, _, h3, h4, h5⟩
  · exact ⟨[], by simp [argAV, acts_under]; rfl⟩
  · obtain ⟨l, e1, e2⟩ := acts_of_rows (d := 5) fun r hr => (h5 r hr).1
    have e : argAV Try.prog 40 [.sl id 0 n (some cap) (Try.prog.cellsOf 42)] = .sl id 0 n (some cap) 4 := by simp [argAV, acts_under, act_cells]
    rw [e]
    refine ⟨l.take n, ?_⟩
    have hall : read nbC s (.sl id 0 cap (some cap) 4) = some l := by
      have hcl : (nbC.cells l).length = l.length * 4 := cells_len nbC l
      refine read_of (C := nbC) (by omega) h4 ?_ ?_
      · rw [e1, hcl]
        show 0 + cap * 4 ≤ _
        omega
      · rw [e1, List.drop_zero, show cap * nbC.sz = (nbC.cells l).length by rw [hcl]; show cap * 4 = _; omega, List.take_length]
    exact read_take hall n h1
theorem row4_at {id : Nat} {y : Nb} (h : t.get id = some (.row (Nb.av y) true)) : lod1 t (.ptr id 0) = some (.int .i64 y.r) ∧ lod1 t (.ptr id 1) = some (.int .i64 y.e) ∧ lod1 t (.ptr id 2) = some (.int .i64 y.a) ∧ lod1 t (.ptr id 3) = some (.int .i64 y.g) ∧ ltN id t := by
  refine ⟨?_, ?_, ?_, ?_, St.get_lt h⟩ <;> simp [lod1, h, Nb.av]
/-! ### What keeps the list sorted -/
theorem srt_map {L : List Nb} : SrtB L ↔ (L.map Nb.r).Pairwise (· < ·) := by
  unfold SrtB
  rw [List.pairwise_map]
theorem set_map {L : List Nb} {i : Nat} {x y : Nb} (hx : L[i]? = some x) (h : y.r = x.r) : (L.set i y).map Nb.r = L.map Nb.r := by
  rw [List.map_set, h]
  exact set_id (by rw [List.getElem?_map, hx]; rfl)
theorem opL_map {f : Nb → Int × Nb} {n : Int} (hf : ∀ x : Nb, x.r = n → (f x).2.r = n) (L : List Nb) : (opL f L n).2.map Nb.r = L.map Nb.r := by
  cases h : fndB L n with
  | none => rw [opL_miss h]
  | some i =>
    obtain ⟨x, hx, hr⟩ := fndB_some h
    rw [opL_hit h hx]
    exact set_map hx (by rw [hf x hr, hr])
theorem opL_srt {f : Nb → Int × Nb} {n : Int} (hf : ∀ x : Nb, x.r = n → (f x).2.r = n) {L : List Nb} (h : SrtB L) : SrtB (opL f L n).2 := by
  rw [srt_map, opL_map hf, ← srt_map]
  exact h
theorem meet_r (n ep : Int) (x : Nb) (h : x.r = n) : (meetF n ep x).2.r = n := by
  unfold meetF
  split
  · exact h
  · split
    · exact h
    · split
      · rfl
      · exact h
theorem ack_r {n : Int} (m l : Int) (x : Nb) (h : x.r = n) : (ackF m l x).2.r = n := by
  unfold ackF
  split
  · exact h
  · split <;> exact h
theorem recv_r {n : Int} (f l : Int) (x : Nb) (h : x.r = n) : (recvF f l x).2.r = n := by
  unfold recvF
  split
  · exact h
  · split <;> exact h
theorem jump_r {n : Int} (l : Int) (x : Nb) (h : x.r = n) : (jumpF l x).2.r = n := by
  unfold jumpF
  split <;> exact h
/-! ### fails -/
/-- What a replica knows and what the reference knows: the same. -/
structure Pk (s t : St) (B id j : Nat) (cap : Option Nat) (ix jx : Nat) (capx : Option Nat) (own : Int) (L : List Nb) : Prop where
  ak : AkR t id j cap own L
  xk : AkR t ix jx capx own L
  srt : SrtB L
  bx : s.next ≤ ix ∧ s.next ≤ jx ∧ ix < B ∧ jx < B ∧ B ≤ id ∧ B ≤ j
theorem Pk.keep {B id j ix jx : Nat} {cap capx : Option Nat} {own : Int} {L : List Nb} (h : Pk s t B id j cap ix jx capx own L) (hK : Keep t u) : Pk s u B id j cap ix jx capx own L := ⟨h.ak.keep hK, h.xk.keep hK, h.srt, h.bx⟩

theorem bin_neN (a : Int) : binOp .neq .no (.int .i64 a) (.int .i64 a) = some (.bool false) := by simp [binOp, intOp]
end Go.AM
end
/-
  AcksAll. Own work of this project; in part printed by a program of it.
-/
section
set_option maxRecDepth 100000
set_option maxHeartbeats 8000000
namespace Go.AM
open Go Go.Proofs

variable {s t u : St}

/-! ### Lists of 16-bit numbers -/
def u16C : Cod UInt16 where
  sz := 1
  enc := fun b => [.int .u16 (b.toNat : Int)]
  dec := fun cs => match cs with
    | [.int .u16 n] => if 0 ≤ n ∧ n < 65536 then some (UInt16.ofNat n.toNat) else none
    | _ => none
  pos := by decide
  len := fun _ => rfl
  plain := fun _ => rfl
  dec_enc := fun b => by
    have h := b.toNat_lt
    simp only
    rw [if_pos ⟨by omega, by omega⟩]
    simp
  enc_dec := fun cs x h => by
    split at h
    · split at h
      · rename_i n hn
        injection h with h
        subst h
        simp only [UInt16.toNat_ofNat']
        congr 2
        omega
      · cases h
    · cases h
theorem u16C_sz : u16C.sz = 1 := rfl
theorem u16_lods {v : AV} {l : List UInt16} (h : AM.read u16C s v = some l) {i : Nat} {b : UInt16} (hi : l[i]? = some b) : iadV 1 v (.int .i64 (i : Int)) = some (.ptr (bid v) (boff v + i)) ∧ lod1 s (.ptr (bid v) (boff v + i)) = some (.int .u16 (b.toNat : Int)) ∧ ltN (bid v) s := by
  have h1 := read_idx h hi .i64
  rw [u16C_sz, Nat.mul_one] at h1
  have hl := read_lt h (Keep.refl s) hi
  refine ⟨h1, ?_, hl⟩
  cases v with
  | nils => simp [AM.read] at h; subst h; simp at hi
  | sl id off n cap z =>
    obtain ⟨rfl, rfl, cs, own, hg, _, _, h5⟩ := read_sl h
    obtain ⟨k1, k2⟩ := h5 i b hi 0 1 (Nat.le_refl 1)
    rw [u16C_sz, Nat.mul_one, Nat.add_zero] at k1 k2
    show lod1 s (.ptr id (off + i)) = _
    simp only [lod1, hg]
    have e := congrArg (fun l => l[0]?) k2
    simpa [show u16C.enc b = [AV.int .u16 (b.toNat : Int)] from rfl] using e
  | _ => simp [AM.read] at h
theorem u16_under : Try.prog.underlying 36 = some (.int .u16) := by kernel_rfl
theorem u16s_under : Try.prog.underlying 33 = some (.slice 36) := by kernel_rfl
theorem u16_cells : Try.prog.cellsOf 36 = 1 := by kernel_rfl
theorem u16_of {n : Int} (h : (Lit.int .u16 n).wf = true) : ∃ b : UInt16, n = (b.toNat : Int) := by
  have h1 : 0 ≤ n ∧ n < 65536 := by
    have e1 : IntKind.u16.min = 0 := by decide
    have e2 : IntKind.u16.max = 65535 := by decide
    simp [Lit.wf, e1, e2] at h
    omega
  refine ⟨UInt16.ofNat n.toNat, ?_⟩
  simp only [UInt16.toNat_ofNat']
  omega
theorem u16s_of_rows {d : Nat} : ∀ {rows : List (List AV)}, (∀ r ∈ rows, RdT Try.prog s (d + 1) 36 r) → ∃ l : List UInt16, rows.flatten = u16C.cells l ∧ l.length = rows.length
  | [], _ => ⟨[], rfl, rfl⟩
  | r :: rows, h => by
    obtain ⟨n, rfl, hw⟩ := rd_int u16_under (h r (by simp))
    obtain ⟨b, rfl⟩ := u16_of hw
    obtain ⟨l, h1, h2⟩ := u16s_of_rows (rows := rows) fun r' hr' => h r' (by simp [hr'])
    exact ⟨b :: l, by rw [List.flatten_cons, h1, cells_cons]; rfl, by simp [h2]⟩
theorem rda_u16s {v : AV} (h : RdA Try.prog s 8 33 v) : ∃ l, read u16C s v = some l := by
  obtain ⟨vs, h1, rfl⟩ := h
  rcases rd_slice u16s_under h1 with rfl | ⟨id, n, cap, rows, rfl, h1, _, h3, h4, h5⟩
  · exact ⟨[], by simp [argAV, u16s_under]; rfl⟩
  · obtain ⟨l, e1, e2⟩ := u16s_of_rows fun r hr => (h5 r hr).1
    have e : argAV Try.prog 33 [.sl id 0 n (some cap) (Try.prog.cellsOf 36)] = .sl id 0 n (some cap) 1 := by simp [argAV, u16s_under, u16_cells]
    rw [e]
    refine ⟨l.take n, ?_⟩
    have hall : read u16C s (.sl id 0 cap (some cap) 1) = some l := by
      have hcl : (u16C.cells l).length = l.length * 1 := cells_len u16C l
      refine read_of (C := u16C) (by omega) h4 ?_ ?_
      · rw [e1, hcl]
        show 0 + cap * 1 ≤ _
        omega
      · rw [e1, List.drop_zero, show cap * u16C.sz = (u16C.cells l).length by rw [hcl]; show cap * 1 = _; omega, List.take_length]
    exact read_take hall n h1
theorem ap_conv16 {env : Env} (x : AO) : apure env (.conv .i64 x) = (match aev env x with
    | .int _ n => some (.int .i64 (IntKind.i64.wrap n))
    | _ => none) := nrfl rfl
/-! ### Plain -/
instance okL_dec (own : Int) (l : List Int) : Decidable (okL own l) := by unfold okL; infer_instance
def nn (U : List UInt16) (i : Nat) : Int := match U[i]? with
  | some b => (b.toNat : Int)
  | none => 65535
def lsP (U : List UInt16) : Nat → Int
  | 0 => 1099511627776
  | k + 1 => min (lsP U k) (nn U k)
theorem lsP_le {U : List UInt16} : ∀ {k i : Nat}, i < k → lsP U k ≤ nn U i
  | k + 1, i, h => by
    unfold lsP
    by_cases hi : i < k
    · have := lsP_le (U := U) hi
      omega
    · obtain rfl : i = k := by omega
      omega
theorem lsP_ge {U : List UInt16} {c : Int} (h0 : c ≤ 1099511627776) : ∀ {k : Nat}, (∀ i, i < k → c ≤ nn U i) → c ≤ lsP U k
  | 0, _ => h0
  | k + 1, h => by
    unfold lsP
    have h1 := lsP_ge h0 (k := k) fun i hi => h i (by omega)
    have h2 := h k (by omega)
    omega
theorem lsP_top {U : List UInt16} : ∀ k : Nat, lsP U k ≤ 1099511627776
  | 0 => Int.le_refl _
  | k + 1 => by
    unfold lsP
    have := lsP_top (U := U) k
    omega
theorem fold_le : ∀ (L : List Nb) (c : Int), L.foldl (fun n x => min n x.a) c ≤ c ∧ ∀ x ∈ L, L.foldl (fun n x => min n x.a) c ≤ x.a
  | [], c => ⟨Int.le_refl _, fun x h => by simp at h⟩
  | y :: L, c => by
    obtain ⟨h1, h2⟩ := fold_le L (min c y.a)
    refine ⟨?_, fun x hx => ?_⟩
    · show L.foldl (fun n x => min n x.a) (min c y.a) ≤ c
      omega
    · show L.foldl (fun n x => min n x.a) (min c y.a) ≤ x.a
      rcases List.mem_cons.1 hx with rfl | hx
      · omega
      · exact h2 x hx
theorem fold_ge {d : Int} : ∀ (L : List Nb) (c : Int), d ≤ c → (∀ x ∈ L, d ≤ x.a) → d ≤ L.foldl (fun n x => min n x.a) c
  | [], c, h, _ => h
  | y :: L, c, h, k => by
    have h1 := k y (by simp)
    exact fold_ge L (min c y.a) (by omega) fun x hx => k x (by simp [hx])
theorem needP_le {L : List Nb} {x : Nb} (h : x ∈ L) : needP L ≤ x.a := (fold_le L _).2 x h
theorem needP_top (L : List Nb) : needP L ≤ 1099511627776 := (fold_le L _).1
theorem needP_ge {L : List Nb} {d : Int} (h0 : d ≤ 1099511627776) (h : ∀ x ∈ L, d ≤ x.a) : d ≤ needP L := fold_ge L _ h0 h
theorem srt_fnd : ∀ {L : List Nb}, SrtB L → ∀ {i : Nat} {x : Nb}, L[i]? = some x → fndB L x.r = some i
  | [], _, i, x, h => by simp at h
  | y :: L, hs, 0, x, h => by
    simp at h
    subst h
    unfold fndB
    rw [if_pos rfl]
  | y :: L, hs, i + 1, x, h => by
    have h' : L[i]? = some x := by simpa using h
    unfold SrtB at hs
    rw [List.pairwise_cons] at hs
    have hlt := hs.1 x (List.mem_of_getElem? h')
    unfold fndB
    rw [if_neg (by omega), srt_fnd (L := L) hs.2 h']
    rfl
/-- What is known after k acknowledgements. -/
def Ak (D : List Int) (U : List UInt16) (k : Nat) (L : List Nb) : Prop := L.length = 63 ∧ ∀ i b, D[i]? = some b → L[62 - i]? = some ⟨b, 0, if i < k then nn U i else 0, 0⟩
theorem Ak.zero {D : List Int} {U : List UInt16} (hD : D.length = 63) (hs : sortI D = D.reverse) : Ak D U 0 ((sortI D).map nbI) := by
  refine ⟨by rw [List.length_map, sortI_len, hD], fun i b hb => ?_⟩
  have hi := getlt hb
  rw [List.getElem?_map, hs, List.getElem?_reverse (by omega), hD, show 63 - 1 - (62 - i) = i by omega, hb]
  rfl
theorem Ak.mem {D : List Int} {U : List UInt16} {k : Nat} {L : List Nb} {x : Nb} (h : Ak D U k L) (hD : D.length = 63) (hx : x ∈ L) : ∃ i, i < 63 ∧ x.a = if i < k then nn U i else 0 := by
  obtain ⟨j, hj⟩ := List.mem_iff_getElem?.1 hx
  have hjl := getlt hj
  rw [h.1] at hjl
  obtain ⟨b, hb⟩ := getsome (show 62 - j < D.length by omega)
  have := h.2 (62 - j) b hb
  rw [show 62 - (62 - j) = j by omega, hj] at this
  injection this with this
  refine ⟨62 - j, by omega, ?_⟩
  rw [this]
theorem Ak.need {D : List Int} {U : List UInt16} {L : List Nb} (h : Ak D U 63 L) (hD : D.length = 63) : needP L = lsP U 63 := by
  have h1 : lsP U 63 ≤ needP L := needP_ge (lsP_top 63) fun x hx => by
    obtain ⟨i, hi, e⟩ := h.mem hD hx
    rw [e, if_pos hi]
    exact lsP_le hi
  have h2 : needP L ≤ lsP U 63 := lsP_ge (needP_top L) fun i hi => by
    obtain ⟨b, hb⟩ := getsome (show i < D.length by omega)
    have h2 := h.2 i b hb
    rw [if_pos hi] at h2
    exact needP_le (List.mem_of_getElem? h2)
  omega
end Go.AM
end
/-
  AcksHolds: plain laws. Own work of this project; in part printed by a program of it.
-/
section
set_option maxRecDepth 100000
set_option maxHeartbeats 8000000
namespace Go.AM
open Go Go.Proofs

variable {s t u : St}

/-! ### The neighbours from 2 on -/
def nl : Nat → List Int
  | 0 => []
  | k + 1 => nl k ++ [2 + (k : Int)]
theorem nl_len : ∀ k, (nl k).length = k
  | 0 => rfl
  | k + 1 => by
    unfold nl
    rw [List.length_append, nl_len k]
    rfl
theorem nl_at : ∀ {k i : Nat}, i < k → (nl k)[i]? = some (2 + (i : Int))
  | k + 1, i, h => by
    unfold nl
    by_cases hi : i < k
    · rw [List.getElem?_append_left (by rw [nl_len]; exact hi)]
      exact nl_at hi
    · obtain rfl : i = k := by omega
      rw [List.getElem?_append_right (by rw [nl_len]; exact Nat.le_refl _), nl_len, Nat.sub_self]
      rfl
theorem nl_fin : ∀ k : Fin 11, okL 1 (nl k.val) ∧ sortI (nl k.val) = nl k.val := by decide +kernel
theorem nl_ok {k : Nat} (h : k ≤ 10) : okL 1 (nl k) ∧ sortI (nl k) = nl k := nl_fin ⟨k, by omega⟩
/-! ### Acknowledgements in any order -/
def mx : List (Int × Int) → Int → Int
  | [], _ => 0
  | p :: P, r => if p.1 = r then max p.2 (mx P r) else mx P r
theorem mx_nn : ∀ (P : List (Int × Int)) (r : Int), 0 ≤ mx P r
  | [], _ => Int.le_refl _
  | p :: P, r => by
    have := mx_nn P r
    unfold mx
    split <;> omega
theorem mx_snoc (p : Int × Int) (r : Int) : ∀ P : List (Int × Int), mx (P ++ [p]) r = if p.1 = r then max (mx P r) p.2 else mx P r
  | [] => by
    show mx [p] r = _
    unfold mx mx
    split <;> omega
  | q :: P => by
    have ih := mx_snoc p r P
    show mx (q :: (P ++ [p])) r = _
    unfold mx
    rw [ih]
    split <;> split <;> omega
theorem mx_mem {P : List (Int × Int)} {p : Int × Int} (h : p ∈ P) : p.2 ≤ mx P p.1 := by
  induction P with
  | nil => simp at h
  | cons q P ih =>
    unfold mx
    rcases List.mem_cons.1 h with rfl | h
    · rw [if_pos rfl]
      omega
    · have := ih h
      split <;> omega
theorem mx_sub {Q : List (Int × Int)} (r : Int) : ∀ {P : List (Int × Int)}, (∀ p ∈ P, p ∈ Q) → mx P r ≤ mx Q r
  | [], _ => mx_nn Q r
  | p :: P, h => by
    have h1 := mx_sub r (P := P) fun q hq => h q (by simp [hq])
    have h2 := mx_mem (h p (by simp))
    show (if p.1 = r then max p.2 (mx P r) else mx P r) ≤ mx Q r
    split
    · rename_i e
      rw [e] at h2
      omega
    · exact h1
def stL (N : Nat) (P : List (Int × Int)) : List Nb := (nl N).map fun r => ⟨r, 0, mx P r, 0⟩
theorem stL_len (N : Nat) (P : List (Int × Int)) : (stL N P).length = N := by unfold stL; rw [List.length_map, nl_len]
theorem stL_at {N i : Nat} (h : i < N) (P : List (Int × Int)) : (stL N P)[i]? = some ⟨2 + (i : Int), 0, mx P (2 + (i : Int)), 0⟩ := by
  unfold stL
  rw [List.getElem?_map, nl_at h]
  rfl
theorem stL_srt {N : Nat} (h : N ≤ 10) (P : List (Int × Int)) : SrtB (stL N P) := by
  have := okL_srt (nl_ok h).1
  rw [(nl_ok h).2] at this
  rw [srt_map] at this ⊢
  unfold stL
  rw [List.map_map] at this ⊢
  exact this
theorem stL_congr {N : Nat} {P Q : List (Int × Int)} (h : ∀ r, mx P r = mx Q r) : stL N P = stL N Q := by
  unfold stL
  congr 1
  funext r
  rw [h r]
theorem stL_ack {N i : Nat} (hN : N ≤ 10) (h : i < N) (P : List (Int × Int)) {n : Int} (hn : 0 ≤ n ∧ n ≤ 1000) : opL (ackF n 1000) (stL N P) (2 + (i : Int)) = (0, stL N (P ++ [(2 + (i : Int), n)])) := by
  have hx := stL_at h P
  have hf : fndB (stL N P) (2 + (i : Int)) = some i := srt_fnd (stL_srt hN P) hx
  rw [opL_hit hf hx]
  have ha : ackF n 1000 ⟨2 + (i : Int), 0, mx P (2 + (i : Int)), 0⟩ = (0, ⟨2 + (i : Int), 0, max (mx P (2 + (i : Int))) n, 0⟩) := by
    unfold ackF
    rw [if_neg (by unfold numI; simp; omega), if_neg (by omega)]
  rw [ha]
  simp only [Prod.mk.injEq, true_and]
  refine List.ext_getElem? fun k => ?_
  by_cases hk : k < N
  · by_cases hki : k = i
    · subst hki
      rw [List.getElem?_set_self (getlt hx), stL_at h, mx_snoc, if_pos rfl]
    · rw [List.getElem?_set_ne (Ne.symm hki), stL_at hk, stL_at hk, mx_snoc, if_neg (by simp only; omega)]
  · rw [List.getElem?_eq_none (by rw [List.length_set, stL_len]; omega), List.getElem?_eq_none (by rw [stL_len]; omega)]
theorem stL_twice {N : Nat} (P : List (Int × Int)) (p : Int × Int) : stL N (P ++ [p] ++ [p]) = stL N (P ++ [p]) := stL_congr fun r => by
  rw [mx_snoc, mx_snoc]
  split <;> omega
def prN (N : Nat) (b : UInt16) : Int × Int := (2 + ((b.toNat % N : Nat) : Int), ((b.toNat % 1000 : Nat) : Int))
theorem stL_rev (N : Nat) (U : List UInt16) : stL N (U.map (prN N)) = stL N (U.reverse.map (prN N)) := stL_congr fun r => by
  have h1 := mx_sub r (P := U.map (prN N)) (Q := U.reverse.map (prN N)) fun p hp => by simpa using hp
  have h2 := mx_sub r (P := U.reverse.map (prN N)) (Q := U.map (prN N)) fun p hp => by simpa using hp
  omega
theorem take_pr {N i : Nat} {U : List UInt16} {b : UInt16} (h : U[i]? = some b) : (U.take (i + 1)).map (prN N) = (U.take i).map (prN N) ++ [prN N b] := by
  rw [List.take_add_one, h, List.map_append]
  rfl
/-! ### What a call may change -/
def BB (L : List Nb) : Prop := ∀ x ∈ L, 0 ≤ x.g ∧ x.g ≤ 1099511627776
structure RelN (ac p q : Nb) : Prop where
  r : q.r = p.r
  e : (q.e = p.e ∧ p.a ≤ q.a ∧ p.g ≤ q.g) ∨ (p.e < q.e ∧ q.a = 0 ∧ q.g = 0)
  w : ac.r = 2 → p.g < q.g → ac.a ≤ p.g + 1 ∧ ac.g = q.g
theorem RelN.refl (ac p : Nb) : RelN ac p p := ⟨rfl, .inl ⟨rfl, Int.le_refl _, Int.le_refl _⟩, fun _ h => absurd h (Int.lt_irrefl _)⟩
structure OpR (ac : Nb) (L : List Nb) (c : Int) (L' : List Nb) : Prop where
  rel : ∀ (k : Nat) (p q : Nb), L[k]? = some p → L'[k]? = some q → RelN ac p q
  len : L'.length = L.length
  srt : SrtB L'
  bb : BB L'
  same : c ≠ 0 → L' = L
theorem OpR.refl {ac : Nb} {L : List Nb} (hs : SrtB L) (hb : BB L) (c : Int) : OpR ac L c L := ⟨fun k p q h1 h2 => by
  rw [h1] at h2
  injection h2 with h2
  subst h2
  exact .refl _ _, rfl, hs, hb, fun _ => rfl⟩
theorem OpR.op {ac : Nb} {L : List Nb} (hs : SrtB L) (hb : BB L) {f : Nb → Int × Nb} {n : Int} (hr : ∀ x : Nb, x.r = n → (f x).2.r = n) (h : ∀ p : Nb, p.r = n → 0 ≤ p.g ∧ p.g ≤ 1099511627776 → RelN ac p (f p).2 ∧ (0 ≤ (f p).2.g ∧ (f p).2.g ≤ 1099511627776) ∧ ((f p).1 ≠ 0 → (f p).2 = p)) : OpR ac L (opL f L n).1 (opL f L n).2 := by
  cases hf : fndB L n with
  | none =>
    rw [opL_miss hf]
    exact .refl hs hb _
  | some i =>
    have hsr := opL_srt hr hs
    obtain ⟨x, hx, hxr⟩ := fndB_some hf
    obtain ⟨k1, k2, k3⟩ := h x hxr (hb x (List.mem_of_getElem? hx))
    rw [opL_hit hf hx] at hsr ⊢
    refine ⟨fun k p q h1 h2 => ?_, by rw [List.length_set], hsr, fun y hy => ?_, fun hc => ?_⟩
    · by_cases hk : k = i
      · subst hk
        simp only at h2
        rw [List.getElem?_set_self (getlt hx)] at h2
        rw [hx] at h1
        injection h1 with h1
        injection h2 with h2
        subst h1
        subst h2
        exact k1
      · simp only at h2
        rw [List.getElem?_set_ne (Ne.symm hk), h1] at h2
        injection h2 with h2
        subst h2
        exact .refl _ _
    · rcases List.mem_or_eq_of_mem_set hy with q | rfl
      · exact hb y q
      · exact k2
    · simp only at hc ⊢
      rw [k3 hc]
      exact set_id hx
theorem meet_rel {ac : Nb} (hw : ac.r = 0) (p : Nb) (hp : p.r = ac.e) (hb : 0 ≤ p.g ∧ p.g ≤ 1099511627776) : RelN ac p (meetF ac.e ac.a p).2 ∧ (0 ≤ (meetF ac.e ac.a p).2.g ∧ (meetF ac.e ac.a p).2.g ≤ 1099511627776) ∧ ((meetF ac.e ac.a p).1 ≠ 0 → (meetF ac.e ac.a p).2 = p) := by
  unfold meetF
  split
  · exact ⟨.refl _ _, hb, fun _ => rfl⟩
  · split
    · exact ⟨.refl _ _, hb, fun _ => rfl⟩
    · split
      · rename_i hlt
        refine ⟨⟨hp.symm, .inr ⟨hlt, rfl, rfl⟩, fun h => by omega⟩, ⟨Int.le_refl _, by simp only; omega⟩, fun h => absurd rfl h⟩
      · exact ⟨.refl _ _, hb, fun _ => rfl⟩
theorem ack_rel {ac : Nb} (hw : ac.r = 1) (p : Nb) (hp : p.r = ac.e) (hb : 0 ≤ p.g ∧ p.g ≤ 1099511627776) : RelN ac p (ackF ac.a ac.g p).2 ∧ (0 ≤ (ackF ac.a ac.g p).2.g ∧ (ackF ac.a ac.g p).2.g ≤ 1099511627776) ∧ ((ackF ac.a ac.g p).1 ≠ 0 → (ackF ac.a ac.g p).2 = p) := by
  unfold ackF
  split
  · exact ⟨.refl _ _, hb, fun _ => rfl⟩
  · split
    · exact ⟨.refl _ _, hb, fun _ => rfl⟩
    · exact ⟨⟨rfl, .inl ⟨rfl, by simp only; omega, Int.le_refl _⟩, fun h => by omega⟩, hb, fun h => absurd rfl h⟩
theorem numI_b {n : Int} (h : ¬ numI n = false) : 0 ≤ n ∧ n ≤ 1099511627776 := by
  unfold numI at h
  simp at h
  exact h
theorem recv_rel {ac : Nb} (p : Nb) (hp : p.r = ac.e) (hb : 0 ≤ p.g ∧ p.g ≤ 1099511627776) : RelN ac p (recvF ac.a ac.g p).2 ∧ (0 ≤ (recvF ac.a ac.g p).2.g ∧ (recvF ac.a ac.g p).2.g ≤ 1099511627776) ∧ ((recvF ac.a ac.g p).1 ≠ 0 → (recvF ac.a ac.g p).2 = p) := by
  have hwr : IntKind.i64.wrap (p.g + 1) = p.g + 1 := by
    obtain ⟨g, hg⟩ : ∃ g : Nat, p.g = (g : Int) := ⟨p.g.toNat, by omega⟩
    rw [hg, show (g : Int) + 1 = ((g + 1 : Nat) : Int) by omega]
    exact wrapI (by omega) (by omega)
  unfold recvF
  rw [hwr]
  split
  · exact ⟨.refl _ _, hb, fun _ => rfl⟩
  · rename_i h1
    split
    · exact ⟨.refl _ _, hb, fun _ => rfl⟩
    · rename_i h2
      have h3 := numI_b (n := ac.g) fun q => h1 (.inr (.inl q))
      refine ⟨⟨rfl, .inl ⟨rfl, Int.le_refl _, by simp only; omega⟩, fun _ h => ?_⟩, ⟨by simp only; omega, by simp only; omega⟩, fun h => absurd rfl h⟩
      simp only at h ⊢
      omega
theorem jump_rel {ac : Nb} (hw : ac.r = 3) (p : Nb) (hp : p.r = ac.e) (hb : 0 ≤ p.g ∧ p.g ≤ 1099511627776) : RelN ac p (jumpF ac.a p).2 ∧ (0 ≤ (jumpF ac.a p).2.g ∧ (jumpF ac.a p).2.g ≤ 1099511627776) ∧ ((jumpF ac.a p).1 ≠ 0 → (jumpF ac.a p).2 = p) := by
  unfold jumpF
  split
  · exact ⟨.refl _ _, hb, fun _ => rfl⟩
  · rename_i h1
    have h3 := numI_b h1
    exact ⟨⟨rfl, .inl ⟨rfl, Int.le_refl _, by simp only; omega⟩, fun h => by omega⟩, ⟨by simp only; omega, by simp only; omega⟩, fun h => absurd rfl h⟩

end Go.AM
end
/-
  AcksHolds. Own work of this project; in part printed by a program of it.
-/
section
set_option maxRecDepth 100000
set_option maxHeartbeats 8000000
namespace Go.AM
open Go Go.Proofs

variable {s t u : St}
theorem awp_blockM {call : Nat → List AV → St → Option (AV × St)} {c : AC} {i : Nat} {M : Env → St → Prop} {env : Env} {s : St} (h : awp call c (fun x e t => x = .nor ∧ M e t) env s) : awp call (.block i c) (fun x e t => x = .nor ∧ M e t) env s := by
  rw [wp_block]
  refine awp_mono _ (fun x e t q => ?_) h
  obtain ⟨rfl, q⟩ := q
  exact ⟨rfl, q⟩

def oldA (base : Nat) : AV → Bool
  | .ptr id _ => decide (id < base)
  | _ => false
def lstep (base : Nat) (a : AV) (o : Option AV) (K : AV → Prop) : Prop := match o with
  | some v => oldA base a = true ∧ K v
  | none => False
@[congr] theorem lstep_congr {base : Nat} {a a' : AV} {o o' : Option AV} (ha : a = a') (h : o = o') (K : AV → Prop) : lstep base a o K = lstep base a' o' K := by rw [ha, h]
theorem lstep_some {base : Nat} {a : AV} (h : oldA base a = true) (v : AV) (K : AV → Prop) : lstep base a (some v) K = K v := by simp [lstep, h]
theorem oldA_lt {base id o : Nat} (h : id < base) : oldA base (.ptr id o) = true := by simp [oldA, h]
theorem st_loadnf {call : Nat → List AV → St → Option (AV × St)} {base : Nat} {d r : Option Nat} {rest : List AOper} {Q : Env → St → Prop} {env : Env} {s : St} (n : Nat) (x : AO) : awops call base (⟨d, .loadn n x, none, r, true⟩ :: rest) Q env s = lstep base (aev env x) (aread call env s (.loadn n x)) fun v => awops call base rest Q (pE env d v) s := by
  rw [awops_cons (by simp)]
  have h1 : aalloc env (.loadn n x) = none := rfl
  have h2 : apure env (.loadn n x) = none := rfl
  have h3 : ∀ s, aeff call env s (.loadn n x) = none := fun _ => rfl
  have h4 : oldLoad base env (.loadn n x) = oldA base (aev env x) := by
    show (match aev env x with | .ptr id _ => decide (id < base) | _ => false) = _
    unfold oldA
    cases aev env x <;> rfl
  simp only [aop, h1, h2, h3, Bool.true_and]
  cases aread call env s (.loadn n x) with
  | none => simp [lstep, estep]
  | some v =>
    rw [show oldLoad base env (AOp.loadn n x) = oldA base (aev env x) from h4]
    by_cases hb : oldA base (aev env x) = true
    · simp [lstep, estep, hb]
    · simp [lstep, estep, hb]
theorem floor_store (n : Nat) (a x : AO) (base nx : Nat) : (AOp.store n a x).floor base nx = base := rfl
theorem bin_rem16 {a b : Nat} (hb : 0 < b) : binOp .rem .no (.int .u16 (a : Int)) (.int .u16 (b : Int)) = some (.int .u16 ((a % b : Nat) : Int)) := by
  have h0 : ¬ ((b : Int) = 0) := by omega
  have e : (a : Int).tmod (b : Int) = ((a % b : Nat) : Int) := by rw [Int.tmod_eq_emod_of_nonneg (by omega)]; rfl
  show (if (b : Int) = 0 then none else some (AV.int .u16 ((a : Int).tmod (b : Int)))) = _
  rw [if_neg h0, e]
theorem bin_remI {a b : Nat} (hb : 0 < b) : binOp .rem .no (.int .i64 (a : Int)) (.int .i64 (b : Int)) = some (.int .i64 ((a % b : Nat) : Int)) := by
  have h0 : ¬ ((b : Int) = 0) := by omega
  have e : (a : Int).tmod (b : Int) = ((a % b : Nat) : Int) := by rw [Int.tmod_eq_emod_of_nonneg (by omega)]; rfl
  show (if (b : Int) = 0 then none else some (AV.int .i64 ((a : Int).tmod (b : Int)))) = _
  rw [if_neg h0, e]
theorem NwB.chg {M : List Nat} {v : AV} {L : List Nb} (h : NwB s t v L) (hC : Chg M t u) (hM : ∀ id ∈ M, id < s.next) : NwB s u v L := by
  rcases h with q | ⟨j, cap, rfl, h0, h1, h2, h3⟩
  · exact .inl q
  · exact .inr ⟨j, cap, rfl, h0, h1, hC.blk h2 fun hm => by have := hM j hm; omega, h3⟩
/-- Two boxes, made and filled in one region. -/
theorem two_boxes (z : St) (p q : Nb) : ∃ S1 T1 T2 : St, S1 = ((z.reserve 2).born z.next (.row zr true)).born (z.next + 1) (.row zr true) ∧
    AM.sto { heap := S1.heap, next := S1.next, low := S1.next } 4 (.ptr z.next 0) (.agg (Nb.av p)) = some (.und, T1) ∧ z.next ≤ T1.low ∧
    AM.sto { heap := T1.heap, next := T1.next, low := min S1.low T1.low } 4 (.ptr (z.next + 1) 0) (.agg (Nb.av q)) = some (.und, T2) ∧
    T2.get z.next = some (.row (Nb.av p) true) ∧ T2.get (z.next + 1) = some (.row (Nb.av q) true) ∧ Keep z T2 := by
  have hK0 : Keep z (z.reserve 2) := keep_reserve z 2
  have hg0 : (z.reserve 2).get z.next = some .unborn := by rw [St.get_reserve]; simp
  have hg1 : (z.reserve 2).get (z.next + 1) = some .unborn := by
    rw [St.get_reserve]
    simp
    intro h
    omega
  have hA := St.get_born_same (b := .row zr true) hg0
  have hl0 := St.get_lt hg0
  have hK1 := hK0.born (.row zr true) (Nat.le_refl _) hl0
  obtain ⟨A, hAe⟩ : ∃ A, A = (z.reserve 2).born z.next (.row zr true) := ⟨_, rfl⟩
  have hg1A : A.get (z.next + 1) = some .unborn := by rw [hAe, St.get_born_ne _ _ hl0 (by omega)]; exact hg1
  rw [← hAe] at hA hK1
  have hl1 := St.get_lt hg1A
  obtain ⟨S1, hS1⟩ : ∃ S1, S1 = A.born (z.next + 1) (.row zr true) := ⟨_, rfl⟩
  have hK2 : Keep z S1 := by rw [hS1]; exact hK1.born _ (by omega) hl1
  have k0 : S1.get z.next = some (.row zr true) := by rw [hS1, St.get_born_ne _ _ hl1 (by omega)]; exact hA
  have k1 : S1.get (z.next + 1) = some (.row zr true) := by rw [hS1]; exact St.get_born_same hg1A
  obtain ⟨S2, hS2⟩ : ∃ S2 : St, S2 = { heap := S1.heap, next := S1.next, low := S1.next } := ⟨_, rfl⟩
  have hnx : z.next + 1 < S1.next := St.get_lt k1
  have m0 : S2.get z.next = some (.row zr true) := by rw [hS2]; exact k0
  have m1 : S2.get (z.next + 1) = some (.row zr true) := by rw [hS2]; exact k1
  have hs1 := row4_sto m0 rfl p
  obtain ⟨T1, hT1⟩ : ∃ T1, T1 = S2.put z.next (.row (Nb.av p) true) := ⟨_, rfl⟩
  rw [← hT1] at hs1
  have hlow : z.next ≤ T1.low := by
    rw [hT1, hS2]
    simp
    omega
  have p0 : T1.get z.next = some (.row (Nb.av p) true) := by rw [hT1]; exact St.get_put_same m0
  have p1 : T1.get (z.next + 1) = some (.row zr true) := by rw [hT1, St.get_put_ne _ _ (St.get_lt m0) (by omega)]; exact m1
  obtain ⟨T1', hT1'⟩ : ∃ T : St, T = { heap := T1.heap, next := T1.next, low := min S1.low T1.low } := ⟨_, rfl⟩
  have q0 : T1'.get z.next = some (.row (Nb.av p) true) := by rw [hT1']; exact p0
  have q1 : T1'.get (z.next + 1) = some (.row zr true) := by rw [hT1']; exact p1
  have hs2 := row4_sto q1 rfl q
  have hKT : Keep z T1' := by
    refine ⟨?_, fun id hid => ?_, ?_⟩
    · rw [hT1', hT1, hS2]
      simpa using hK2.next
    · have e1 : T1'.get id = T1.get id := by rw [hT1']; rfl
      have e2 : S2.get id = S1.get id := by rw [hS2]; rfl
      rw [e1, hT1, St.get_put_ne _ _ (St.get_lt m0) (by omega), e2]
      exact hK2.get id hid
    · rw [hT1']
      show min z.low z.next ≤ min S1.low T1.low
      have := hK2.low
      omega
  refine ⟨S1, T1, T1'.put (z.next + 1) (.row (Nb.av q) true), by rw [hS1, hAe], by rw [← hS2]; exact hs1, hlow, by rw [← hT1']; exact hs2, ?_, St.get_put_same q1, hKT.put _ (by omega) (St.get_lt q1)⟩
  rw [St.get_put_ne _ _ (St.get_lt q1) (by omega)]
  exact q0

end Go.AM
end
/-
  AcksHolds: the walk. Own work of this project; in part printed by a program of it.
-/
section
set_option maxRecDepth 100000
set_option maxHeartbeats 8000000
namespace Go.AM
open Go Go.Proofs

variable {s t u : St}
theorem s_AcksHolds : SoundAt Try.prog 5 (lawC Try.prog 8 [3, 40, 33]) :=
  con_keep (tb_sound (l := [(8, closed [] (.bool true)), (9, R_New), (12, R_All), (15, R_Meet), (13, R_Ack), (16, R_Recv), (17, R_Jump), (18, R_same), (14, R_Needed)]) (by simpa using ⟨s_known, s_New, s_All, s_Meet, s_Ack, s_Recv, s_Jump, s_same, s_Needed⟩)) mixed Try.func5 k5 c5 fun args s r s' h => by
    obtain ⟨hh, rfl, rfl⟩ := lawC_some h
    obtain ⟨y1, vl, vu, rfl, k1, k2, k3⟩ := rdas_3 hh
    obtain ⟨many, rfl, _⟩ := rda_int int_underK k1
    obtain ⟨M, hV⟩ := rda_acts25 k2
    obtain ⟨U, hW⟩ := rda_u16s k3
    refine ⟨rfl, rfl, by simp [a5], fun env hlen ha => ?_⟩
    have h0 : E env 0 = _ := ha 0 _ rfl
    have h1 : E env 1 = _ := ha 1 _ rfl
    have h2 : E env 2 = _ := ha 2 _ rfl
    have hlen : elen env = _ := hlen
    simp only [a5] at hlen
    unfold a5
    try dsimp only [oO, oG]
    have hM := lenV_read hV
    have hU := lenV_read hW
    by_cases c0 : many < 1
    · have z0 := eq_true c0
      simp (config := {contextual := true, maxDischargeDepth := 12, maxSteps := 4000000}) only [tb_at, h0, h1, h2, hlen, hM, hU, z0, notV_bool, Bool.not_true, Bool.not_false, pickV_t, pickV_f, bin_eql, bin_neq, bin_neb, bin_npn, bin_np, bin_npnx, gcall_tt, gpure_tf, beq_self_eq_true, Bool.true_and, Bool.and_true, decide_true, decide_false, gcall_ff, bin_neN, lstep_some, floor_store, ↓st_loadnf, reserve0, ↓bD, bU, forall_const, bS, implies_true, isNx, eq_self, ↓wp_cond, ↓wp_loop, ↓reduceIte, reduceCtorEq, Nat.reduceEqDiff, Nat.reduceLT, Nat.reduceAdd, Nat.reduceMul, bT, ↓sg_bsl, ↓st_callf, bX, ap_mkfn, ap_conv, ↓wi_seq, ↓wi_base, ↓wi_block, ↓wi_cond, ↓wi_loop, ↓wi_rf, ↓wy_seq, ↓wy_base, ↓wy_block, ↓wy_cond, ↓wy_loop, ↓wy_yld, bin_shr1, ae_callvV, callvV_fn, List.append_nil, List.cons_append, List.nil_append, fs40, fs41, mmV_max2, ↓sg_callf3, q_known]
      all_goals first | exact .refl s | skip
    have z0 := eq_false c0
    by_cases c1 : 10 < many
    · have z1 := eq_true c1
      simp (config := {contextual := true, maxDischargeDepth := 12, maxSteps := 4000000}) only [tb_at, h0, h1, h2, hlen, hM, hU, z0, z1, notV_bool, Bool.not_true, Bool.not_false, pickV_t, pickV_f, bin_eql, bin_neq, bin_neb, bin_npn, bin_np, bin_npnx, gcall_tt, gpure_tf, beq_self_eq_true, Bool.true_and, Bool.and_true, decide_true, decide_false, gcall_ff, bin_neN, lstep_some, floor_store, ↓st_loadnf, reserve0, ↓bD, bU, forall_const, bS, implies_true, isNx, eq_self, ↓wp_cond, ↓wp_loop, ↓reduceIte, reduceCtorEq, Nat.reduceEqDiff, Nat.reduceLT, Nat.reduceAdd, Nat.reduceMul, bT, ↓sg_bsl, ↓st_callf, bX, ap_mkfn, ap_conv, ↓wi_seq, ↓wi_base, ↓wi_block, ↓wi_cond, ↓wi_loop, ↓wi_rf, ↓wy_seq, ↓wy_base, ↓wy_block, ↓wy_cond, ↓wy_loop, ↓wy_yld, bin_shr1, ae_callvV, callvV_fn, List.append_nil, List.cons_append, List.nil_append, fs40, fs41, mmV_max2, ↓sg_callf3, q_known]
      all_goals first | exact .refl s | skip
    have z1 := eq_false c1
    by_cases c2 : (40 : Int) < (M.length : Int)
    · have z2 := eq_true c2
      simp (config := {contextual := true, maxDischargeDepth := 12, maxSteps := 4000000}) only [tb_at, h0, h1, h2, hlen, hM, hU, z0, z1, z2, notV_bool, Bool.not_true, Bool.not_false, pickV_t, pickV_f, bin_eql, bin_neq, bin_neb, bin_npn, bin_np, bin_npnx, gcall_tt, gpure_tf, beq_self_eq_true, Bool.true_and, Bool.and_true, decide_true, decide_false, gcall_ff, bin_neN, lstep_some, floor_store, ↓st_loadnf, reserve0, ↓bD, bU, forall_const, bS, implies_true, isNx, eq_self, ↓wp_cond, ↓wp_loop, ↓reduceIte, reduceCtorEq, Nat.reduceEqDiff, Nat.reduceLT, Nat.reduceAdd, Nat.reduceMul, bT, ↓sg_bsl, ↓st_callf, bX, ap_mkfn, ap_conv, ↓wi_seq, ↓wi_base, ↓wi_block, ↓wi_cond, ↓wi_loop, ↓wi_rf, ↓wy_seq, ↓wy_base, ↓wy_block, ↓wy_cond, ↓wy_loop, ↓wy_yld, bin_shr1, ae_callvV, callvV_fn, List.append_nil, List.cons_append, List.nil_append, fs40, fs41, mmV_max2, ↓sg_callf3, q_known]
      all_goals first | exact .refl s | skip
    have z2 := eq_false c2
    by_cases c3 : (20 : Int) < (U.length : Int)
    · have z3 := eq_true c3
      simp (config := {contextual := true, maxDischargeDepth := 12, maxSteps := 4000000}) only [tb_at, h0, h1, h2, hlen, hM, hU, z0, z1, z2, z3, notV_bool, Bool.not_true, Bool.not_false, pickV_t, pickV_f, bin_eql, bin_neq, bin_neb, bin_npn, bin_np, bin_npnx, gcall_tt, gpure_tf, beq_self_eq_true, Bool.true_and, Bool.and_true, decide_true, decide_false, gcall_ff, bin_neN, lstep_some, floor_store, ↓st_loadnf, reserve0, ↓bD, bU, forall_const, bS, implies_true, isNx, eq_self, ↓wp_cond, ↓wp_loop, ↓reduceIte, reduceCtorEq, Nat.reduceEqDiff, Nat.reduceLT, Nat.reduceAdd, Nat.reduceMul, bT, ↓sg_bsl, ↓st_callf, bX, ap_mkfn, ap_conv, ↓wi_seq, ↓wi_base, ↓wi_block, ↓wi_cond, ↓wi_loop, ↓wi_rf, ↓wy_seq, ↓wy_base, ↓wy_block, ↓wy_cond, ↓wy_loop, ↓wy_yld, bin_shr1, ae_callvV, callvV_fn, List.append_nil, List.cons_append, List.nil_append, fs40, fs41, mmV_max2, ↓sg_callf3, q_known]
      all_goals first | exact .refl s | skip
    have z3 := eq_false c3
    obtain ⟨N, rfl⟩ : ∃ N : Nat, many = (N : Int) := ⟨many.toNat, by omega⟩
    have hN : N ≤ 10 := by omega
    have n00 : ((0 : Int) = 0) = True := eq_true rfl
    have he : elen env = 335 := hlen
    have e0 := h0
    have e1 := h1
    have e2 := h2
    refine awp_cutM (fun e tq => s = tq ∧ elen e = 335 ∧ E e 0 = .int .i64 (N : Int) ∧ E e 1 = vl ∧ E e 2 = vu ∧ E e 6 = .bool false) ?_ ?_
    · simp (config := {contextual := true, maxDischargeDepth := 12}) only [tb_at, he, e0, e1, e2, z0, notV_bool, Bool.not_true, Bool.not_false, pickV_t, pickV_f, bin_eql, bin_neq, bin_neb, bin_npn, bin_np, bin_npnx, gcall_tt, gpure_tf, beq_self_eq_true, Bool.true_and, Bool.and_true, decide_true, decide_false, gcall_ff, bin_neN, lstep_some, floor_store, ↓st_loadnf, reserve0, ↓bD, bU, forall_const, bS, implies_true, isNx, eq_self, ↓wp_cond, ↓wp_loop, ↓reduceIte, reduceCtorEq, Nat.reduceEqDiff, Nat.reduceLT, Nat.reduceAdd, Nat.reduceMul, bT, ↓sg_bsl, ↓st_callf, bX, ap_mkfn, ap_conv, ↓wi_seq, ↓wi_base, ↓wi_block, ↓wi_cond, ↓wi_loop, ↓wi_rf, ↓wy_seq, ↓wy_base, ↓wy_block, ↓wy_cond, ↓wy_loop, ↓wy_yld, bin_shr1, ae_callvV, callvV_fn, List.append_nil, List.cons_append, List.nil_append, fs40, fs41, mmV_max2, ↓sg_callf3, q_known]
    clear he e0 e1 e2
    rintro e _ ⟨rfl, he, e0, e1, e2, e6⟩
    refine awp_cutM (fun e tq => s = tq ∧ elen e = 335 ∧ E e 0 = .int .i64 (N : Int) ∧ E e 1 = vl ∧ E e 2 = vu) ?_ ?_
    · simp (config := {contextual := true, maxDischargeDepth := 12}) only [tb_at, he, e0, e1, e2, e6, hM, hU, z0, z1, z2, z3, notV_bool, Bool.not_true, Bool.not_false, pickV_t, pickV_f, bin_eql, bin_neq, bin_neb, bin_npn, bin_np, bin_npnx, gcall_tt, gpure_tf, beq_self_eq_true, Bool.true_and, Bool.and_true, decide_true, decide_false, gcall_ff, bin_neN, lstep_some, floor_store, ↓st_loadnf, reserve0, ↓bD, bU, forall_const, bS, implies_true, isNx, eq_self, ↓wp_cond, ↓wp_loop, ↓reduceIte, reduceCtorEq, Nat.reduceEqDiff, Nat.reduceLT, Nat.reduceAdd, Nat.reduceMul, bT, ↓sg_bsl, ↓st_callf, bX, ap_mkfn, ap_conv, ↓wi_seq, ↓wi_base, ↓wi_block, ↓wi_cond, ↓wi_loop, ↓wi_rf, ↓wy_seq, ↓wy_base, ↓wy_block, ↓wy_cond, ↓wy_loop, ↓wy_yld, bin_shr1, ae_callvV, callvV_fn, List.append_nil, List.cons_append, List.nil_append, fs40, fs41, mmV_max2, ↓sg_callf3, q_known]
    clear he e0 e1 e2 e6
    rintro e _ ⟨rfl, he, e0, e1, e2⟩
    refine awp_cutM (fun e tq => s = tq ∧ elen e = 335 ∧ E e 0 = .int .i64 (N : Int) ∧ E e 1 = vl ∧ E e 2 = vu ∧ E e 7 = .nils) ?_ ?_
    · simp (config := {contextual := true, maxDischargeDepth := 12}) only [tb_at, he, e0, e1, e2, z0, notV_bool, Bool.not_true, Bool.not_false, pickV_t, pickV_f, bin_eql, bin_neq, bin_neb, bin_npn, bin_np, bin_npnx, gcall_tt, gpure_tf, beq_self_eq_true, Bool.true_and, Bool.and_true, decide_true, decide_false, gcall_ff, bin_neN, lstep_some, floor_store, ↓st_loadnf, reserve0, ↓bD, bU, forall_const, bS, implies_true, isNx, eq_self, ↓wp_cond, ↓wp_loop, ↓reduceIte, reduceCtorEq, Nat.reduceEqDiff, Nat.reduceLT, Nat.reduceAdd, Nat.reduceMul, bT, ↓sg_bsl, ↓st_callf, bX, ap_mkfn, ap_conv, ↓wi_seq, ↓wi_base, ↓wi_block, ↓wi_cond, ↓wi_loop, ↓wi_rf, ↓wy_seq, ↓wy_base, ↓wy_block, ↓wy_cond, ↓wy_loop, ↓wy_yld, bin_shr1, ae_callvV, callvV_fn, List.append_nil, List.cons_append, List.nil_append, fs40, fs41, mmV_max2, ↓sg_callf3, q_known]
    clear he e0 e1 e2
    rintro e _ ⟨rfl, he, e0, e1, e2, e7⟩
    obtain ⟨M3, hM3⟩ : ∃ M3 : Env → St → Prop, ∀ e u, M3 e u = (∃ lv, Keep s u ∧ Own inC s u lv (nl N) ∧ elen e = 335 ∧ E e 0 = .int .i64 (N : Int) ∧ E e 1 = vl ∧ E e 2 = vu ∧ E e 7 = lv) := ⟨_, fun _ _ => rfl⟩
    refine awp_cutM M3 ?_ ?_
    · skip
      simp (config := {contextual := true, maxDischargeDepth := 12, maxSteps := 4000000}) only [tb_at, he, e0, e1, e2, e7, notV_bool, Bool.not_true, Bool.not_false, pickV_t, pickV_f, bin_eql, bin_neq, bin_neb, bin_npn, bin_np, bin_npnx, gcall_tt, gpure_tf, beq_self_eq_true, Bool.true_and, Bool.and_true, decide_true, decide_false, gcall_ff, bin_neN, lstep_some, floor_store, ↓st_loadnf, reserve0, ↓bD, bU, forall_const, bS, implies_true, isNx, eq_self, ↓wp_cond, ↓wp_loop, ↓reduceIte, reduceCtorEq, Nat.reduceEqDiff, Nat.reduceLT, Nat.reduceAdd, Nat.reduceMul, bT, ↓sg_bsl, ↓st_callf, bX, ap_mkfn, ap_conv, ↓wi_seq, ↓wi_base, ↓wi_block, ↓wi_cond, ↓wi_loop, ↓wi_rf, ↓wy_seq, ↓wy_base, ↓wy_block, ↓wy_cond, ↓wy_loop, ↓wy_yld, bin_shr1, ae_callvV, callvV_fn, List.append_nil, List.cons_append, List.nil_append, fs40, fs41, mmV_max2, ↓sg_callf3, q_known]
      obtain ⟨I, hI⟩ : ∃ I : Nat → Env → St → Prop, ∀ n e t, I n e t = (Keep s t ∧ ∃ (i : Nat) (lv : AV), n + i = N ∧ elen e = 335 ∧ E e 0 = .int .i64 (N : Int) ∧ E e 1 = vl ∧ E e 2 = vu ∧ E e 7 = lv ∧ E e 8 = .int .i64 (i : Int) ∧ Own inC s t lv (nl i)) := ⟨fun n e t => (Keep s t ∧ ∃ (i : Nat) (lv : AV), n + i = N ∧ elen e = 335 ∧ E e 0 = .int .i64 (N : Int) ∧ E e 1 = vl ∧ E e 2 = vu ∧ E e 7 = lv ∧ E e 8 = .int .i64 (i : Int) ∧ Own inC s t lv (nl i)), fun _ _ _ => rfl⟩
      refine lwp_inv I (n := N) ?_ ?_
      · rw [hI]
        exact ⟨.refl s, 0, .nils, by omega, (by simp only [bE, Nat.reduceEqDiff, bN, Nat.reduceLT, he]; try rfl), (by simp only [bE, Nat.reduceEqDiff, bN, Nat.reduceLT, he, e0]; try rfl), (by simp only [bE, Nat.reduceEqDiff, bN, Nat.reduceLT, he, e1]; try rfl), (by simp only [bE, Nat.reduceEqDiff, bN, Nat.reduceLT, he, e2]; try rfl), (by simp only [bE, Nat.reduceEqDiff, bN, Nat.reduceLT, he, e7]; try rfl), (by simp only [bE, Nat.reduceEqDiff, bN, Nat.reduceLT, he]; try rfl), .nil _ _ _⟩
      clear he e0 e1 e2 e7 h0 h1 h2 hlen ha
      intro n e t hi
      rw [hI] at hi
      obtain ⟨hK, i, lv, hni, he, e0, e1, e2, e7, e8, hO⟩ := hi
      by_cases hlt : i < N
      · have y1 := eq_true (show (i : Int) < (N : Int) by omega)
        have hw2 := wrap_add1 (n := i) (by omega)
        have hwk : IntKind.i64.wrap (2 + (i : Int)) = 2 + (i : Int) := by
          rw [show 2 + (i : Int) = ((2 + i : Nat) : Int) by omega]
          exact wrapI (by omega) (by omega)
        have hnl := nl_len i
        obtain ⟨lv', t', hap, hK', hO'⟩ := appV_one (C := inC) hK hO (2 + (i : Int)) 8 (by unfold roomBytes; omega)
        have hap : appV (t.push (.row [.int .i64 (2 + (i : Int))] true)) 1 8 lv (.sl t.next 0 1 (some 1) 1) = some (lv', t') := hap
        have hbs : bslV [.int .i64 0] 1 1 [(0, .int .i64 (2 + (i : Int)))] = some (fun id => .sl id 0 1 (some 1) 1, .row [.int .i64 (2 + (i : Int))] true) := rfl
        have ff1 : ∀ K : List AV → Option (List AV), fstep [.int .i64 0] 0 1 (.int .i64 (2 + (i : Int))) K = K [.int .i64 (2 + (i : Int))] := fun K => rfl
        simp (config := {contextual := true, maxDischargeDepth := 12, maxSteps := 4000000}) only [tb_at, he, e0, e1, e2, e7, e8, y1, hw2, hwk, aa_bsl1, hbs, ff1, hap, notV_bool, Bool.not_true, Bool.not_false, pickV_t, pickV_f, bin_eql, bin_neq, bin_neb, bin_npn, bin_np, bin_npnx, gcall_tt, gpure_tf, beq_self_eq_true, Bool.true_and, Bool.and_true, decide_true, decide_false, gcall_ff, bin_neN, lstep_some, floor_store, ↓st_loadnf, reserve0, ↓bD, bU, forall_const, bS, implies_true, isNx, eq_self, ↓wp_cond, ↓wp_loop, ↓reduceIte, reduceCtorEq, Nat.reduceEqDiff, Nat.reduceLT, Nat.reduceAdd, Nat.reduceMul, bT, ↓sg_bsl, ↓st_callf, bX, ap_mkfn, ap_conv, ↓wi_seq, ↓wi_base, ↓wi_block, ↓wi_cond, ↓wi_loop, ↓wi_rf, ↓wy_seq, ↓wy_base, ↓wy_block, ↓wy_cond, ↓wy_loop, ↓wy_yld, bin_shr1, ae_callvV, callvV_fn, List.append_nil, List.cons_append, List.nil_append, fs40, fs41, mmV_max2, ↓sg_callf3, q_known]
        refine ⟨n - 1, by omega, ?_⟩
        rw [hI]
        exact ⟨hK', i + 1, lv', by omega, (by simp only [bE, Nat.reduceEqDiff, bN, Nat.reduceLT, he, e0, e1, e2, e7, e8]; try rfl), (by simp only [bE, Nat.reduceEqDiff, bN, Nat.reduceLT, he, e0, e1, e2, e7, e8]; try rfl), (by simp only [bE, Nat.reduceEqDiff, bN, Nat.reduceLT, he, e0, e1, e2, e7, e8]; try rfl), (by simp only [bE, Nat.reduceEqDiff, bN, Nat.reduceLT, he, e0, e1, e2, e7, e8]; try rfl), (by simp only [bE, Nat.reduceEqDiff, bN, Nat.reduceLT, he, e0, e1, e2, e7, e8]; try rfl), (by simp only [bE, Nat.reduceEqDiff, bN, Nat.reduceLT, he, e0, e1, e2, e7, e8]; try rfl), hO'⟩
      obtain rfl : i = N := by omega
      have y1 := eq_false (show ¬ (i : Int) < (i : Int) by omega)
      simp (config := {contextual := true, maxDischargeDepth := 12, maxSteps := 4000000}) only [tb_at, he, e0, e1, e2, e7, e8, y1, notV_bool, Bool.not_true, Bool.not_false, pickV_t, pickV_f, bin_eql, bin_neq, bin_neb, bin_npn, bin_np, bin_npnx, gcall_tt, gpure_tf, beq_self_eq_true, Bool.true_and, Bool.and_true, decide_true, decide_false, gcall_ff, bin_neN, lstep_some, floor_store, ↓st_loadnf, reserve0, ↓bD, bU, forall_const, bS, implies_true, isNx, eq_self, ↓wp_cond, ↓wp_loop, ↓reduceIte, reduceCtorEq, Nat.reduceEqDiff, Nat.reduceLT, Nat.reduceAdd, Nat.reduceMul, bT, ↓sg_bsl, ↓st_callf, bX, ap_mkfn, ap_conv, ↓wi_seq, ↓wi_base, ↓wi_block, ↓wi_cond, ↓wi_loop, ↓wi_rf, ↓wy_seq, ↓wy_base, ↓wy_block, ↓wy_cond, ↓wy_loop, ↓wy_yld, bin_shr1, ae_callvV, callvV_fn, List.append_nil, List.cons_append, List.nil_append, fs40, fs41, mmV_max2, ↓sg_callf3, q_known]
      all_goals first | (refine ⟨rfl, ?_⟩) | skip
      rw [hM3]
      exact ⟨lv, hK, hO, (by simp only [bE, Nat.reduceEqDiff, bN, Nat.reduceLT, he, e0, e1, e2, e7, e8]; try rfl), (by simp only [bE, Nat.reduceEqDiff, bN, Nat.reduceLT, he, e0, e1, e2, e7, e8]; try rfl), (by simp only [bE, Nat.reduceEqDiff, bN, Nat.reduceLT, he, e0, e1, e2, e7, e8]; try rfl), (by simp only [bE, Nat.reduceEqDiff, bN, Nat.reduceLT, he, e0, e1, e2, e7, e8]; try rfl), (by simp only [bE, Nat.reduceEqDiff, bN, Nat.reduceLT, he, e0, e1, e2, e7, e8]; try rfl)⟩
    clear he e0 e1 e2 e7
    intro e tl hm
    rw [hM3] at hm
    obtain ⟨lv, hKl, hOl, he, e0, e1, e2, e7⟩ := hm
    obtain ⟨hokN, hsN⟩ := nl_ok hN
    have hnlN := nl_len N
    obtain ⟨id, j, cap, t1, q1, hA1, a1, a2, hK1⟩ := q_New_ok hOl.read (by omega) hokN
    obtain ⟨ib, jb, capb, t2, q2, hB2, b1, b2, hK2⟩ := q_New_ok ((hOl.mono fun _ _ h => hK1.blk h).read) (by omega) hokN
    obtain ⟨ic, jc, capc, t3, q3, hC3, g1, g2, hK3⟩ := q_New_ok ((hOl.mono fun _ _ h => (hK1.trans hK2).blk h).read) (by omega) hokN
    have hz0 : (sortI (nl N)).map nbI = stL N [] := by rw [hsN]; rfl
    rw [hz0] at hA1 hB2 hC3
    have hK123 := (hK1.trans hK2).trans hK3
    have hKs3 := hKl.trans hK123
    have hAt3 := hA1.keep (hK2.trans hK3)
    have hBt3 := hB2.keep hK3
    have hr1 : (1 : Int) ≠ 0 := by decide
    have hn1 := hKl.next
    have hn2 := hK1.next
    have hn3 := hK2.next
    have u1 := St.get_lt hA1.box
    have u2 := hA1.jlt
    have u3 := St.get_lt hB2.box
    have u4 := hB2.jlt
    have u5 := St.get_lt hC3.box
    have u6 := hC3.jlt
    refine awp_cutM (fun e tq => t1 = tq ∧ elen e = 335 ∧ E e 0 = .int .i64 (N : Int) ∧ E e 1 = vl ∧ E e 2 = vu ∧ E e 7 = lv ∧ E e 9 = .ptr id 0 ∧ E e 10 = .int .i64 0) ?_ ?_
    · simp (config := {contextual := true, maxDischargeDepth := 12}) only [tb_at, he, e0, e1, e2, e7, q1, notV_bool, Bool.not_true, Bool.not_false, pickV_t, pickV_f, bin_eql, bin_neq, bin_neb, bin_npn, bin_np, bin_npnx, gcall_tt, gpure_tf, beq_self_eq_true, Bool.true_and, Bool.and_true, decide_true, decide_false, gcall_ff, bin_neN, lstep_some, floor_store, ↓st_loadnf, reserve0, ↓bD, bU, forall_const, bS, implies_true, isNx, eq_self, ↓wp_cond, ↓wp_loop, ↓reduceIte, reduceCtorEq, Nat.reduceEqDiff, Nat.reduceLT, Nat.reduceAdd, Nat.reduceMul, bT, ↓sg_bsl, ↓st_callf, bX, ap_mkfn, ap_conv, ↓wi_seq, ↓wi_base, ↓wi_block, ↓wi_cond, ↓wi_loop, ↓wi_rf, ↓wy_seq, ↓wy_base, ↓wy_block, ↓wy_cond, ↓wy_loop, ↓wy_yld, bin_shr1, ae_callvV, callvV_fn, List.append_nil, List.cons_append, List.nil_append, fs40, fs41, mmV_max2, ↓sg_callf3, q_known]
    clear he e0 e1 e2 e7
    rintro e _ ⟨rfl, he, e0, e1, e2, e7, e9, e10⟩
    refine awp_cutM (fun e tq => t2 = tq ∧ elen e = 335 ∧ E e 0 = .int .i64 (N : Int) ∧ E e 1 = vl ∧ E e 2 = vu ∧ E e 7 = lv ∧ E e 9 = .ptr id 0 ∧ E e 10 = .int .i64 0 ∧ E e 11 = .ptr ib 0 ∧ E e 12 = .int .i64 0) ?_ ?_
    · simp (config := {contextual := true, maxDischargeDepth := 12}) only [tb_at, he, e0, e1, e2, e7, e9, e10, q2, notV_bool, Bool.not_true, Bool.not_false, pickV_t, pickV_f, bin_eql, bin_neq, bin_neb, bin_npn, bin_np, bin_npnx, gcall_tt, gpure_tf, beq_self_eq_true, Bool.true_and, Bool.and_true, decide_true, decide_false, gcall_ff, bin_neN, lstep_some, floor_store, ↓st_loadnf, reserve0, ↓bD, bU, forall_const, bS, implies_true, isNx, eq_self, ↓wp_cond, ↓wp_loop, ↓reduceIte, reduceCtorEq, Nat.reduceEqDiff, Nat.reduceLT, Nat.reduceAdd, Nat.reduceMul, bT, ↓sg_bsl, ↓st_callf, bX, ap_mkfn, ap_conv, ↓wi_seq, ↓wi_base, ↓wi_block, ↓wi_cond, ↓wi_loop, ↓wi_rf, ↓wy_seq, ↓wy_base, ↓wy_block, ↓wy_cond, ↓wy_loop, ↓wy_yld, bin_shr1, ae_callvV, callvV_fn, List.append_nil, List.cons_append, List.nil_append, fs40, fs41, mmV_max2, ↓sg_callf3, q_known]
    clear he e0 e1 e2 e7 e9 e10
    rintro e _ ⟨rfl, he, e0, e1, e2, e7, e9, e10, e11, e12⟩
    refine awp_cutM (fun e tq => t3 = tq ∧ elen e = 335 ∧ E e 0 = .int .i64 (N : Int) ∧ E e 1 = vl ∧ E e 2 = vu ∧ E e 9 = .ptr id 0 ∧ E e 10 = .int .i64 0 ∧ E e 11 = .ptr ib 0 ∧ E e 12 = .int .i64 0 ∧ E e 13 = .ptr ic 0 ∧ E e 14 = .int .i64 0) ?_ ?_
    · simp (config := {contextual := true, maxDischargeDepth := 12}) only [tb_at, he, e0, e1, e2, e7, e9, e10, e11, e12, q3, notV_bool, Bool.not_true, Bool.not_false, pickV_t, pickV_f, bin_eql, bin_neq, bin_neb, bin_npn, bin_np, bin_npnx, gcall_tt, gpure_tf, beq_self_eq_true, Bool.true_and, Bool.and_true, decide_true, decide_false, gcall_ff, bin_neN, lstep_some, floor_store, ↓st_loadnf, reserve0, ↓bD, bU, forall_const, bS, implies_true, isNx, eq_self, ↓wp_cond, ↓wp_loop, ↓reduceIte, reduceCtorEq, Nat.reduceEqDiff, Nat.reduceLT, Nat.reduceAdd, Nat.reduceMul, bT, ↓sg_bsl, ↓st_callf, bX, ap_mkfn, ap_conv, ↓wi_seq, ↓wi_base, ↓wi_block, ↓wi_cond, ↓wi_loop, ↓wi_rf, ↓wy_seq, ↓wy_base, ↓wy_block, ↓wy_cond, ↓wy_loop, ↓wy_yld, bin_shr1, ae_callvV, callvV_fn, List.append_nil, List.cons_append, List.nil_append, fs40, fs41, mmV_max2, ↓sg_callf3, q_known]
    clear he e0 e1 e2 e7 e9 e10 e11 e12
    rintro e _ ⟨rfl, he, e0, e1, e2, e9, e10, e11, e12, e13, e14⟩
    refine awp_cutM (fun e tq => t3 = tq ∧ elen e = 335 ∧ E e 0 = .int .i64 (N : Int) ∧ E e 1 = vl ∧ E e 2 = vu ∧ E e 9 = .ptr id 0 ∧ E e 11 = .ptr ib 0 ∧ E e 13 = .ptr ic 0) ?_ ?_
    · simp (config := {contextual := true, maxDischargeDepth := 12}) only [tb_at, he, e0, e1, e2, e9, e10, e11, e12, e13, e14, bin_npx, n00, notV_bool, Bool.not_true, Bool.not_false, pickV_t, pickV_f, bin_eql, bin_neq, bin_neb, bin_npn, bin_np, bin_npnx, gcall_tt, gpure_tf, beq_self_eq_true, Bool.true_and, Bool.and_true, decide_true, decide_false, gcall_ff, bin_neN, lstep_some, floor_store, ↓st_loadnf, reserve0, ↓bD, bU, forall_const, bS, implies_true, isNx, eq_self, ↓wp_cond, ↓wp_loop, ↓reduceIte, reduceCtorEq, Nat.reduceEqDiff, Nat.reduceLT, Nat.reduceAdd, Nat.reduceMul, bT, ↓sg_bsl, ↓st_callf, bX, ap_mkfn, ap_conv, ↓wi_seq, ↓wi_base, ↓wi_block, ↓wi_cond, ↓wi_loop, ↓wi_rf, ↓wy_seq, ↓wy_base, ↓wy_block, ↓wy_cond, ↓wy_loop, ↓wy_yld, bin_shr1, ae_callvV, callvV_fn, List.append_nil, List.cons_append, List.nil_append, fs40, fs41, mmV_max2, ↓sg_callf3, q_known]
    clear he e0 e1 e2 e9 e10 e11 e12 e13 e14
    rintro e _ ⟨rfl, he, e0, e1, e2, e9, e11, e13⟩
    obtain ⟨M8, hM8⟩ : ∃ M8 : Env → St → Prop, ∀ e u, M8 e u = (Chg [j] t3 u ∧ elen e = 335 ∧ E e 0 = .int .i64 (N : Int) ∧ E e 1 = vl ∧ E e 2 = vu ∧ E e 9 = .ptr id 0 ∧ E e 11 = .ptr ib 0 ∧ E e 13 = .ptr ic 0) := ⟨_, fun _ _ => rfl⟩
    refine awp_cutM M8 ?_ ?_
    · skip
      simp (config := {contextual := true, maxDischargeDepth := 12, maxSteps := 4000000}) only [tb_at, he, e0, e1, e2, e9, e11, e13, notV_bool, Bool.not_true, Bool.not_false, pickV_t, pickV_f, bin_eql, bin_neq, bin_neb, bin_npn, bin_np, bin_npnx, gcall_tt, gpure_tf, beq_self_eq_true, Bool.true_and, Bool.and_true, decide_true, decide_false, gcall_ff, bin_neN, lstep_some, floor_store, ↓st_loadnf, reserve0, ↓bD, bU, forall_const, bS, implies_true, isNx, eq_self, ↓wp_cond, ↓wp_loop, ↓reduceIte, reduceCtorEq, Nat.reduceEqDiff, Nat.reduceLT, Nat.reduceAdd, Nat.reduceMul, bT, ↓sg_bsl, ↓st_callf, bX, ap_mkfn, ap_conv, ↓wi_seq, ↓wi_base, ↓wi_block, ↓wi_cond, ↓wi_loop, ↓wi_rf, ↓wy_seq, ↓wy_base, ↓wy_block, ↓wy_cond, ↓wy_loop, ↓wy_yld, bin_shr1, ae_callvV, callvV_fn, List.append_nil, List.cons_append, List.nil_append, fs40, fs41, mmV_max2, ↓sg_callf3, q_known]
      obtain ⟨I, hI⟩ : ∃ I : Nat → Env → St → Prop, ∀ n e t, I n e t = (Chg [j] t3 t ∧ ∃ (i : Nat) (L : List Nb), n + i = M.length ∧ elen e = 335 ∧ E e 0 = .int .i64 (N : Int) ∧ E e 1 = vl ∧ E e 2 = vu ∧ E e 9 = .ptr id 0 ∧ E e 11 = .ptr ib 0 ∧ E e 13 = .ptr ic 0 ∧ E e 15 = .int .i64 (i : Int) ∧ AkR t id j cap 1 L ∧ SrtB L ∧ BB L ∧ L.length = N) := ⟨fun n e t => (Chg [j] t3 t ∧ ∃ (i : Nat) (L : List Nb), n + i = M.length ∧ elen e = 335 ∧ E e 0 = .int .i64 (N : Int) ∧ E e 1 = vl ∧ E e 2 = vu ∧ E e 9 = .ptr id 0 ∧ E e 11 = .ptr ib 0 ∧ E e 13 = .ptr ic 0 ∧ E e 15 = .int .i64 (i : Int) ∧ AkR t id j cap 1 L ∧ SrtB L ∧ BB L ∧ L.length = N), fun _ _ _ => rfl⟩
      refine lwp_inv I (n := M.length) ?_ ?_
      · rw [hI]
        exact ⟨Chg.refl _ _, 0, _, by omega, (by simp only [bE, Nat.reduceEqDiff, bN, Nat.reduceLT, he]; try rfl), (by simp only [bE, Nat.reduceEqDiff, bN, Nat.reduceLT, he, e0]; try rfl), (by simp only [bE, Nat.reduceEqDiff, bN, Nat.reduceLT, he, e1]; try rfl), (by simp only [bE, Nat.reduceEqDiff, bN, Nat.reduceLT, he, e2]; try rfl), (by simp only [bE, Nat.reduceEqDiff, bN, Nat.reduceLT, he, e9]; try rfl), (by simp only [bE, Nat.reduceEqDiff, bN, Nat.reduceLT, he, e11]; try rfl), (by simp only [bE, Nat.reduceEqDiff, bN, Nat.reduceLT, he, e13]; try rfl), (by simp only [bE, Nat.reduceEqDiff, bN, Nat.reduceLT, he]; try rfl), hAt3, stL_srt hN _, (fun x hx => by obtain ⟨r, _, rfl⟩ := List.mem_map.1 hx; exact ⟨Int.le_refl _, by show (0 : Int) ≤ 1099511627776; omega⟩), stL_len N _⟩
      clear he e0 e1 e2 e9 e11 e13
      intro n e t hi
      rw [hI] at hi
      obtain ⟨hK, i, L, hni, he, e0, e1, e2, e9, e11, e13, e15, hA, hSL, hBL, hLN⟩ := hi
      have hKt : Keep s t := hKs3.chgn hK (by simp; omega)
      have htn := hK.next
      by_cases hlt : i < M.length
      rotate_left
      · have y1 := eq_false (show ¬ (i : Int) < (M.length : Int) by omega)
        simp (config := {contextual := true, maxDischargeDepth := 12, maxSteps := 4000000}) only [tb_at, he, e0, e1, e2, e9, e11, e13, e15, hM, y1, notV_bool, Bool.not_true, Bool.not_false, pickV_t, pickV_f, bin_eql, bin_neq, bin_neb, bin_npn, bin_np, bin_npnx, gcall_tt, gpure_tf, beq_self_eq_true, Bool.true_and, Bool.and_true, decide_true, decide_false, gcall_ff, bin_neN, lstep_some, floor_store, ↓st_loadnf, reserve0, ↓bD, bU, forall_const, bS, implies_true, isNx, eq_self, ↓wp_cond, ↓wp_loop, ↓reduceIte, reduceCtorEq, Nat.reduceEqDiff, Nat.reduceLT, Nat.reduceAdd, Nat.reduceMul, bT, ↓sg_bsl, ↓st_callf, bX, ap_mkfn, ap_conv, ↓wi_seq, ↓wi_base, ↓wi_block, ↓wi_cond, ↓wi_loop, ↓wi_rf, ↓wy_seq, ↓wy_base, ↓wy_block, ↓wy_cond, ↓wy_loop, ↓wy_yld, bin_shr1, ae_callvV, callvV_fn, List.append_nil, List.cons_append, List.nil_append, fs40, fs41, mmV_max2, ↓sg_callf3, q_known]
        all_goals first | (refine ⟨rfl, ?_⟩) | skip
        rw [hM8]
        exact ⟨hK, (by simp only [bE, Nat.reduceEqDiff, bN, Nat.reduceLT, he, e0, e1, e2, e9, e11, e13, e15]; try rfl), (by simp only [bE, Nat.reduceEqDiff, bN, Nat.reduceLT, he, e0, e1, e2, e9, e11, e13, e15]; try rfl), (by simp only [bE, Nat.reduceEqDiff, bN, Nat.reduceLT, he, e0, e1, e2, e9, e11, e13, e15]; try rfl), (by simp only [bE, Nat.reduceEqDiff, bN, Nat.reduceLT, he, e0, e1, e2, e9, e11, e13, e15]; try rfl), (by simp only [bE, Nat.reduceEqDiff, bN, Nat.reduceLT, he, e0, e1, e2, e9, e11, e13, e15]; try rfl), (by simp only [bE, Nat.reduceEqDiff, bN, Nat.reduceLT, he, e0, e1, e2, e9, e11, e13, e15]; try rfl), (by simp only [bE, Nat.reduceEqDiff, bN, Nat.reduceLT, he, e0, e1, e2, e9, e11, e13, e15]; try rfl)⟩
      have y1 := eq_true (show (i : Int) < (M.length : Int) by omega)
      have hw2 := wrap_add1 (n := i) (by omega)
      obtain ⟨ac, hac⟩ := getsome hlt
      refine awp_cutM (fun e tq => t = tq ∧ elen e = 335 ∧ E e 0 = .int .i64 (N : Int) ∧ E e 1 = vl ∧ E e 2 = vu ∧ E e 9 = .ptr id 0 ∧ E e 11 = .ptr ib 0 ∧ E e 13 = .ptr ic 0 ∧ E e 15 = .int .i64 (i : Int)) ?_ ?_
      · simp (config := {contextual := true, maxDischargeDepth := 12}) only [tb_at, he, e0, e1, e2, e9, e11, e13, e15, hM, y1, notV_bool, Bool.not_true, Bool.not_false, pickV_t, pickV_f, bin_eql, bin_neq, bin_neb, bin_npn, bin_np, bin_npnx, gcall_tt, gpure_tf, beq_self_eq_true, Bool.true_and, Bool.and_true, decide_true, decide_false, gcall_ff, bin_neN, lstep_some, floor_store, ↓st_loadnf, reserve0, ↓bD, bU, forall_const, bS, implies_true, isNx, eq_self, ↓wp_cond, ↓wp_loop, ↓reduceIte, reduceCtorEq, Nat.reduceEqDiff, Nat.reduceLT, Nat.reduceAdd, Nat.reduceMul, bT, ↓sg_bsl, ↓st_callf, bX, ap_mkfn, ap_conv, ↓wi_seq, ↓wi_base, ↓wi_block, ↓wi_cond, ↓wi_loop, ↓wi_rf, ↓wy_seq, ↓wy_base, ↓wy_block, ↓wy_cond, ↓wy_loop, ↓wy_yld, bin_shr1, ae_callvV, callvV_fn, List.append_nil, List.cons_append, List.nil_append, fs40, fs41, mmV_max2, ↓sg_callf3, q_known]
      clear he e0 e1 e2 e9 e11 e13 e15
      rintro e _ ⟨rfl, he, e0, e1, e2, e9, e11, e13, e15⟩
      obtain ⟨MB, hMB⟩ : ∃ MB : Env → St → Prop, ∀ e u, MB e u = (∃ L1, Chg [j] t3 u ∧ AkR u id j cap 1 L1 ∧ SrtB L1 ∧ BB L1 ∧ L1.length = N ∧ elen e = 335 ∧ E e 0 = .int .i64 (N : Int) ∧ E e 1 = vl ∧ E e 2 = vu ∧ E e 9 = .ptr id 0 ∧ E e 11 = .ptr ib 0 ∧ E e 13 = .ptr ic 0 ∧ E e 15 = .int .i64 (i : Int)) := ⟨_, fun _ _ => rfl⟩
      refine awp_cutM MB ?_ ?_
      rotate_left
      · clear he e0 e1 e2 e9 e11 e13 e15
        intro e u hm
        rw [hMB] at hm
        obtain ⟨L1, hKn, hAn, hSn, hBn, hLn, he, e0, e1, e2, e9, e11, e13, e15⟩ := hm
        simp (config := {contextual := true, maxDischargeDepth := 12, maxSteps := 4000000}) only [tb_at, he, e0, e1, e2, e9, e11, e13, e15, hw2, notV_bool, Bool.not_true, Bool.not_false, pickV_t, pickV_f, bin_eql, bin_neq, bin_neb, bin_npn, bin_np, bin_npnx, gcall_tt, gpure_tf, beq_self_eq_true, Bool.true_and, Bool.and_true, decide_true, decide_false, gcall_ff, bin_neN, lstep_some, floor_store, ↓st_loadnf, reserve0, ↓bD, bU, forall_const, bS, implies_true, isNx, eq_self, ↓wp_cond, ↓wp_loop, ↓reduceIte, reduceCtorEq, Nat.reduceEqDiff, Nat.reduceLT, Nat.reduceAdd, Nat.reduceMul, bT, ↓sg_bsl, ↓st_callf, bX, ap_mkfn, ap_conv, ↓wi_seq, ↓wi_base, ↓wi_block, ↓wi_cond, ↓wi_loop, ↓wi_rf, ↓wy_seq, ↓wy_base, ↓wy_block, ↓wy_cond, ↓wy_loop, ↓wy_yld, bin_shr1, ae_callvV, callvV_fn, List.append_nil, List.cons_append, List.nil_append, fs40, fs41, mmV_max2, ↓sg_callf3, q_known]
        refine ⟨n - 1, by omega, ?_⟩
        rw [hI]
        exact ⟨hKn, i + 1, L1, by omega, (by simp only [bE, Nat.reduceEqDiff, bN, Nat.reduceLT, he, e0, e1, e2, e9, e11, e13, e15]; try rfl), (by simp only [bE, Nat.reduceEqDiff, bN, Nat.reduceLT, he, e0, e1, e2, e9, e11, e13, e15]; try rfl), (by simp only [bE, Nat.reduceEqDiff, bN, Nat.reduceLT, he, e0, e1, e2, e9, e11, e13, e15]; try rfl), (by simp only [bE, Nat.reduceEqDiff, bN, Nat.reduceLT, he, e0, e1, e2, e9, e11, e13, e15]; try rfl), (by simp only [bE, Nat.reduceEqDiff, bN, Nat.reduceLT, he, e0, e1, e2, e9, e11, e13, e15]; try rfl), (by simp only [bE, Nat.reduceEqDiff, bN, Nat.reduceLT, he, e0, e1, e2, e9, e11, e13, e15]; try rfl), (by simp only [bE, Nat.reduceEqDiff, bN, Nat.reduceLT, he, e0, e1, e2, e9, e11, e13, e15]; try rfl), (by simp only [bE, Nat.reduceEqDiff, bN, Nat.reduceLT, he, e0, e1, e2, e9, e11, e13, e15]; try rfl), hAn, hSn, hBn, hLn⟩
      refine awp_blockM ?_
      obtain ⟨vb, tb1, qb1, hNb, hKb1⟩ := q_All hA hr1
      refine awp_cutM (fun e tq => tb1 = tq ∧ elen e = 335 ∧ E e 0 = .int .i64 (N : Int) ∧ E e 1 = vl ∧ E e 2 = vu ∧ E e 9 = .ptr id 0 ∧ E e 11 = .ptr ib 0 ∧ E e 13 = .ptr ic 0 ∧ E e 15 = .int .i64 (i : Int) ∧ E e 16 = vb) ?_ ?_
      · simp (config := {contextual := true, maxDischargeDepth := 12}) only [tb_at, he, e0, e1, e2, e9, e11, e13, e15, qb1, notV_bool, Bool.not_true, Bool.not_false, pickV_t, pickV_f, bin_eql, bin_neq, bin_neb, bin_npn, bin_np, bin_npnx, gcall_tt, gpure_tf, beq_self_eq_true, Bool.true_and, Bool.and_true, decide_true, decide_false, gcall_ff, bin_neN, lstep_some, floor_store, ↓st_loadnf, reserve0, ↓bD, bU, forall_const, bS, implies_true, isNx, eq_self, ↓wp_cond, ↓wp_loop, ↓reduceIte, reduceCtorEq, Nat.reduceEqDiff, Nat.reduceLT, Nat.reduceAdd, Nat.reduceMul, bT, ↓sg_bsl, ↓st_callf, bX, ap_mkfn, ap_conv, ↓wi_seq, ↓wi_base, ↓wi_block, ↓wi_cond, ↓wi_loop, ↓wi_rf, ↓wy_seq, ↓wy_base, ↓wy_block, ↓wy_cond, ↓wy_loop, ↓wy_yld, bin_shr1, ae_callvV, callvV_fn, List.append_nil, List.cons_append, List.nil_append, fs40, fs41, mmV_max2, ↓sg_callf3, q_known]
      clear he e0 e1 e2 e9 e11 e13 e15
      rintro e _ ⟨rfl, he, e0, e1, e2, e9, e11, e13, e15, e16⟩
      have hKs1 := hKt.trans hKb1
      obtain ⟨i1, i2, _, _, _, _, i3⟩ := nb_lods (hKs1.read hV) hac
      have hs4 : sto (tb1.push (.row [.int .i64 0, .int .i64 0, .int .i64 0, .int .i64 0] true)) 4 (.ptr tb1.next 0) (.agg (Nb.av ac)) = some (.und, tb1.lowed.push (.row (Nb.av ac) true)) := sto_z4 (show sameN tb1.next tb1 from rfl) _ _ _ _ _ rfl
      obtain ⟨tb, htb⟩ : ∃ tb, tb = tb1.lowed.push (.row (Nb.av ac) true) := ⟨_, rfl⟩
      rw [← htb] at hs4
      have hKb : Keep tb1 tb := by rw [htb]; exact (Keep.refl tb1).lowed.push _
      have hgb : tb.get tb1.next = some (.row (Nb.av ac) true) := by rw [htb]; exact St.get_push_new tb1.lowed _
      obtain ⟨bx, hbx⟩ : ∃ bx, bx = tb1.next := ⟨_, rfl⟩
      rw [← hbx] at hgb hs4
      have htb1n := hKb1.next
      have htbn := hKb.next
      have hbj : bx ∉ [j] := by simp; omega
      have hAb := (hA.keep hKb1).keep hKb
      refine awp_cutM (fun e tq => tb = tq ∧ elen e = 335 ∧ E e 0 = .int .i64 (N : Int) ∧ E e 1 = vl ∧ E e 2 = vu ∧ E e 9 = .ptr id 0 ∧ E e 11 = .ptr ib 0 ∧ E e 13 = .ptr ic 0 ∧ E e 15 = .int .i64 (i : Int) ∧ E e 16 = vb ∧ E e 17 = .ptr bx 0) ?_ ?_
      · simp (config := {contextual := true, maxDischargeDepth := 12}) only [tb_at, he, e0, e1, e2, e9, e11, e13, e15, e16, i1, i2, i3, ← hbx, hs4, notV_bool, Bool.not_true, Bool.not_false, pickV_t, pickV_f, bin_eql, bin_neq, bin_neb, bin_npn, bin_np, bin_npnx, gcall_tt, gpure_tf, beq_self_eq_true, Bool.true_and, Bool.and_true, decide_true, decide_false, gcall_ff, bin_neN, lstep_some, floor_store, ↓st_loadnf, reserve0, ↓bD, bU, forall_const, bS, implies_true, isNx, eq_self, ↓wp_cond, ↓wp_loop, ↓reduceIte, reduceCtorEq, Nat.reduceEqDiff, Nat.reduceLT, Nat.reduceAdd, Nat.reduceMul, bT, ↓sg_bsl, ↓st_callf, bX, ap_mkfn, ap_conv, ↓wi_seq, ↓wi_base, ↓wi_block, ↓wi_cond, ↓wi_loop, ↓wi_rf, ↓wy_seq, ↓wy_base, ↓wy_block, ↓wy_cond, ↓wy_loop, ↓wy_yld, bin_shr1, ae_callvV, callvV_fn, List.append_nil, List.cons_append, List.nil_append, fs40, fs41, mmV_max2, ↓sg_callf3, q_known]
      clear he e0 e1 e2 e9 e11 e13 e15 e16
      rintro e _ ⟨rfl, he, e0, e1, e2, e9, e11, e13, e15, e16, e17⟩
      refine awp_cutM (fun e tq => tb = tq ∧ elen e = 335 ∧ E e 0 = .int .i64 (N : Int) ∧ E e 1 = vl ∧ E e 2 = vu ∧ E e 9 = .ptr id 0 ∧ E e 11 = .ptr ib 0 ∧ E e 13 = .ptr ic 0 ∧ E e 15 = .int .i64 (i : Int) ∧ E e 16 = vb ∧ E e 17 = .ptr bx 0 ∧ E e 18 = .int .i64 0) ?_ ?_
      · simp (config := {contextual := true, maxDischargeDepth := 12}) only [tb_at, he, e0, e1, e2, e9, e11, e13, e15, e16, e17, y1, notV_bool, Bool.not_true, Bool.not_false, pickV_t, pickV_f, bin_eql, bin_neq, bin_neb, bin_npn, bin_np, bin_npnx, gcall_tt, gpure_tf, beq_self_eq_true, Bool.true_and, Bool.and_true, decide_true, decide_false, gcall_ff, bin_neN, lstep_some, floor_store, ↓st_loadnf, reserve0, ↓bD, bU, forall_const, bS, implies_true, isNx, eq_self, ↓wp_cond, ↓wp_loop, ↓reduceIte, reduceCtorEq, Nat.reduceEqDiff, Nat.reduceLT, Nat.reduceAdd, Nat.reduceMul, bT, ↓sg_bsl, ↓st_callf, bX, ap_mkfn, ap_conv, ↓wi_seq, ↓wi_base, ↓wi_block, ↓wi_cond, ↓wi_loop, ↓wi_rf, ↓wy_seq, ↓wy_base, ↓wy_block, ↓wy_cond, ↓wy_loop, ↓wy_yld, bin_shr1, ae_callvV, callvV_fn, List.append_nil, List.cons_append, List.nil_append, fs40, fs41, mmV_max2, ↓sg_callf3, q_known]
      clear he e0 e1 e2 e9 e11 e13 e15 e16 e17
      rintro e _ ⟨rfl, he, e0, e1, e2, e9, e11, e13, e15, e16, e17, e18⟩
      obtain ⟨lb0, lb1, lb2, lb3, lblt⟩ := row4_at hgb
      obtain ⟨M4, hM4⟩ : ∃ M4 : Env → St → Prop, ∀ e u, M4 e u = (∃ (L1 : List Nb) (c : Int), OpR ac L c L1 ∧ Chg [j] tb u ∧ AkR u id j cap 1 L1 ∧ elen e = 335 ∧ E e 0 = .int .i64 (N : Int) ∧ E e 1 = vl ∧ E e 2 = vu ∧ E e 9 = .ptr id 0 ∧ E e 11 = .ptr ib 0 ∧ E e 13 = .ptr ic 0 ∧ E e 15 = .int .i64 (i : Int) ∧ E e 16 = vb ∧ E e 17 = .ptr bx 0 ∧ E e 18 = .int .i64 c) := ⟨_, fun _ _ => rfl⟩
      refine awp_cutM M4 ?_ ?_
      · skip
        by_cases w0 : ac.r = 0
        · have y_0 := eq_true w0
          obtain ⟨tA, qa, hAA, hCA⟩ := q_Meet hAb hr1 hSL ac.e ac.a
          simp (config := {contextual := true, maxDischargeDepth := 12, maxSteps := 4000000}) only [tb_at, he, e0, e1, e2, e9, e11, e13, e15, e16, e17, e18, lb0, lb1, lb2, lb3, lblt, qa, y_0, notV_bool, Bool.not_true, Bool.not_false, pickV_t, pickV_f, bin_eql, bin_neq, bin_neb, bin_npn, bin_np, bin_npnx, gcall_tt, gpure_tf, beq_self_eq_true, Bool.true_and, Bool.and_true, decide_true, decide_false, gcall_ff, bin_neN, lstep_some, floor_store, ↓st_loadnf, reserve0, ↓bD, bU, forall_const, bS, implies_true, isNx, eq_self, ↓wp_cond, ↓wp_loop, ↓reduceIte, reduceCtorEq, Nat.reduceEqDiff, Nat.reduceLT, Nat.reduceAdd, Nat.reduceMul, bT, ↓sg_bsl, ↓st_callf, bX, ap_mkfn, ap_conv, ↓wi_seq, ↓wi_base, ↓wi_block, ↓wi_cond, ↓wi_loop, ↓wi_rf, ↓wy_seq, ↓wy_base, ↓wy_block, ↓wy_cond, ↓wy_loop, ↓wy_yld, bin_shr1, ae_callvV, callvV_fn, List.append_nil, List.cons_append, List.nil_append, fs40, fs41, mmV_max2, ↓sg_callf3, q_known]
          all_goals first | (refine ⟨rfl, ?_⟩) | skip
          rw [hM4]
          exact ⟨_, _, OpR.op hSL hBL (meet_r _ _) (meet_rel w0), hCA, hAA, (by simp only [bE, Nat.reduceEqDiff, bN, Nat.reduceLT, he, e0, e1, e2, e9, e11, e13, e15, e16, e17, e18]; try rfl), (by simp only [bE, Nat.reduceEqDiff, bN, Nat.reduceLT, he, e0, e1, e2, e9, e11, e13, e15, e16, e17, e18]; try rfl), (by simp only [bE, Nat.reduceEqDiff, bN, Nat.reduceLT, he, e0, e1, e2, e9, e11, e13, e15, e16, e17, e18]; try rfl), (by simp only [bE, Nat.reduceEqDiff, bN, Nat.reduceLT, he, e0, e1, e2, e9, e11, e13, e15, e16, e17, e18]; try rfl), (by simp only [bE, Nat.reduceEqDiff, bN, Nat.reduceLT, he, e0, e1, e2, e9, e11, e13, e15, e16, e17, e18]; try rfl), (by simp only [bE, Nat.reduceEqDiff, bN, Nat.reduceLT, he, e0, e1, e2, e9, e11, e13, e15, e16, e17, e18]; try rfl), (by simp only [bE, Nat.reduceEqDiff, bN, Nat.reduceLT, he, e0, e1, e2, e9, e11, e13, e15, e16, e17, e18]; try rfl), (by simp only [bE, Nat.reduceEqDiff, bN, Nat.reduceLT, he, e0, e1, e2, e9, e11, e13, e15, e16, e17, e18]; try rfl), (by simp only [bE, Nat.reduceEqDiff, bN, Nat.reduceLT, he, e0, e1, e2, e9, e11, e13, e15, e16, e17, e18]; try rfl), (by simp only [bE, Nat.reduceEqDiff, bN, Nat.reduceLT, he, e0, e1, e2, e9, e11, e13, e15, e16, e17, e18]; try rfl), (by simp only [bE, Nat.reduceEqDiff, bN, Nat.reduceLT, he, e0, e1, e2, e9, e11, e13, e15, e16, e17, e18]; try rfl)⟩
        have y_0 := eq_false w0
        by_cases w1 : ac.r = 1
        · have y_1 := eq_true w1
          obtain ⟨tA, qa, hAA, hCA⟩ := q_Ack hAb hr1 hSL ac.e ac.a ac.g
          simp (config := {contextual := true, maxDischargeDepth := 12, maxSteps := 4000000}) only [tb_at, he, e0, e1, e2, e9, e11, e13, e15, e16, e17, e18, lb0, lb1, lb2, lb3, lblt, qa, y_0, y_1, notV_bool, Bool.not_true, Bool.not_false, pickV_t, pickV_f, bin_eql, bin_neq, bin_neb, bin_npn, bin_np, bin_npnx, gcall_tt, gpure_tf, beq_self_eq_true, Bool.true_and, Bool.and_true, decide_true, decide_false, gcall_ff, bin_neN, lstep_some, floor_store, ↓st_loadnf, reserve0, ↓bD, bU, forall_const, bS, implies_true, isNx, eq_self, ↓wp_cond, ↓wp_loop, ↓reduceIte, reduceCtorEq, Nat.reduceEqDiff, Nat.reduceLT, Nat.reduceAdd, Nat.reduceMul, bT, ↓sg_bsl, ↓st_callf, bX, ap_mkfn, ap_conv, ↓wi_seq, ↓wi_base, ↓wi_block, ↓wi_cond, ↓wi_loop, ↓wi_rf, ↓wy_seq, ↓wy_base, ↓wy_block, ↓wy_cond, ↓wy_loop, ↓wy_yld, bin_shr1, ae_callvV, callvV_fn, List.append_nil, List.cons_append, List.nil_append, fs40, fs41, mmV_max2, ↓sg_callf3, q_known]
          all_goals first | (refine ⟨rfl, ?_⟩) | skip
          rw [hM4]
          exact ⟨_, _, OpR.op hSL hBL (ack_r _ _) (ack_rel w1), hCA, hAA, (by simp only [bE, Nat.reduceEqDiff, bN, Nat.reduceLT, he, e0, e1, e2, e9, e11, e13, e15, e16, e17, e18]; try rfl), (by simp only [bE, Nat.reduceEqDiff, bN, Nat.reduceLT, he, e0, e1, e2, e9, e11, e13, e15, e16, e17, e18]; try rfl), (by simp only [bE, Nat.reduceEqDiff, bN, Nat.reduceLT, he, e0, e1, e2, e9, e11, e13, e15, e16, e17, e18]; try rfl), (by simp only [bE, Nat.reduceEqDiff, bN, Nat.reduceLT, he, e0, e1, e2, e9, e11, e13, e15, e16, e17, e18]; try rfl), (by simp only [bE, Nat.reduceEqDiff, bN, Nat.reduceLT, he, e0, e1, e2, e9, e11, e13, e15, e16, e17, e18]; try rfl), (by simp only [bE, Nat.reduceEqDiff, bN, Nat.reduceLT, he, e0, e1, e2, e9, e11, e13, e15, e16, e17, e18]; try rfl), (by simp only [bE, Nat.reduceEqDiff, bN, Nat.reduceLT, he, e0, e1, e2, e9, e11, e13, e15, e16, e17, e18]; try rfl), (by simp only [bE, Nat.reduceEqDiff, bN, Nat.reduceLT, he, e0, e1, e2, e9, e11, e13, e15, e16, e17, e18]; try rfl), (by simp only [bE, Nat.reduceEqDiff, bN, Nat.reduceLT, he, e0, e1, e2, e9, e11, e13, e15, e16, e17, e18]; try rfl), (by simp only [bE, Nat.reduceEqDiff, bN, Nat.reduceLT, he, e0, e1, e2, e9, e11, e13, e15, e16, e17, e18]; try rfl), (by simp only [bE, Nat.reduceEqDiff, bN, Nat.reduceLT, he, e0, e1, e2, e9, e11, e13, e15, e16, e17, e18]; try rfl)⟩
        have y_1 := eq_false w1
        by_cases w2 : ac.r = 2
        · have y_2 := eq_true w2
          obtain ⟨tA, qa, hAA, hCA⟩ := q_Recv hAb hr1 hSL ac.e ac.a ac.g
          simp (config := {contextual := true, maxDischargeDepth := 12, maxSteps := 4000000}) only [tb_at, he, e0, e1, e2, e9, e11, e13, e15, e16, e17, e18, lb0, lb1, lb2, lb3, lblt, qa, y_0, y_1, y_2, notV_bool, Bool.not_true, Bool.not_false, pickV_t, pickV_f, bin_eql, bin_neq, bin_neb, bin_npn, bin_np, bin_npnx, gcall_tt, gpure_tf, beq_self_eq_true, Bool.true_and, Bool.and_true, decide_true, decide_false, gcall_ff, bin_neN, lstep_some, floor_store, ↓st_loadnf, reserve0, ↓bD, bU, forall_const, bS, implies_true, isNx, eq_self, ↓wp_cond, ↓wp_loop, ↓reduceIte, reduceCtorEq, Nat.reduceEqDiff, Nat.reduceLT, Nat.reduceAdd, Nat.reduceMul, bT, ↓sg_bsl, ↓st_callf, bX, ap_mkfn, ap_conv, ↓wi_seq, ↓wi_base, ↓wi_block, ↓wi_cond, ↓wi_loop, ↓wi_rf, ↓wy_seq, ↓wy_base, ↓wy_block, ↓wy_cond, ↓wy_loop, ↓wy_yld, bin_shr1, ae_callvV, callvV_fn, List.append_nil, List.cons_append, List.nil_append, fs40, fs41, mmV_max2, ↓sg_callf3, q_known]
          all_goals first | (refine ⟨rfl, ?_⟩) | skip
          rw [hM4]
          exact ⟨_, _, OpR.op hSL hBL (recv_r _ _) (recv_rel), hCA, hAA, (by simp only [bE, Nat.reduceEqDiff, bN, Nat.reduceLT, he, e0, e1, e2, e9, e11, e13, e15, e16, e17, e18]; try rfl), (by simp only [bE, Nat.reduceEqDiff, bN, Nat.reduceLT, he, e0, e1, e2, e9, e11, e13, e15, e16, e17, e18]; try rfl), (by simp only [bE, Nat.reduceEqDiff, bN, Nat.reduceLT, he, e0, e1, e2, e9, e11, e13, e15, e16, e17, e18]; try rfl), (by simp only [bE, Nat.reduceEqDiff, bN, Nat.reduceLT, he, e0, e1, e2, e9, e11, e13, e15, e16, e17, e18]; try rfl), (by simp only [bE, Nat.reduceEqDiff, bN, Nat.reduceLT, he, e0, e1, e2, e9, e11, e13, e15, e16, e17, e18]; try rfl), (by simp only [bE, Nat.reduceEqDiff, bN, Nat.reduceLT, he, e0, e1, e2, e9, e11, e13, e15, e16, e17, e18]; try rfl), (by simp only [bE, Nat.reduceEqDiff, bN, Nat.reduceLT, he, e0, e1, e2, e9, e11, e13, e15, e16, e17, e18]; try rfl), (by simp only [bE, Nat.reduceEqDiff, bN, Nat.reduceLT, he, e0, e1, e2, e9, e11, e13, e15, e16, e17, e18]; try rfl), (by simp only [bE, Nat.reduceEqDiff, bN, Nat.reduceLT, he, e0, e1, e2, e9, e11, e13, e15, e16, e17, e18]; try rfl), (by simp only [bE, Nat.reduceEqDiff, bN, Nat.reduceLT, he, e0, e1, e2, e9, e11, e13, e15, e16, e17, e18]; try rfl), (by simp only [bE, Nat.reduceEqDiff, bN, Nat.reduceLT, he, e0, e1, e2, e9, e11, e13, e15, e16, e17, e18]; try rfl)⟩
        have y_2 := eq_false w2
        by_cases w3 : ac.r = 3
        · have y_3 := eq_true w3
          obtain ⟨tA, qa, hAA, hCA⟩ := q_Jump hAb hr1 hSL ac.e ac.a
          simp (config := {contextual := true, maxDischargeDepth := 12, maxSteps := 4000000}) only [tb_at, he, e0, e1, e2, e9, e11, e13, e15, e16, e17, e18, lb0, lb1, lb2, lb3, lblt, qa, y_0, y_1, y_2, y_3, notV_bool, Bool.not_true, Bool.not_false, pickV_t, pickV_f, bin_eql, bin_neq, bin_neb, bin_npn, bin_np, bin_npnx, gcall_tt, gpure_tf, beq_self_eq_true, Bool.true_and, Bool.and_true, decide_true, decide_false, gcall_ff, bin_neN, lstep_some, floor_store, ↓st_loadnf, reserve0, ↓bD, bU, forall_const, bS, implies_true, isNx, eq_self, ↓wp_cond, ↓wp_loop, ↓reduceIte, reduceCtorEq, Nat.reduceEqDiff, Nat.reduceLT, Nat.reduceAdd, Nat.reduceMul, bT, ↓sg_bsl, ↓st_callf, bX, ap_mkfn, ap_conv, ↓wi_seq, ↓wi_base, ↓wi_block, ↓wi_cond, ↓wi_loop, ↓wi_rf, ↓wy_seq, ↓wy_base, ↓wy_block, ↓wy_cond, ↓wy_loop, ↓wy_yld, bin_shr1, ae_callvV, callvV_fn, List.append_nil, List.cons_append, List.nil_append, fs40, fs41, mmV_max2, ↓sg_callf3, q_known]
          all_goals first | (refine ⟨rfl, ?_⟩) | skip
          rw [hM4]
          exact ⟨_, _, OpR.op hSL hBL (jump_r _) (jump_rel w3), hCA, hAA, (by simp only [bE, Nat.reduceEqDiff, bN, Nat.reduceLT, he, e0, e1, e2, e9, e11, e13, e15, e16, e17, e18]; try rfl), (by simp only [bE, Nat.reduceEqDiff, bN, Nat.reduceLT, he, e0, e1, e2, e9, e11, e13, e15, e16, e17, e18]; try rfl), (by simp only [bE, Nat.reduceEqDiff, bN, Nat.reduceLT, he, e0, e1, e2, e9, e11, e13, e15, e16, e17, e18]; try rfl), (by simp only [bE, Nat.reduceEqDiff, bN, Nat.reduceLT, he, e0, e1, e2, e9, e11, e13, e15, e16, e17, e18]; try rfl), (by simp only [bE, Nat.reduceEqDiff, bN, Nat.reduceLT, he, e0, e1, e2, e9, e11, e13, e15, e16, e17, e18]; try rfl), (by simp only [bE, Nat.reduceEqDiff, bN, Nat.reduceLT, he, e0, e1, e2, e9, e11, e13, e15, e16, e17, e18]; try rfl), (by simp only [bE, Nat.reduceEqDiff, bN, Nat.reduceLT, he, e0, e1, e2, e9, e11, e13, e15, e16, e17, e18]; try rfl), (by simp only [bE, Nat.reduceEqDiff, bN, Nat.reduceLT, he, e0, e1, e2, e9, e11, e13, e15, e16, e17, e18]; try rfl), (by simp only [bE, Nat.reduceEqDiff, bN, Nat.reduceLT, he, e0, e1, e2, e9, e11, e13, e15, e16, e17, e18]; try rfl), (by simp only [bE, Nat.reduceEqDiff, bN, Nat.reduceLT, he, e0, e1, e2, e9, e11, e13, e15, e16, e17, e18]; try rfl), (by simp only [bE, Nat.reduceEqDiff, bN, Nat.reduceLT, he, e0, e1, e2, e9, e11, e13, e15, e16, e17, e18]; try rfl)⟩
        have y_3 := eq_false w3
        simp (config := {contextual := true, maxDischargeDepth := 12, maxSteps := 4000000}) only [tb_at, he, e0, e1, e2, e9, e11, e13, e15, e16, e17, e18, lb0, lb1, lb2, lb3, lblt, y_0, y_1, y_2, y_3, notV_bool, Bool.not_true, Bool.not_false, pickV_t, pickV_f, bin_eql, bin_neq, bin_neb, bin_npn, bin_np, bin_npnx, gcall_tt, gpure_tf, beq_self_eq_true, Bool.true_and, Bool.and_true, decide_true, decide_false, gcall_ff, bin_neN, lstep_some, floor_store, ↓st_loadnf, reserve0, ↓bD, bU, forall_const, bS, implies_true, isNx, eq_self, ↓wp_cond, ↓wp_loop, ↓reduceIte, reduceCtorEq, Nat.reduceEqDiff, Nat.reduceLT, Nat.reduceAdd, Nat.reduceMul, bT, ↓sg_bsl, ↓st_callf, bX, ap_mkfn, ap_conv, ↓wi_seq, ↓wi_base, ↓wi_block, ↓wi_cond, ↓wi_loop, ↓wi_rf, ↓wy_seq, ↓wy_base, ↓wy_block, ↓wy_cond, ↓wy_loop, ↓wy_yld, bin_shr1, ae_callvV, callvV_fn, List.append_nil, List.cons_append, List.nil_append, fs40, fs41, mmV_max2, ↓sg_callf3, q_known]
        all_goals first | (refine ⟨rfl, ?_⟩) | skip
        rw [hM4]
        exact ⟨_, _, .refl hSL hBL 0, Chg.refl _ _, hAb, (by simp only [bE, Nat.reduceEqDiff, bN, Nat.reduceLT, he, e0, e1, e2, e9, e11, e13, e15, e16, e17, e18]; try rfl), (by simp only [bE, Nat.reduceEqDiff, bN, Nat.reduceLT, he, e0, e1, e2, e9, e11, e13, e15, e16, e17, e18]; try rfl), (by simp only [bE, Nat.reduceEqDiff, bN, Nat.reduceLT, he, e0, e1, e2, e9, e11, e13, e15, e16, e17, e18]; try rfl), (by simp only [bE, Nat.reduceEqDiff, bN, Nat.reduceLT, he, e0, e1, e2, e9, e11, e13, e15, e16, e17, e18]; try rfl), (by simp only [bE, Nat.reduceEqDiff, bN, Nat.reduceLT, he, e0, e1, e2, e9, e11, e13, e15, e16, e17, e18]; try rfl), (by simp only [bE, Nat.reduceEqDiff, bN, Nat.reduceLT, he, e0, e1, e2, e9, e11, e13, e15, e16, e17, e18]; try rfl), (by simp only [bE, Nat.reduceEqDiff, bN, Nat.reduceLT, he, e0, e1, e2, e9, e11, e13, e15, e16, e17, e18]; try rfl), (by simp only [bE, Nat.reduceEqDiff, bN, Nat.reduceLT, he, e0, e1, e2, e9, e11, e13, e15, e16, e17, e18]; try rfl), (by simp only [bE, Nat.reduceEqDiff, bN, Nat.reduceLT, he, e0, e1, e2, e9, e11, e13, e15, e16, e17, e18]; try rfl), (by simp only [bE, Nat.reduceEqDiff, bN, Nat.reduceLT, he, e0, e1, e2, e9, e11, e13, e15, e16, e17, e18]; try rfl), (by simp only [bE, Nat.reduceEqDiff, bN, Nat.reduceLT, he, e0, e1, e2, e9, e11, e13, e15, e16, e17, e18]; try rfl)⟩
      clear he e0 e1 e2 e9 e11 e13 e15 e16 e17 e18
      intro e u4 hm
      rw [hM4] at hm
      obtain ⟨L1, c, hOp, hC4, hA4, he, e0, e1, e2, e9, e11, e13, e15, e16, e17, e18⟩ := hm
      obtain ⟨vn, td, qd, hNn, hKd⟩ := q_All hA4 hr1
      refine awp_cutM (fun e tq => td = tq ∧ elen e = 335 ∧ E e 0 = .int .i64 (N : Int) ∧ E e 1 = vl ∧ E e 2 = vu ∧ E e 9 = .ptr id 0 ∧ E e 11 = .ptr ib 0 ∧ E e 13 = .ptr ic 0 ∧ E e 15 = .int .i64 (i : Int) ∧ E e 16 = vb ∧ E e 17 = .ptr bx 0 ∧ E e 18 = .int .i64 c ∧ E e 19 = vn) ?_ ?_
      · simp (config := {contextual := true, maxDischargeDepth := 12}) only [tb_at, he, e0, e1, e2, e9, e11, e13, e15, e16, e17, e18, qd, notV_bool, Bool.not_true, Bool.not_false, pickV_t, pickV_f, bin_eql, bin_neq, bin_neb, bin_npn, bin_np, bin_npnx, gcall_tt, gpure_tf, beq_self_eq_true, Bool.true_and, Bool.and_true, decide_true, decide_false, gcall_ff, bin_neN, lstep_some, floor_store, ↓st_loadnf, reserve0, ↓bD, bU, forall_const, bS, implies_true, isNx, eq_self, ↓wp_cond, ↓wp_loop, ↓reduceIte, reduceCtorEq, Nat.reduceEqDiff, Nat.reduceLT, Nat.reduceAdd, Nat.reduceMul, bT, ↓sg_bsl, ↓st_callf, bX, ap_mkfn, ap_conv, ↓wi_seq, ↓wi_base, ↓wi_block, ↓wi_cond, ↓wi_loop, ↓wi_rf, ↓wy_seq, ↓wy_base, ↓wy_block, ↓wy_cond, ↓wy_loop, ↓wy_yld, bin_shr1, ae_callvV, callvV_fn, List.append_nil, List.cons_append, List.nil_append, fs40, fs41, mmV_max2, ↓sg_callf3, q_known]
      clear he e0 e1 e2 e9 e11 e13 e15 e16 e17 e18
      rintro e _ ⟨rfl, he, e0, e1, e2, e9, e11, e13, e15, e16, e17, e18, e19⟩
      have hNb4 : NwB t td vb L := ((hNb.mono fun _ _ h => hKb.blk h).chg hC4 (by simp; omega)).mono fun _ _ h => hKd.blk h
      have hlb := lenV_read hNb4.read
      have hln := lenV_read hNn.read
      rw [hLN] at hlb
      rw [hOp.len, hLN] at hln
      have hnn : ((N : Int) = (N : Int)) = True := eq_true rfl
      have hCtd : Chg [j] t3 td := (((hK.trans (hKb1.chg []) (by simp)).trans (hKb.chg []) (by simp)).trans hC4 (by simp)).trans (hKd.chg []) (by simp)
      have hKtd : Keep s td := hKs3.chgn hCtd (by simp; omega)
      have hAtd := hA4.keep hKd
      refine awp_cutM (fun e tq => td = tq ∧ elen e = 335 ∧ E e 0 = .int .i64 (N : Int) ∧ E e 1 = vl ∧ E e 2 = vu ∧ E e 9 = .ptr id 0 ∧ E e 11 = .ptr ib 0 ∧ E e 13 = .ptr ic 0 ∧ E e 15 = .int .i64 (i : Int) ∧ E e 16 = vb ∧ E e 17 = .ptr bx 0 ∧ E e 18 = .int .i64 c ∧ E e 19 = vn) ?_ ?_
      · by_cases hc0 : c = 0
        · have yc := eq_true hc0
          simp (config := {contextual := true, maxDischargeDepth := 12, maxSteps := 4000000}) only [tb_at, he, e0, e1, e2, e9, e11, e13, e15, e16, e17, e18, e19, hlb, hln, hnn, yc, notV_bool, Bool.not_true, Bool.not_false, pickV_t, pickV_f, bin_eql, bin_neq, bin_neb, bin_npn, bin_np, bin_npnx, gcall_tt, gpure_tf, beq_self_eq_true, Bool.true_and, Bool.and_true, decide_true, decide_false, gcall_ff, bin_neN, lstep_some, floor_store, ↓st_loadnf, reserve0, ↓bD, bU, forall_const, bS, implies_true, isNx, eq_self, ↓wp_cond, ↓wp_loop, ↓reduceIte, reduceCtorEq, Nat.reduceEqDiff, Nat.reduceLT, Nat.reduceAdd, Nat.reduceMul, bT, ↓sg_bsl, ↓st_callf, bX, ap_mkfn, ap_conv, ↓wi_seq, ↓wi_base, ↓wi_block, ↓wi_cond, ↓wi_loop, ↓wi_rf, ↓wy_seq, ↓wy_base, ↓wy_block, ↓wy_cond, ↓wy_loop, ↓wy_yld, bin_shr1, ae_callvV, callvV_fn, List.append_nil, List.cons_append, List.nil_append, fs40, fs41, mmV_max2, ↓sg_callf3, q_known]
        have yc := eq_false hc0
        have qsm := q_same false hNn.read hNb4.read (by rw [hOp.len]; omega)
        rw [decide_eq_true (hOp.same hc0)] at qsm
        simp (config := {contextual := true, maxDischargeDepth := 12, maxSteps := 4000000}) only [tb_at, he, e0, e1, e2, e9, e11, e13, e15, e16, e17, e18, e19, hlb, hln, hnn, yc, qsm, notV_bool, Bool.not_true, Bool.not_false, pickV_t, pickV_f, bin_eql, bin_neq, bin_neb, bin_npn, bin_np, bin_npnx, gcall_tt, gpure_tf, beq_self_eq_true, Bool.true_and, Bool.and_true, decide_true, decide_false, gcall_ff, bin_neN, lstep_some, floor_store, ↓st_loadnf, reserve0, ↓bD, bU, forall_const, bS, implies_true, isNx, eq_self, ↓wp_cond, ↓wp_loop, ↓reduceIte, reduceCtorEq, Nat.reduceEqDiff, Nat.reduceLT, Nat.reduceAdd, Nat.reduceMul, bT, ↓sg_bsl, ↓st_callf, bX, ap_mkfn, ap_conv, ↓wi_seq, ↓wi_base, ↓wi_block, ↓wi_cond, ↓wi_loop, ↓wi_rf, ↓wy_seq, ↓wy_base, ↓wy_block, ↓wy_cond, ↓wy_loop, ↓wy_yld, bin_shr1, ae_callvV, callvV_fn, List.append_nil, List.cons_append, List.nil_append, fs40, fs41, mmV_max2, ↓sg_callf3, q_known]
      clear he e0 e1 e2 e9 e11 e13 e15 e16 e17 e18 e19
      rintro e _ ⟨rfl, he, e0, e1, e2, e9, e11, e13, e15, e16, e17, e18, e19⟩
      simp (config := {contextual := true, maxDischargeDepth := 12, maxSteps := 4000000}) only [tb_at, he, e0, e1, e2, e9, e11, e13, e15, e16, e17, e18, e19, notV_bool, Bool.not_true, Bool.not_false, pickV_t, pickV_f, bin_eql, bin_neq, bin_neb, bin_npn, bin_np, bin_npnx, gcall_tt, gpure_tf, beq_self_eq_true, Bool.true_and, Bool.and_true, decide_true, decide_false, gcall_ff, bin_neN, lstep_some, floor_store, ↓st_loadnf, reserve0, ↓bD, bU, forall_const, bS, implies_true, isNx, eq_self, ↓wp_cond, ↓wp_loop, ↓reduceIte, reduceCtorEq, Nat.reduceEqDiff, Nat.reduceLT, Nat.reduceAdd, Nat.reduceMul, bT, ↓sg_bsl, ↓st_callf, bX, ap_mkfn, ap_conv, ↓wi_seq, ↓wi_base, ↓wi_block, ↓wi_cond, ↓wi_loop, ↓wi_rf, ↓wy_seq, ↓wy_base, ↓wy_block, ↓wy_cond, ↓wy_loop, ↓wy_yld, bin_shr1, ae_callvV, callvV_fn, List.append_nil, List.cons_append, List.nil_append, fs40, fs41, mmV_max2, ↓sg_callf3, q_known]
      obtain ⟨J, hJ⟩ : ∃ J : Nat → Env → St → Prop, ∀ n1 e z_, J n1 e z_ = (Keep td z_ ∧ ∃ k : Nat, n1 + k = N ∧ elen e = 335 ∧ E e 0 = .int .i64 (N : Int) ∧ E e 1 = vl ∧ E e 2 = vu ∧ E e 9 = .ptr id 0 ∧ E e 11 = .ptr ib 0 ∧ E e 13 = .ptr ic 0 ∧ E e 15 = .int .i64 (i : Int) ∧ E e 16 = vb ∧ E e 17 = .ptr bx 0 ∧ E e 19 = vn ∧ E e 20 = .int .i64 (k : Int)) := ⟨fun n1 e z_ => (Keep td z_ ∧ ∃ k : Nat, n1 + k = N ∧ elen e = 335 ∧ E e 0 = .int .i64 (N : Int) ∧ E e 1 = vl ∧ E e 2 = vu ∧ E e 9 = .ptr id 0 ∧ E e 11 = .ptr ib 0 ∧ E e 13 = .ptr ic 0 ∧ E e 15 = .int .i64 (i : Int) ∧ E e 16 = vb ∧ E e 17 = .ptr bx 0 ∧ E e 19 = vn ∧ E e 20 = .int .i64 (k : Int)), fun _ _ _ => rfl⟩
      refine lwp_inv J (n := N) ?_ ?_
      · rw [hJ]
        exact ⟨.refl td, 0, by omega, (by simp only [bE, Nat.reduceEqDiff, bN, Nat.reduceLT, he, e0, e1, e2, e9, e11, e13, e15, e16, e17, e18, e19]; try rfl), (by simp only [bE, Nat.reduceEqDiff, bN, Nat.reduceLT, he, e0, e1, e2, e9, e11, e13, e15, e16, e17, e18, e19]; try rfl), (by simp only [bE, Nat.reduceEqDiff, bN, Nat.reduceLT, he, e0, e1, e2, e9, e11, e13, e15, e16, e17, e18, e19]; try rfl), (by simp only [bE, Nat.reduceEqDiff, bN, Nat.reduceLT, he, e0, e1, e2, e9, e11, e13, e15, e16, e17, e18, e19]; try rfl), (by simp only [bE, Nat.reduceEqDiff, bN, Nat.reduceLT, he, e0, e1, e2, e9, e11, e13, e15, e16, e17, e18, e19]; try rfl), (by simp only [bE, Nat.reduceEqDiff, bN, Nat.reduceLT, he, e0, e1, e2, e9, e11, e13, e15, e16, e17, e18, e19]; try rfl), (by simp only [bE, Nat.reduceEqDiff, bN, Nat.reduceLT, he, e0, e1, e2, e9, e11, e13, e15, e16, e17, e18, e19]; try rfl), (by simp only [bE, Nat.reduceEqDiff, bN, Nat.reduceLT, he, e0, e1, e2, e9, e11, e13, e15, e16, e17, e18, e19]; try rfl), (by simp only [bE, Nat.reduceEqDiff, bN, Nat.reduceLT, he, e0, e1, e2, e9, e11, e13, e15, e16, e17, e18, e19]; try rfl), (by simp only [bE, Nat.reduceEqDiff, bN, Nat.reduceLT, he, e0, e1, e2, e9, e11, e13, e15, e16, e17, e18, e19]; try rfl), (by simp only [bE, Nat.reduceEqDiff, bN, Nat.reduceLT, he, e0, e1, e2, e9, e11, e13, e15, e16, e17, e18, e19]; try rfl), (by simp only [bE, Nat.reduceEqDiff, bN, Nat.reduceLT, he, e0, e1, e2, e9, e11, e13, e15, e16, e17, e18, e19]; try rfl)⟩
      clear he e0 e1 e2 e9 e11 e13 e15 e16 e17 e18 e19
      intro n1 e z_ hj
      rw [hJ] at hj
      obtain ⟨hKz, k, hnk, he, e0, e1, e2, e9, e11, e13, e15, e16, e17, e19, e20⟩ := hj
      by_cases hk : k < N
      rotate_left
      · have y2 := eq_false (show ¬ (k : Int) < (N : Int) by omega)
        have hCz : Chg [j] t3 z_ := hCtd.trans (hKz.chg []) (by simp)
        simp (config := {contextual := true, maxDischargeDepth := 12, maxSteps := 4000000}) only [tb_at, he, e0, e1, e2, e9, e11, e13, e15, e16, e17, e19, e20, y2, notV_bool, Bool.not_true, Bool.not_false, pickV_t, pickV_f, bin_eql, bin_neq, bin_neb, bin_npn, bin_np, bin_npnx, gcall_tt, gpure_tf, beq_self_eq_true, Bool.true_and, Bool.and_true, decide_true, decide_false, gcall_ff, bin_neN, lstep_some, floor_store, ↓st_loadnf, reserve0, ↓bD, bU, forall_const, bS, implies_true, isNx, eq_self, ↓wp_cond, ↓wp_loop, ↓reduceIte, reduceCtorEq, Nat.reduceEqDiff, Nat.reduceLT, Nat.reduceAdd, Nat.reduceMul, bT, ↓sg_bsl, ↓st_callf, bX, ap_mkfn, ap_conv, ↓wi_seq, ↓wi_base, ↓wi_block, ↓wi_cond, ↓wi_loop, ↓wi_rf, ↓wy_seq, ↓wy_base, ↓wy_block, ↓wy_cond, ↓wy_loop, ↓wy_yld, bin_shr1, ae_callvV, callvV_fn, List.append_nil, List.cons_append, List.nil_append, fs40, fs41, mmV_max2, ↓sg_callf3, q_known]
        all_goals first | (refine ⟨rfl, ?_⟩) | skip
        rw [hMB]
        exact ⟨L1, hCz, hAtd.keep hKz, hOp.srt, hOp.bb, by rw [hOp.len, hLN], (by simp only [bE, Nat.reduceEqDiff, bN, Nat.reduceLT, he, e0, e1, e2, e9, e11, e13, e15, e16, e17, e19, e20]; try rfl), (by simp only [bE, Nat.reduceEqDiff, bN, Nat.reduceLT, he, e0, e1, e2, e9, e11, e13, e15, e16, e17, e19, e20]; try rfl), (by simp only [bE, Nat.reduceEqDiff, bN, Nat.reduceLT, he, e0, e1, e2, e9, e11, e13, e15, e16, e17, e19, e20]; try rfl), (by simp only [bE, Nat.reduceEqDiff, bN, Nat.reduceLT, he, e0, e1, e2, e9, e11, e13, e15, e16, e17, e19, e20]; try rfl), (by simp only [bE, Nat.reduceEqDiff, bN, Nat.reduceLT, he, e0, e1, e2, e9, e11, e13, e15, e16, e17, e19, e20]; try rfl), (by simp only [bE, Nat.reduceEqDiff, bN, Nat.reduceLT, he, e0, e1, e2, e9, e11, e13, e15, e16, e17, e19, e20]; try rfl), (by simp only [bE, Nat.reduceEqDiff, bN, Nat.reduceLT, he, e0, e1, e2, e9, e11, e13, e15, e16, e17, e19, e20]; try rfl), (by simp only [bE, Nat.reduceEqDiff, bN, Nat.reduceLT, he, e0, e1, e2, e9, e11, e13, e15, e16, e17, e19, e20]; try rfl)⟩
      have y2 := eq_true (show (k : Int) < (N : Int) by omega)
      have hwk := wrap_add1 (n := k) (by omega)
      obtain ⟨pp, hpp⟩ := getsome (show k < L.length by omega)
      obtain ⟨qq, hqq⟩ := getsome (show k < L1.length by rw [hOp.len]; omega)
      obtain ⟨p1, p2, _, _, _, _, p3⟩ := nb_lods (hKz.read hNb4.read) hpp
      obtain ⟨r1, r2, _, _, _, _, r3⟩ := nb_lods (hKz.read hNn.read) hqq
      have hrel := hOp.rel k pp qq hpp hqq
      have hnd := needP_le (List.mem_of_getElem? hqq)
      refine awp_cutM (fun e tq => z_ = tq ∧ elen e = 335 ∧ E e 0 = .int .i64 (N : Int) ∧ E e 1 = vl ∧ E e 2 = vu ∧ E e 9 = .ptr id 0 ∧ E e 11 = .ptr ib 0 ∧ E e 13 = .ptr ic 0 ∧ E e 15 = .int .i64 (i : Int) ∧ E e 16 = vb ∧ E e 17 = .ptr bx 0 ∧ E e 19 = vn ∧ E e 20 = .int .i64 (k : Int)) ?_ ?_
      · simp (config := {contextual := true, maxDischargeDepth := 12}) only [tb_at, he, e0, e1, e2, e9, e11, e13, e15, e16, e17, e19, e20, y2, notV_bool, Bool.not_true, Bool.not_false, pickV_t, pickV_f, bin_eql, bin_neq, bin_neb, bin_npn, bin_np, bin_npnx, gcall_tt, gpure_tf, beq_self_eq_true, Bool.true_and, Bool.and_true, decide_true, decide_false, gcall_ff, bin_neN, lstep_some, floor_store, ↓st_loadnf, reserve0, ↓bD, bU, forall_const, bS, implies_true, isNx, eq_self, ↓wp_cond, ↓wp_loop, ↓reduceIte, reduceCtorEq, Nat.reduceEqDiff, Nat.reduceLT, Nat.reduceAdd, Nat.reduceMul, bT, ↓sg_bsl, ↓st_callf, bX, ap_mkfn, ap_conv, ↓wi_seq, ↓wi_base, ↓wi_block, ↓wi_cond, ↓wi_loop, ↓wi_rf, ↓wy_seq, ↓wy_base, ↓wy_block, ↓wy_cond, ↓wy_loop, ↓wy_yld, bin_shr1, ae_callvV, callvV_fn, List.append_nil, List.cons_append, List.nil_append, fs40, fs41, mmV_max2, ↓sg_callf3, q_known]
      clear he e0 e1 e2 e9 e11 e13 e15 e16 e17 e19 e20
      rintro e _ ⟨rfl, he, e0, e1, e2, e9, e11, e13, e15, e16, e17, e19, e20⟩
      obtain ⟨MI, hMI⟩ : ∃ MI : Env → St → Prop, ∀ e u, MI e u = (Keep td u ∧ elen e = 335 ∧ E e 0 = .int .i64 (N : Int) ∧ E e 1 = vl ∧ E e 2 = vu ∧ E e 9 = .ptr id 0 ∧ E e 11 = .ptr ib 0 ∧ E e 13 = .ptr ic 0 ∧ E e 15 = .int .i64 (i : Int) ∧ E e 16 = vb ∧ E e 17 = .ptr bx 0 ∧ E e 19 = vn ∧ E e 20 = .int .i64 (k : Int)) := ⟨_, fun _ _ => rfl⟩
      refine awp_cutM MI ?_ ?_
      rotate_left
      · clear he e0 e1 e2 e9 e11 e13 e15 e16 e17 e19 e20
        intro e u hm
        rw [hMI] at hm
        obtain ⟨hKn, he, e0, e1, e2, e9, e11, e13, e15, e16, e17, e19, e20⟩ := hm
        simp (config := {contextual := true, maxDischargeDepth := 12, maxSteps := 4000000}) only [tb_at, he, e0, e1, e2, e9, e11, e13, e15, e16, e17, e19, e20, hwk, notV_bool, Bool.not_true, Bool.not_false, pickV_t, pickV_f, bin_eql, bin_neq, bin_neb, bin_npn, bin_np, bin_npnx, gcall_tt, gpure_tf, beq_self_eq_true, Bool.true_and, Bool.and_true, decide_true, decide_false, gcall_ff, bin_neN, lstep_some, floor_store, ↓st_loadnf, reserve0, ↓bD, bU, forall_const, bS, implies_true, isNx, eq_self, ↓wp_cond, ↓wp_loop, ↓reduceIte, reduceCtorEq, Nat.reduceEqDiff, Nat.reduceLT, Nat.reduceAdd, Nat.reduceMul, bT, ↓sg_bsl, ↓st_callf, bX, ap_mkfn, ap_conv, ↓wi_seq, ↓wi_base, ↓wi_block, ↓wi_cond, ↓wi_loop, ↓wi_rf, ↓wy_seq, ↓wy_base, ↓wy_block, ↓wy_cond, ↓wy_loop, ↓wy_yld, bin_shr1, ae_callvV, callvV_fn, List.append_nil, List.cons_append, List.nil_append, fs40, fs41, mmV_max2, ↓sg_callf3, q_known]
        refine ⟨n1 - 1, by omega, ?_⟩
        rw [hJ]
        exact ⟨hKn, k + 1, by omega, (by simp only [bE, Nat.reduceEqDiff, bN, Nat.reduceLT, he, e0, e1, e2, e9, e11, e13, e15, e16, e17, e19, e20]; try rfl), (by simp only [bE, Nat.reduceEqDiff, bN, Nat.reduceLT, he, e0, e1, e2, e9, e11, e13, e15, e16, e17, e19, e20]; try rfl), (by simp only [bE, Nat.reduceEqDiff, bN, Nat.reduceLT, he, e0, e1, e2, e9, e11, e13, e15, e16, e17, e19, e20]; try rfl), (by simp only [bE, Nat.reduceEqDiff, bN, Nat.reduceLT, he, e0, e1, e2, e9, e11, e13, e15, e16, e17, e19, e20]; try rfl), (by simp only [bE, Nat.reduceEqDiff, bN, Nat.reduceLT, he, e0, e1, e2, e9, e11, e13, e15, e16, e17, e19, e20]; try rfl), (by simp only [bE, Nat.reduceEqDiff, bN, Nat.reduceLT, he, e0, e1, e2, e9, e11, e13, e15, e16, e17, e19, e20]; try rfl), (by simp only [bE, Nat.reduceEqDiff, bN, Nat.reduceLT, he, e0, e1, e2, e9, e11, e13, e15, e16, e17, e19, e20]; try rfl), (by simp only [bE, Nat.reduceEqDiff, bN, Nat.reduceLT, he, e0, e1, e2, e9, e11, e13, e15, e16, e17, e19, e20]; try rfl), (by simp only [bE, Nat.reduceEqDiff, bN, Nat.reduceLT, he, e0, e1, e2, e9, e11, e13, e15, e16, e17, e19, e20]; try rfl), (by simp only [bE, Nat.reduceEqDiff, bN, Nat.reduceLT, he, e0, e1, e2, e9, e11, e13, e15, e16, e17, e19, e20]; try rfl), (by simp only [bE, Nat.reduceEqDiff, bN, Nat.reduceLT, he, e0, e1, e2, e9, e11, e13, e15, e16, e17, e19, e20]; try rfl), (by simp only [bE, Nat.reduceEqDiff, bN, Nat.reduceLT, he, e0, e1, e2, e9, e11, e13, e15, e16, e17, e19, e20]; try rfl)⟩
      refine awp_blockM ?_
      obtain ⟨S1, T1, zz, hS1, s1, s2, s3, s4, s5, s6⟩ := two_boxes z_ pp qq
      have hS1 : ((z_.reserve 2).born z_.next (.row [.int .i64 0, .int .i64 0, .int .i64 0, .int .i64 0] true)).born (z_.next + 1) (.row [.int .i64 0, .int .i64 0, .int .i64 0, .int .i64 0] true) = S1 := hS1.symm
      have s2 := eq_true s2
      have un0 : (z_.reserve 2).get z_.next = some .unborn := by rw [St.get_reserve]; simp
      have un1 : ((z_.reserve 2).born z_.next (.row [.int .i64 0, .int .i64 0, .int .i64 0, .int .i64 0] true)).get (z_.next + 1) = some .unborn := by
        rw [St.get_born_ne _ _ (St.get_lt un0) (by omega), St.get_reserve]
        simp
        intro h
        omega
      have hRz : Keep z_ (z_.reserve 2) := keep_reserve z_ 2
      obtain ⟨_, p2, _, _, _, _, p3⟩ := nb_lods ((hKz.trans hRz).read hNb4.read) hpp
      obtain ⟨_, r2, _, _, _, _, r3⟩ := nb_lods ((hKz.trans hRz).read hNn.read) hqq
      have hol : oldA z_.next (.ptr (bid vn) (boff vn + k * 4)) = true := by
        obtain ⟨_, _, _, _, _, _, r4⟩ := nb_lods (hKz.read hNn.read) hqq
        exact oldA_lt r4
      obtain ⟨c0, c1', c2', c3', clt⟩ := row4_at s4
      obtain ⟨d0, d1, d2, d3, dlt⟩ := row4_at s5
      have hgz : zz.get bx = some (.row (Nb.av ac) true) := s6.blk (hKz.blk (hKd.blk (hC4.blk hgb hbj)))
      obtain ⟨f0, f1, f2, f3, flt⟩ := row4_at hgz
      have qnd := q_Needed true (hAtd.keep (hKz.trans s6)) hr1
      have hKzz := hKz.trans s6
      refine awp_cutM (fun e tq => zz = tq ∧ elen e = 335 ∧ E e 0 = .int .i64 (N : Int) ∧ E e 1 = vl ∧ E e 2 = vu ∧ E e 9 = .ptr id 0 ∧ E e 11 = .ptr ib 0 ∧ E e 13 = .ptr ic 0 ∧ E e 15 = .int .i64 (i : Int) ∧ E e 16 = vb ∧ E e 17 = .ptr bx 0 ∧ E e 19 = vn ∧ E e 20 = .int .i64 (k : Int) ∧ E e 21 = .ptr z_.next 0 ∧ E e 22 = .ptr (z_.next + 1) 0) ?_ ?_
      · simp (config := {contextual := true, maxDischargeDepth := 12}) only [tb_at, he, e0, e1, e2, e9, e11, e13, e15, e16, e17, e19, e20, p1, p2, p3, r1, r2, r3, hS1, un0, un1, hol, s1, s2, s3, notV_bool, Bool.not_true, Bool.not_false, pickV_t, pickV_f, bin_eql, bin_neq, bin_neb, bin_npn, bin_np, bin_npnx, gcall_tt, gpure_tf, beq_self_eq_true, Bool.true_and, Bool.and_true, decide_true, decide_false, gcall_ff, bin_neN, lstep_some, floor_store, ↓st_loadnf, reserve0, ↓bD, bU, forall_const, bS, implies_true, isNx, eq_self, ↓wp_cond, ↓wp_loop, ↓reduceIte, reduceCtorEq, Nat.reduceEqDiff, Nat.reduceLT, Nat.reduceAdd, Nat.reduceMul, bT, ↓sg_bsl, ↓st_callf, bX, ap_mkfn, ap_conv, ↓wi_seq, ↓wi_base, ↓wi_block, ↓wi_cond, ↓wi_loop, ↓wi_rf, ↓wy_seq, ↓wy_base, ↓wy_block, ↓wy_cond, ↓wy_loop, ↓wy_yld, bin_shr1, ae_callvV, callvV_fn, List.append_nil, List.cons_append, List.nil_append, fs40, fs41, mmV_max2, ↓sg_callf3, q_known]
      clear he e0 e1 e2 e9 e11 e13 e15 e16 e17 e19 e20
      rintro e _ ⟨rfl, he, e0, e1, e2, e9, e11, e13, e15, e16, e17, e19, e20, e21, e22⟩
      have d0 : lod1 zz (.ptr (z_.next + 1) 0) = some (.int .i64 pp.r) := by rw [← hrel.r]; exact d0
      refine awp_cutM (fun e tq => zz = tq ∧ elen e = 335 ∧ E e 0 = .int .i64 (N : Int) ∧ E e 1 = vl ∧ E e 2 = vu ∧ E e 9 = .ptr id 0 ∧ E e 11 = .ptr ib 0 ∧ E e 13 = .ptr ic 0 ∧ E e 15 = .int .i64 (i : Int) ∧ E e 16 = vb ∧ E e 17 = .ptr bx 0 ∧ E e 19 = vn ∧ E e 20 = .int .i64 (k : Int) ∧ E e 21 = .ptr z_.next 0 ∧ E e 22 = .ptr (z_.next + 1) 0) ?_ ?_
      · rcases hrel.e with ⟨g1, g2, g3⟩ | ⟨g1, g2, g3⟩
        · have d1 : lod1 zz (.ptr (z_.next + 1) 1) = some (.int .i64 pp.e) := by rw [← g1]; exact d1
          have x1 := eq_false (show ¬ pp.e < pp.e by omega)
          have x2 := eq_true (show pp.e = pp.e from rfl)
          have x3 := eq_false (show ¬ qq.a < pp.a by omega)
          have x4 := eq_false (show ¬ qq.g < pp.g by omega)
          have x5 := eq_false (show ¬ qq.a < needP L1 by omega)
          simp (config := {contextual := true, maxDischargeDepth := 12, maxSteps := 4000000}) only [tb_at, he, e0, e1, e2, e9, e11, e13, e15, e16, e17, e19, e20, e21, e22, c0, c1', c2', c3', clt, d0, d1, d2, d3, dlt, f0, f1, f2, f3, flt, x1, x2, x3, x4, x5, qnd, notV_bool, Bool.not_true, Bool.not_false, pickV_t, pickV_f, bin_eql, bin_neq, bin_neb, bin_npn, bin_np, bin_npnx, gcall_tt, gpure_tf, beq_self_eq_true, Bool.true_and, Bool.and_true, decide_true, decide_false, gcall_ff, bin_neN, lstep_some, floor_store, ↓st_loadnf, reserve0, ↓bD, bU, forall_const, bS, implies_true, isNx, eq_self, ↓wp_cond, ↓wp_loop, ↓reduceIte, reduceCtorEq, Nat.reduceEqDiff, Nat.reduceLT, Nat.reduceAdd, Nat.reduceMul, bT, ↓sg_bsl, ↓st_callf, bX, ap_mkfn, ap_conv, ↓wi_seq, ↓wi_base, ↓wi_block, ↓wi_cond, ↓wi_loop, ↓wi_rf, ↓wy_seq, ↓wy_base, ↓wy_block, ↓wy_cond, ↓wy_loop, ↓wy_yld, bin_shr1, ae_callvV, callvV_fn, List.append_nil, List.cons_append, List.nil_append, fs40, fs41, mmV_max2, ↓sg_callf3, q_known]
        have d2 : lod1 zz (.ptr (z_.next + 1) 2) = some (.int .i64 0) := by rw [← g2]; exact d2
        have d3 : lod1 zz (.ptr (z_.next + 1) 3) = some (.int .i64 0) := by rw [← g3]; exact d3
        have x1 := eq_false (show ¬ qq.e < pp.e by omega)
        have x2 := eq_false (show ¬ qq.e = pp.e by omega)
        have x3 := eq_true (show pp.e < qq.e by omega)
        have x5 := eq_false (show ¬ 0 < needP L1 by omega)
        simp (config := {contextual := true, maxDischargeDepth := 12, maxSteps := 4000000}) only [tb_at, he, e0, e1, e2, e9, e11, e13, e15, e16, e17, e19, e20, e21, e22, c0, c1', c2', c3', clt, d0, d1, d2, d3, dlt, f0, f1, f2, f3, flt, x1, x2, x3, x5, qnd, notV_bool, Bool.not_true, Bool.not_false, pickV_t, pickV_f, bin_eql, bin_neq, bin_neb, bin_npn, bin_np, bin_npnx, gcall_tt, gpure_tf, beq_self_eq_true, Bool.true_and, Bool.and_true, decide_true, decide_false, gcall_ff, bin_neN, lstep_some, floor_store, ↓st_loadnf, reserve0, ↓bD, bU, forall_const, bS, implies_true, isNx, eq_self, ↓wp_cond, ↓wp_loop, ↓reduceIte, reduceCtorEq, Nat.reduceEqDiff, Nat.reduceLT, Nat.reduceAdd, Nat.reduceMul, bT, ↓sg_bsl, ↓st_callf, bX, ap_mkfn, ap_conv, ↓wi_seq, ↓wi_base, ↓wi_block, ↓wi_cond, ↓wi_loop, ↓wi_rf, ↓wy_seq, ↓wy_base, ↓wy_block, ↓wy_cond, ↓wy_loop, ↓wy_yld, bin_shr1, ae_callvV, callvV_fn, List.append_nil, List.cons_append, List.nil_append, fs40, fs41, mmV_max2, ↓sg_callf3, q_known]
      clear he e0 e1 e2 e9 e11 e13 e15 e16 e17 e19 e20 e21 e22
      rintro e _ ⟨rfl, he, e0, e1, e2, e9, e11, e13, e15, e16, e17, e19, e20, e21, e22⟩
      have hbp := hBL pp (List.mem_of_getElem? hpp)
      have hwg : IntKind.i64.wrap (pp.g + 1) = pp.g + 1 := by
        obtain ⟨g, hg⟩ : ∃ g : Nat, pp.g = (g : Int) := ⟨pp.g.toNat, by omega⟩
        rw [hg, show (g : Int) + 1 = ((g + 1 : Nat) : Int) by omega]
        exact wrapI (by omega) (by omega)
      by_cases w2 : ac.r = 2
      rotate_left
      · have x1 := eq_false w2
        simp (config := {contextual := true, maxDischargeDepth := 12, maxSteps := 4000000}) only [tb_at, he, e0, e1, e2, e9, e11, e13, e15, e16, e17, e19, e20, e21, e22, c0, c1', c2', c3', clt, d0, d1, d2, d3, dlt, f0, f1, f2, f3, flt, x1, notV_bool, Bool.not_true, Bool.not_false, pickV_t, pickV_f, bin_eql, bin_neq, bin_neb, bin_npn, bin_np, bin_npnx, gcall_tt, gpure_tf, beq_self_eq_true, Bool.true_and, Bool.and_true, decide_true, decide_false, gcall_ff, bin_neN, lstep_some, floor_store, ↓st_loadnf, reserve0, ↓bD, bU, forall_const, bS, implies_true, isNx, eq_self, ↓wp_cond, ↓wp_loop, ↓reduceIte, reduceCtorEq, Nat.reduceEqDiff, Nat.reduceLT, Nat.reduceAdd, Nat.reduceMul, bT, ↓sg_bsl, ↓st_callf, bX, ap_mkfn, ap_conv, ↓wi_seq, ↓wi_base, ↓wi_block, ↓wi_cond, ↓wi_loop, ↓wi_rf, ↓wy_seq, ↓wy_base, ↓wy_block, ↓wy_cond, ↓wy_loop, ↓wy_yld, bin_shr1, ae_callvV, callvV_fn, List.append_nil, List.cons_append, List.nil_append, fs40, fs41, mmV_max2, ↓sg_callf3, q_known]
        all_goals first | (refine ⟨rfl, ?_⟩) | skip
        rw [hMI]
        exact ⟨hKzz, (by simp only [bE, Nat.reduceEqDiff, bN, Nat.reduceLT, he, e0, e1, e2, e9, e11, e13, e15, e16, e17, e19, e20, e21, e22]; try rfl), (by simp only [bE, Nat.reduceEqDiff, bN, Nat.reduceLT, he, e0, e1, e2, e9, e11, e13, e15, e16, e17, e19, e20, e21, e22]; try rfl), (by simp only [bE, Nat.reduceEqDiff, bN, Nat.reduceLT, he, e0, e1, e2, e9, e11, e13, e15, e16, e17, e19, e20, e21, e22]; try rfl), (by simp only [bE, Nat.reduceEqDiff, bN, Nat.reduceLT, he, e0, e1, e2, e9, e11, e13, e15, e16, e17, e19, e20, e21, e22]; try rfl), (by simp only [bE, Nat.reduceEqDiff, bN, Nat.reduceLT, he, e0, e1, e2, e9, e11, e13, e15, e16, e17, e19, e20, e21, e22]; try rfl), (by simp only [bE, Nat.reduceEqDiff, bN, Nat.reduceLT, he, e0, e1, e2, e9, e11, e13, e15, e16, e17, e19, e20, e21, e22]; try rfl), (by simp only [bE, Nat.reduceEqDiff, bN, Nat.reduceLT, he, e0, e1, e2, e9, e11, e13, e15, e16, e17, e19, e20, e21, e22]; try rfl), (by simp only [bE, Nat.reduceEqDiff, bN, Nat.reduceLT, he, e0, e1, e2, e9, e11, e13, e15, e16, e17, e19, e20, e21, e22]; try rfl), (by simp only [bE, Nat.reduceEqDiff, bN, Nat.reduceLT, he, e0, e1, e2, e9, e11, e13, e15, e16, e17, e19, e20, e21, e22]; try rfl), (by simp only [bE, Nat.reduceEqDiff, bN, Nat.reduceLT, he, e0, e1, e2, e9, e11, e13, e15, e16, e17, e19, e20, e21, e22]; try rfl), (by simp only [bE, Nat.reduceEqDiff, bN, Nat.reduceLT, he, e0, e1, e2, e9, e11, e13, e15, e16, e17, e19, e20, e21, e22]; try rfl), (by simp only [bE, Nat.reduceEqDiff, bN, Nat.reduceLT, he, e0, e1, e2, e9, e11, e13, e15, e16, e17, e19, e20, e21, e22]; try rfl)⟩
      have x1 := eq_true w2
      by_cases w3 : pp.g < qq.g
      rotate_left
      · have x2 := eq_false w3
        simp (config := {contextual := true, maxDischargeDepth := 12, maxSteps := 4000000}) only [tb_at, he, e0, e1, e2, e9, e11, e13, e15, e16, e17, e19, e20, e21, e22, c0, c1', c2', c3', clt, d0, d1, d2, d3, dlt, f0, f1, f2, f3, flt, x1, x2, notV_bool, Bool.not_true, Bool.not_false, pickV_t, pickV_f, bin_eql, bin_neq, bin_neb, bin_npn, bin_np, bin_npnx, gcall_tt, gpure_tf, beq_self_eq_true, Bool.true_and, Bool.and_true, decide_true, decide_false, gcall_ff, bin_neN, lstep_some, floor_store, ↓st_loadnf, reserve0, ↓bD, bU, forall_const, bS, implies_true, isNx, eq_self, ↓wp_cond, ↓wp_loop, ↓reduceIte, reduceCtorEq, Nat.reduceEqDiff, Nat.reduceLT, Nat.reduceAdd, Nat.reduceMul, bT, ↓sg_bsl, ↓st_callf, bX, ap_mkfn, ap_conv, ↓wi_seq, ↓wi_base, ↓wi_block, ↓wi_cond, ↓wi_loop, ↓wi_rf, ↓wy_seq, ↓wy_base, ↓wy_block, ↓wy_cond, ↓wy_loop, ↓wy_yld, bin_shr1, ae_callvV, callvV_fn, List.append_nil, List.cons_append, List.nil_append, fs40, fs41, mmV_max2, ↓sg_callf3, q_known]
        all_goals first | (refine ⟨rfl, ?_⟩) | skip
        rw [hMI]
        exact ⟨hKzz, (by simp only [bE, Nat.reduceEqDiff, bN, Nat.reduceLT, he, e0, e1, e2, e9, e11, e13, e15, e16, e17, e19, e20, e21, e22]; try rfl), (by simp only [bE, Nat.reduceEqDiff, bN, Nat.reduceLT, he, e0, e1, e2, e9, e11, e13, e15, e16, e17, e19, e20, e21, e22]; try rfl), (by simp only [bE, Nat.reduceEqDiff, bN, Nat.reduceLT, he, e0, e1, e2, e9, e11, e13, e15, e16, e17, e19, e20, e21, e22]; try rfl), (by simp only [bE, Nat.reduceEqDiff, bN, Nat.reduceLT, he, e0, e1, e2, e9, e11, e13, e15, e16, e17, e19, e20, e21, e22]; try rfl), (by simp only [bE, Nat.reduceEqDiff, bN, Nat.reduceLT, he, e0, e1, e2, e9, e11, e13, e15, e16, e17, e19, e20, e21, e22]; try rfl), (by simp only [bE, Nat.reduceEqDiff, bN, Nat.reduceLT, he, e0, e1, e2, e9, e11, e13, e15, e16, e17, e19, e20, e21, e22]; try rfl), (by simp only [bE, Nat.reduceEqDiff, bN, Nat.reduceLT, he, e0, e1, e2, e9, e11, e13, e15, e16, e17, e19, e20, e21, e22]; try rfl), (by simp only [bE, Nat.reduceEqDiff, bN, Nat.reduceLT, he, e0, e1, e2, e9, e11, e13, e15, e16, e17, e19, e20, e21, e22]; try rfl), (by simp only [bE, Nat.reduceEqDiff, bN, Nat.reduceLT, he, e0, e1, e2, e9, e11, e13, e15, e16, e17, e19, e20, e21, e22]; try rfl), (by simp only [bE, Nat.reduceEqDiff, bN, Nat.reduceLT, he, e0, e1, e2, e9, e11, e13, e15, e16, e17, e19, e20, e21, e22]; try rfl), (by simp only [bE, Nat.reduceEqDiff, bN, Nat.reduceLT, he, e0, e1, e2, e9, e11, e13, e15, e16, e17, e19, e20, e21, e22]; try rfl), (by simp only [bE, Nat.reduceEqDiff, bN, Nat.reduceLT, he, e0, e1, e2, e9, e11, e13, e15, e16, e17, e19, e20, e21, e22]; try rfl)⟩
      have x2 := eq_true w3
      obtain ⟨g1, g2⟩ := hrel.w w2 w3
      have x3 := eq_false (show ¬ pp.g + 1 < ac.a by omega)
      have f3 : lod1 zz (.ptr bx 3) = some (.int .i64 qq.g) := by rw [← g2]; exact f3
      simp (config := {contextual := true, maxDischargeDepth := 12, maxSteps := 4000000}) only [tb_at, he, e0, e1, e2, e9, e11, e13, e15, e16, e17, e19, e20, e21, e22, c0, c1', c2', c3', clt, d0, d1, d2, d3, dlt, f0, f1, f2, f3, flt, hwg, x1, x2, x3, notV_bool, Bool.not_true, Bool.not_false, pickV_t, pickV_f, bin_eql, bin_neq, bin_neb, bin_npn, bin_np, bin_npnx, gcall_tt, gpure_tf, beq_self_eq_true, Bool.true_and, Bool.and_true, decide_true, decide_false, gcall_ff, bin_neN, lstep_some, floor_store, ↓st_loadnf, reserve0, ↓bD, bU, forall_const, bS, implies_true, isNx, eq_self, ↓wp_cond, ↓wp_loop, ↓reduceIte, reduceCtorEq, Nat.reduceEqDiff, Nat.reduceLT, Nat.reduceAdd, Nat.reduceMul, bT, ↓sg_bsl, ↓st_callf, bX, ap_mkfn, ap_conv, ↓wi_seq, ↓wi_base, ↓wi_block, ↓wi_cond, ↓wi_loop, ↓wi_rf, ↓wy_seq, ↓wy_base, ↓wy_block, ↓wy_cond, ↓wy_loop, ↓wy_yld, bin_shr1, ae_callvV, callvV_fn, List.append_nil, List.cons_append, List.nil_append, fs40, fs41, mmV_max2, ↓sg_callf3, q_known]
      all_goals first | (refine ⟨rfl, ?_⟩) | skip
      rw [hMI]
      exact ⟨hKzz, (by simp only [bE, Nat.reduceEqDiff, bN, Nat.reduceLT, he, e0, e1, e2, e9, e11, e13, e15, e16, e17, e19, e20, e21, e22]; try rfl), (by simp only [bE, Nat.reduceEqDiff, bN, Nat.reduceLT, he, e0, e1, e2, e9, e11, e13, e15, e16, e17, e19, e20, e21, e22]; try rfl), (by simp only [bE, Nat.reduceEqDiff, bN, Nat.reduceLT, he, e0, e1, e2, e9, e11, e13, e15, e16, e17, e19, e20, e21, e22]; try rfl), (by simp only [bE, Nat.reduceEqDiff, bN, Nat.reduceLT, he, e0, e1, e2, e9, e11, e13, e15, e16, e17, e19, e20, e21, e22]; try rfl), (by simp only [bE, Nat.reduceEqDiff, bN, Nat.reduceLT, he, e0, e1, e2, e9, e11, e13, e15, e16, e17, e19, e20, e21, e22]; try rfl), (by simp only [bE, Nat.reduceEqDiff, bN, Nat.reduceLT, he, e0, e1, e2, e9, e11, e13, e15, e16, e17, e19, e20, e21, e22]; try rfl), (by simp only [bE, Nat.reduceEqDiff, bN, Nat.reduceLT, he, e0, e1, e2, e9, e11, e13, e15, e16, e17, e19, e20, e21, e22]; try rfl), (by simp only [bE, Nat.reduceEqDiff, bN, Nat.reduceLT, he, e0, e1, e2, e9, e11, e13, e15, e16, e17, e19, e20, e21, e22]; try rfl), (by simp only [bE, Nat.reduceEqDiff, bN, Nat.reduceLT, he, e0, e1, e2, e9, e11, e13, e15, e16, e17, e19, e20, e21, e22]; try rfl), (by simp only [bE, Nat.reduceEqDiff, bN, Nat.reduceLT, he, e0, e1, e2, e9, e11, e13, e15, e16, e17, e19, e20, e21, e22]; try rfl), (by simp only [bE, Nat.reduceEqDiff, bN, Nat.reduceLT, he, e0, e1, e2, e9, e11, e13, e15, e16, e17, e19, e20, e21, e22]; try rfl), (by simp only [bE, Nat.reduceEqDiff, bN, Nat.reduceLT, he, e0, e1, e2, e9, e11, e13, e15, e16, e17, e19, e20, e21, e22]; try rfl)⟩
    clear he e0 e1 e2 e9 e11 e13
    intro e t4 hm
    rw [hM8] at hm
    obtain ⟨hC84, he, e0, e1, e2, e9, e11, e13⟩ := hm
    have hB4 := hBt3.chg hC84 (by simp; omega) (by simp; omega)
    have hC4 := hC3.chg hC84 (by simp; omega) (by simp; omega)
    have hKs4 : Keep s t4 := hKs3.chgn hC84 (by simp; omega)
    obtain ⟨M9, hM9⟩ : ∃ M9 : Env → St → Prop, ∀ e u, M9 e u = (Chg [jb, jc] t4 u ∧ AkR u ib jb capb 1 (stL N (U.map (prN N))) ∧ AkR u ic jc capc 1 (stL N (U.reverse.map (prN N))) ∧ elen e = 335 ∧ E e 0 = .int .i64 (N : Int) ∧ E e 2 = vu ∧ E e 11 = .ptr ib 0 ∧ E e 13 = .ptr ic 0) := ⟨_, fun _ _ => rfl⟩
    refine awp_cutM M9 ?_ ?_
    · skip
      simp (config := {contextual := true, maxDischargeDepth := 12, maxSteps := 4000000}) only [tb_at, he, e0, e1, e2, e9, e11, e13, notV_bool, Bool.not_true, Bool.not_false, pickV_t, pickV_f, bin_eql, bin_neq, bin_neb, bin_npn, bin_np, bin_npnx, gcall_tt, gpure_tf, beq_self_eq_true, Bool.true_and, Bool.and_true, decide_true, decide_false, gcall_ff, bin_neN, lstep_some, floor_store, ↓st_loadnf, reserve0, ↓bD, bU, forall_const, bS, implies_true, isNx, eq_self, ↓wp_cond, ↓wp_loop, ↓reduceIte, reduceCtorEq, Nat.reduceEqDiff, Nat.reduceLT, Nat.reduceAdd, Nat.reduceMul, bT, ↓sg_bsl, ↓st_callf, bX, ap_mkfn, ap_conv, ↓wi_seq, ↓wi_base, ↓wi_block, ↓wi_cond, ↓wi_loop, ↓wi_rf, ↓wy_seq, ↓wy_base, ↓wy_block, ↓wy_cond, ↓wy_loop, ↓wy_yld, bin_shr1, ae_callvV, callvV_fn, List.append_nil, List.cons_append, List.nil_append, fs40, fs41, mmV_max2, ↓sg_callf3, q_known]
      obtain ⟨I, hI⟩ : ∃ I : Nat → Env → St → Prop, ∀ n e t, I n e t = (Chg [jb, jc] t4 t ∧ ∃ i : Nat, n + i = U.length ∧ elen e = 335 ∧ E e 0 = .int .i64 (N : Int) ∧ E e 2 = vu ∧ E e 11 = .ptr ib 0 ∧ E e 13 = .ptr ic 0 ∧ E e 23 = .int .i64 (i : Int) ∧ AkR t ib jb capb 1 (stL N ((U.take i).map (prN N))) ∧ AkR t ic jc capc 1 (stL N ((U.reverse.take i).map (prN N)))) := ⟨fun n e t => (Chg [jb, jc] t4 t ∧ ∃ i : Nat, n + i = U.length ∧ elen e = 335 ∧ E e 0 = .int .i64 (N : Int) ∧ E e 2 = vu ∧ E e 11 = .ptr ib 0 ∧ E e 13 = .ptr ic 0 ∧ E e 23 = .int .i64 (i : Int) ∧ AkR t ib jb capb 1 (stL N ((U.take i).map (prN N))) ∧ AkR t ic jc capc 1 (stL N ((U.reverse.take i).map (prN N)))), fun _ _ _ => rfl⟩
      refine lwp_inv I (n := U.length) ?_ ?_
      · rw [hI]
        exact ⟨Chg.refl _ _, 0, by omega, (by simp only [bE, Nat.reduceEqDiff, bN, Nat.reduceLT, he]; try rfl), (by simp only [bE, Nat.reduceEqDiff, bN, Nat.reduceLT, he, e0]; try rfl), (by simp only [bE, Nat.reduceEqDiff, bN, Nat.reduceLT, he, e2]; try rfl), (by simp only [bE, Nat.reduceEqDiff, bN, Nat.reduceLT, he, e11]; try rfl), (by simp only [bE, Nat.reduceEqDiff, bN, Nat.reduceLT, he, e13]; try rfl), (by simp only [bE, Nat.reduceEqDiff, bN, Nat.reduceLT, he]; try rfl), hB4, hC4⟩
      clear he e0 e1 e2 e9 e11 e13
      intro n e t hi
      rw [hI] at hi
      obtain ⟨hK, i, hni, he, e0, e2, e11, e13, e23, hB, hC⟩ := hi
      have hKt : Keep s t := hKs4.chgn hK (by simp; omega)
      by_cases hlt : i < U.length
      rotate_left
      · obtain rfl : i = U.length := by omega
        have y1 := eq_false (show ¬ (U.length : Int) < (U.length : Int) by omega)
        rw [List.take_length] at hB
        rw [show U.length = U.reverse.length by rw [List.length_reverse], List.take_length] at hC
        simp (config := {contextual := true, maxDischargeDepth := 12, maxSteps := 4000000}) only [tb_at, he, e0, e2, e11, e13, e23, hU, y1, notV_bool, Bool.not_true, Bool.not_false, pickV_t, pickV_f, bin_eql, bin_neq, bin_neb, bin_npn, bin_np, bin_npnx, gcall_tt, gpure_tf, beq_self_eq_true, Bool.true_and, Bool.and_true, decide_true, decide_false, gcall_ff, bin_neN, lstep_some, floor_store, ↓st_loadnf, reserve0, ↓bD, bU, forall_const, bS, implies_true, isNx, eq_self, ↓wp_cond, ↓wp_loop, ↓reduceIte, reduceCtorEq, Nat.reduceEqDiff, Nat.reduceLT, Nat.reduceAdd, Nat.reduceMul, bT, ↓sg_bsl, ↓st_callf, bX, ap_mkfn, ap_conv, ↓wi_seq, ↓wi_base, ↓wi_block, ↓wi_cond, ↓wi_loop, ↓wi_rf, ↓wy_seq, ↓wy_base, ↓wy_block, ↓wy_cond, ↓wy_loop, ↓wy_yld, bin_shr1, ae_callvV, callvV_fn, List.append_nil, List.cons_append, List.nil_append, fs40, fs41, mmV_max2, ↓sg_callf3, q_known]
        all_goals first | (refine ⟨rfl, ?_⟩) | skip
        rw [hM9]
        exact ⟨hK, hB, hC, (by simp only [bE, Nat.reduceEqDiff, bN, Nat.reduceLT, he, e0, e2, e11, e13, e23]; try rfl), (by simp only [bE, Nat.reduceEqDiff, bN, Nat.reduceLT, he, e0, e2, e11, e13, e23]; try rfl), (by simp only [bE, Nat.reduceEqDiff, bN, Nat.reduceLT, he, e0, e2, e11, e13, e23]; try rfl), (by simp only [bE, Nat.reduceEqDiff, bN, Nat.reduceLT, he, e0, e2, e11, e13, e23]; try rfl), (by simp only [bE, Nat.reduceEqDiff, bN, Nat.reduceLT, he, e0, e2, e11, e13, e23]; try rfl)⟩
      have y1 := eq_true (show (i : Int) < (U.length : Int) by omega)
      have hw2 := wrap_add1 (n := i) (by omega)
      obtain ⟨ub, hub⟩ := getsome hlt
      obtain ⟨ur, hur⟩ := getsome (show U.length - 1 - i < U.length by omega)
      have hur2 : U.reverse[i]? = some ur := by rw [List.getElem?_reverse hlt]; exact hur
      have hNp : 0 < N := by omega
      obtain ⟨p1, p2, p3⟩ := u16_lods (hKt.read hW) hub
      obtain ⟨r1, r2, r3⟩ := u16_lods (hKt.read hW) hur
      have hwl : IntKind.i64.wrap ((U.length : Int) - 1) = ((U.length - 1 : Nat) : Int) := by
        rw [show (U.length : Int) - 1 = ((U.length - 1 : Nat) : Int) by omega]
        exact wrapI (by omega) (by omega)
      have hwi : IntKind.i64.wrap (((U.length - 1 : Nat) : Int) - (i : Int)) = ((U.length - 1 - i : Nat) : Int) := by
        rw [show ((U.length - 1 : Nat) : Int) - (i : Int) = ((U.length - 1 - i : Nat) : Int) by omega]
        exact wrapI (by omega) (by omega)
      have hub6 := ub.toNat_lt
      have hur6 := ur.toNat_lt
      have w1 : IntKind.i64.wrap (ub.toNat : Int) = (ub.toNat : Int) := wrapI (by omega) (by omega)
      have w2 : IntKind.i64.wrap (ur.toNat : Int) = (ur.toNat : Int) := wrapI (by omega) (by omega)
      have m1 := bin_rem16 (a := ub.toNat) (b := 1000) (by omega)
      have m2 := bin_rem16 (a := ur.toNat) (b := 1000) (by omega)
      have m1 : binOp .rem .no (.int .u16 (ub.toNat : Int)) (.int .u16 1000) = some (.int .u16 ((ub.toNat % 1000 : Nat) : Int)) := m1
      have m2 : binOp .rem .no (.int .u16 (ur.toNat : Int)) (.int .u16 1000) = some (.int .u16 ((ur.toNat % 1000 : Nat) : Int)) := m2
      have m3 := bin_remI (a := ub.toNat) hNp
      have m4 := bin_remI (a := ur.toNat) hNp
      have l1 := Nat.mod_lt ub.toNat hNp
      have l2 := Nat.mod_lt ur.toNat hNp
      have l3 := Nat.mod_lt ub.toNat (show 0 < 1000 by decide)
      have l4 := Nat.mod_lt ur.toNat (show 0 < 1000 by decide)
      have w3 : IntKind.i64.wrap ((ub.toNat % 1000 : Nat) : Int) = ((ub.toNat % 1000 : Nat) : Int) := wrapI (by omega) (by omega)
      have w4 : IntKind.i64.wrap ((ur.toNat % 1000 : Nat) : Int) = ((ur.toNat % 1000 : Nat) : Int) := wrapI (by omega) (by omega)
      have w5 : IntKind.i64.wrap (2 + ((ub.toNat % N : Nat) : Int)) = 2 + ((ub.toNat % N : Nat) : Int) := by
        rw [show 2 + ((ub.toNat % N : Nat) : Int) = ((2 + ub.toNat % N : Nat) : Int) by omega]
        exact wrapI (by omega) (by omega)
      have w6 : IntKind.i64.wrap (2 + ((ur.toNat % N : Nat) : Int)) = 2 + ((ur.toNat % N : Nat) : Int) := by
        rw [show 2 + ((ur.toNat % N : Nat) : Int) = ((2 + ur.toNat % N : Nat) : Int) by omega]
        exact wrapI (by omega) (by omega)
      have s1 := stL_srt hN ((U.take i).map (prN N))
      have s2 := stL_srt hN ((U.reverse.take i).map (prN N))
      have s3 := stL_srt hN ((U.reverse.take i).map (prN N) ++ [prN N ur])
      have k1 := stL_ack hN l1 ((U.take i).map (prN N)) (n := ((ub.toNat % 1000 : Nat) : Int)) (by omega)
      have k2 := stL_ack hN l2 ((U.reverse.take i).map (prN N)) (n := ((ur.toNat % 1000 : Nat) : Int)) (by omega)
      have k3 := stL_ack hN l2 ((U.reverse.take i).map (prN N) ++ [prN N ur]) (n := ((ur.toNat % 1000 : Nat) : Int)) (by omega)
      have k3 : opL (ackF ((ur.toNat % 1000 : Nat) : Int) 1000) (stL N ((U.reverse.take i).map (prN N) ++ [prN N ur])) (2 + ((ur.toNat % N : Nat) : Int)) = (0, stL N ((U.reverse.take i).map (prN N) ++ [prN N ur] ++ [prN N ur])) := k3
      rw [stL_twice] at k3
      obtain ⟨tA, q1, hBA, hCA⟩ := q_Ack hB hr1 s1 (2 + ((ub.toNat % N : Nat) : Int)) ((ub.toNat % 1000 : Nat) : Int) 1000
      rw [k1] at q1 hBA
      have hBA : AkR tA ib jb capb 1 (stL N ((U.take i).map (prN N) ++ [prN N ub])) := hBA
      obtain ⟨tB, q2, hCB, hCB'⟩ := q_Ack (hC.chg hCA (by simp; omega) (by simp; omega)) hr1 s2 (2 + ((ur.toNat % N : Nat) : Int)) ((ur.toNat % 1000 : Nat) : Int) 1000
      rw [k2] at q2 hCB
      have hCB : AkR tB ic jc capc 1 (stL N ((U.reverse.take i).map (prN N) ++ [prN N ur])) := hCB
      obtain ⟨tC, q3, hCC, hCC'⟩ := q_Ack hCB hr1 s3 (2 + ((ur.toNat % N : Nat) : Int)) ((ur.toNat % 1000 : Nat) : Int) 1000
      rw [k3] at q3 hCC
      have hCC : AkR tC ic jc capc 1 (stL N ((U.reverse.take i).map (prN N) ++ [prN N ur])) := hCC
      have hBC := (hBA.chg hCB' (by simp; omega) (by simp; omega)).chg hCC' (by simp; omega) (by simp; omega)
      have hKn : Chg [jb, jc] t4 tC := ((hK.trans hCA (by simp)).trans hCB' (by simp)).trans hCC' (by simp)
      have hBn : AkR tC ib jb capb 1 (stL N ((U.take (i + 1)).map (prN N))) := by rw [take_pr hub]; exact hBC
      have hCn : AkR tC ic jc capc 1 (stL N ((U.reverse.take (i + 1)).map (prN N))) := by rw [take_pr hur2]; exact hCC
      simp (config := {contextual := true, maxDischargeDepth := 12, maxSteps := 4000000}) only [tb_at, he, e0, e2, e11, e13, e23, hU, y1, p1, p2, p3, r1, r2, r3, hwl, hwi, w1, w2, w3, w4, w5, w6, m1, m2, m3, m4, hw2, q1, q2, q3, n00, ap_conv16, notV_bool, Bool.not_true, Bool.not_false, pickV_t, pickV_f, bin_eql, bin_neq, bin_neb, bin_npn, bin_np, bin_npnx, gcall_tt, gpure_tf, beq_self_eq_true, Bool.true_and, Bool.and_true, decide_true, decide_false, gcall_ff, bin_neN, lstep_some, floor_store, ↓st_loadnf, reserve0, ↓bD, bU, forall_const, bS, implies_true, isNx, eq_self, ↓wp_cond, ↓wp_loop, ↓reduceIte, reduceCtorEq, Nat.reduceEqDiff, Nat.reduceLT, Nat.reduceAdd, Nat.reduceMul, bT, ↓sg_bsl, ↓st_callf, bX, ap_mkfn, ap_conv, ↓wi_seq, ↓wi_base, ↓wi_block, ↓wi_cond, ↓wi_loop, ↓wi_rf, ↓wy_seq, ↓wy_base, ↓wy_block, ↓wy_cond, ↓wy_loop, ↓wy_yld, bin_shr1, ae_callvV, callvV_fn, List.append_nil, List.cons_append, List.nil_append, fs40, fs41, mmV_max2, ↓sg_callf3, q_known]
      refine ⟨n - 1, by omega, ?_⟩
      rw [hI]
      exact ⟨hKn, i + 1, by omega, (by simp only [bE, Nat.reduceEqDiff, bN, Nat.reduceLT, he, e0, e2, e11, e13, e23]; try rfl), (by simp only [bE, Nat.reduceEqDiff, bN, Nat.reduceLT, he, e0, e2, e11, e13, e23]; try rfl), (by simp only [bE, Nat.reduceEqDiff, bN, Nat.reduceLT, he, e0, e2, e11, e13, e23]; try rfl), (by simp only [bE, Nat.reduceEqDiff, bN, Nat.reduceLT, he, e0, e2, e11, e13, e23]; try rfl), (by simp only [bE, Nat.reduceEqDiff, bN, Nat.reduceLT, he, e0, e2, e11, e13, e23]; try rfl), (by simp only [bE, Nat.reduceEqDiff, bN, Nat.reduceLT, he, e0, e2, e11, e13, e23]; try rfl), hBn, hCn⟩
    clear he e0 e1 e2 e9 e11 e13
    intro e t5 hm
    rw [hM9] at hm
    obtain ⟨hC95, hB5, hC5, he, e0, e2, e11, e13⟩ := hm
    have hKs5 : Keep s t5 := hKs4.chgn hC95 (by simp; omega)
    rw [← stL_rev] at hC5
    obtain ⟨v1, x1, q1, hN1, hX1⟩ := q_All hB5 hr1
    obtain ⟨v2, x2, q2, hN2, hX2⟩ := q_All (hC5.keep hX1) hr1
    have q3 := q_same false (hX2.read hN1.read) hN2.read (by rw [stL_len]; omega)
    rw [decide_eq_true rfl] at q3
    have q4 := q_Needed false ((hB5.keep hX1).keep hX2) hr1
    have q5 := q_Needed false ((hC5.keep hX1).keep hX2) hr1
    have yy : (needP (stL N (U.map (prN N))) = needP (stL N (U.map (prN N)))) = True := eq_true rfl
    have hKf := (hKs5.trans hX1).trans hX2
    simp (config := {contextual := true, maxDischargeDepth := 12, maxSteps := 4000000}) only [tb_at, he, e0, e2, e11, e13, q1, q2, q3, q4, q5, yy, notV_bool, Bool.not_true, Bool.not_false, pickV_t, pickV_f, bin_eql, bin_neq, bin_neb, bin_npn, bin_np, bin_npnx, gcall_tt, gpure_tf, beq_self_eq_true, Bool.true_and, Bool.and_true, decide_true, decide_false, gcall_ff, bin_neN, lstep_some, floor_store, ↓st_loadnf, reserve0, ↓bD, bU, forall_const, bS, implies_true, isNx, eq_self, ↓wp_cond, ↓wp_loop, ↓reduceIte, reduceCtorEq, Nat.reduceEqDiff, Nat.reduceLT, Nat.reduceAdd, Nat.reduceMul, bT, ↓sg_bsl, ↓st_callf, bX, ap_mkfn, ap_conv, ↓wi_seq, ↓wi_base, ↓wi_block, ↓wi_cond, ↓wi_loop, ↓wi_rf, ↓wy_seq, ↓wy_base, ↓wy_block, ↓wy_cond, ↓wy_loop, ↓wy_yld, bin_shr1, ae_callvV, callvV_fn, List.append_nil, List.cons_append, List.nil_append, fs40, fs41, mmV_max2, ↓sg_callf3, q_known]
    all_goals first | exact hKf | skip

end Go.AM
end
