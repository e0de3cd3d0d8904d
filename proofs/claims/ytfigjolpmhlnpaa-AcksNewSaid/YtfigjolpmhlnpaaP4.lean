/-
  New of the program. Own work of this project; in part printed by a program of it.
-/
import Derived.Test.YtfigjolpmhlnpaaP3
import Derived.KernelRfl
set_option linter.unusedVariables false
set_option linter.unusedSimpArgs false
section
set_option maxRecDepth 100000
set_option maxHeartbeats 8000000
namespace Go.AM
open Go Go.Proofs

variable {s t u : St}

theorem w_Values {s : St} {v : AV} {l : List Int} (hr : AM.read inC s v = some l) : ∀ env : Env, elen env = a29.ntmps → (∀ i x_, [v][i]? = some x_ → E env i = x_) → awp (tb []) a29.body (fun x e t => (∀ i, x ≠ .exit i) ∧ ∃ r, aresults e t a29.results = some r ∧ (∃ p, r = .fn 40 [.ptr p 0] ∧ t.get p = some (.row [v] true) ∧ s.next ≤ p) ∧ Keep s t) env s := by
  intro env hlen ha
  have h0 : E env 0 = _ := ha 0 _ rfl
  have hlen : elen env = _ := hlen
  simp only [a29] at hlen
  unfold a29
  try dsimp only [oO, oG]
  try dsimp only [oO, oG]
  have hbx : boxV 1 v = some (fun id => .ptr id 0, .row [v] true) := by
    cases v with
    | nils => rfl
    | sl => rfl
    | _ => simp [AM.read] at hr
  have hg := St.get_push_new s (.row [v] true)
  have hK : Keep s (s.push (.row [v] true)) := (Keep.refl s).push _
  simp (config := {contextual := true, maxDischargeDepth := 12}) only [tb_at, h0, hlen, hbx, ↓bD, bU, forall_const, bS, implies_true, isNx, eq_self, ↓wp_cond, ↓wp_loop, ↓reduceIte, reduceCtorEq, Nat.reduceEqDiff, Nat.reduceLT, Nat.reduceAdd, Nat.reduceMul, bT, ↓sg_bsl, ↓st_callf, bX, ap_mkfn, ap_conv, ↓wi_seq, ↓wi_base, ↓wi_block, ↓wi_cond, ↓wi_loop, ↓wi_rf, ↓wy_seq, ↓wy_base, ↓wy_block, ↓wy_cond, ↓wy_loop, ↓wy_yld, bin_shr1, q_known, ae_callvV, callvV_fn, List.append_nil, List.cons_append, List.nil_append, fs40, fs41, mmV_max2, ↓sg_callf3]
  all_goals first | exact ⟨_, rfl, ⟨_, rfl, hg, Nat.le_refl _⟩, hK⟩ | exact ⟨_, rfl, _, rfl, hg, Nat.le_refl _⟩ | skip
theorem q_Values {s : St} {v : AV} {l : List Int} (hr : AM.read inC s v = some l) : ∃ p t, acall R_Values false [v] s = some (.fn 40 [.ptr p 0], t) ∧ t.get p = some (.row [v] true) ∧ Keep s t := by
  obtain ⟨r, t, h1, ⟨p, rfl, h2, _⟩, h3⟩ := run_any (s := s) n_Values (args := [v]) (Q := fun r t => ∃ p, r = .fn 40 [.ptr p 0] ∧ t.get p = some (.row [v] true) ∧ s.next ≤ p) (by simp [a29]) (fun r t t' hg hn ⟨p, e, h, h4⟩ => ⟨p, e, by rw [hg]; exact h, h4⟩) (fun r t hgr hk ⟨p, e, _⟩ => by
    rw [e] at hgr
    simp [AV.ground, AV.plain, AV.plains] at hgr) (w_Values (s := lowd s) (read_low' hr))
  exact ⟨p, t, h1, h2, h3⟩
noncomputable def R_New : Con := runFn (tb [(27, R_repl), (29, R_Values), (28, conF inC pSrt)]) a9
theorem s_New : SoundAt Try.prog 9 R_New := run_sound (tb_sound (l := [(27, R_repl), (29, R_Values), (28, conF inC pSrt)]) (by simpa using ⟨s_repl, s_Values, s_Srt⟩)) mixed Try.func9 k9 c9
theorem n_New : noNxtC a9.body = true := by kernel_rfl
theorem w_New {s : St} {nv : AV} {own : Int} {l : List Int} (hr : AM.read inC s nv = some l) (hl : l.length ≤ 100) : ∀ env : Env, elen env = a9.ntmps → (∀ i x_, [.int .i64 own, nv][i]? = some x_ → E env i = x_) → awp (tb [(27, R_repl), (29, R_Values), (28, conF inC pSrt)]) a9.body (fun x e t => (∀ i, x ≠ .exit i) ∧ ∃ r, aresults e t a9.results = some r ∧ ((okL own l → ∃ id j cap, r = .tup [.ptr id 0, .int .i64 0] ∧ AkR t id j cap own ((sortI l).map nbI) ∧ s.next ≤ id ∧ s.next ≤ j) ∧ (¬ okL own l → r = .tup [.nilp, .int .i64 2])) ∧ Keep s t) env s := by
  intro env hlen ha
  have h0 : E env 0 = _ := ha 0 _ rfl
  have h1 : E env 1 = _ := ha 1 _ rfl
  have hlen : elen env = _ := hlen
  simp only [a9] at hlen
  unfold a9
  try dsimp only [oO, oG]
  have q1 := q_repl false own (s := s)
  by_cases h0w : 1 ≤ own ∧ own ≤ 64
  rotate_left
  · have hno : ¬ okL own l := fun q => h0w q.1
    have hf : (decide (1 ≤ own) && decide (own ≤ 64)) = false := by
      rw [← Bool.decide_and]
      exact decide_eq_false h0w
    rw [hf] at q1
    have hKK := Keep.refl s
    simp (config := {contextual := true, maxDischargeDepth := 12}) only [tb_at, h0, h1, hlen, q1, decide_true, decide_false, Bool.not_true, Bool.not_false, bin_eql, bin_neq, ↓bD, bU, forall_const, bS, implies_true, isNx, eq_self, ↓wp_cond, ↓wp_loop, ↓reduceIte, reduceCtorEq, Nat.reduceEqDiff, Nat.reduceLT, Nat.reduceAdd, Nat.reduceMul, bT, ↓sg_bsl, ↓st_callf, bX, ap_mkfn, ap_conv, ↓wi_seq, ↓wi_base, ↓wi_block, ↓wi_cond, ↓wi_loop, ↓wi_rf, ↓wy_seq, ↓wy_base, ↓wy_block, ↓wy_cond, ↓wy_loop, ↓wy_yld, bin_shr1, q_known, ae_callvV, callvV_fn, List.append_nil, List.cons_append, List.nil_append, fs40, fs41, mmV_max2, ↓sg_callf3]
    all_goals first | exact ⟨_, rfl, ⟨fun q => absurd q hno, fun _ => rfl⟩, hKK⟩ | exact ⟨_, rfl, fun q => absurd q hno, fun _ => rfl⟩ | exact ⟨⟨fun q => absurd q hno, fun _ => rfl⟩, hKK⟩ | exact ⟨fun q => absurd q hno, fun _ => rfl⟩ | skip
  have ht : (decide (1 ≤ own) && decide (own ≤ 64)) = true := by
    rw [← Bool.decide_and]
    exact decide_eq_true h0w
  rw [ht] at q1
  have f0 := fsb0 (.int .i64 own) ⟨rfl, rfl⟩ (.int .i64 0) .nils
  have hbx := boxV_2b (a := .int .i64 own) (b := .nils) rfl rfl
  have hK0 : Keep s (s.push (.row [.int .i64 own, .nils] true)) := (Keep.refl s).push _
  have hg0 := St.get_push_new s (.row [.int .i64 own, .nils] true)
  obtain ⟨p, u1, q2, hp, hK1⟩ := q_Values (hK0.read hr)
  obtain ⟨lv, u, q3, hK2, hO1⟩ := acall_fresh (D := inC) (pSrt_low hp ((hK0.trans hK1).read hr) (by omega)) (fun x hx => by cases hx)
  have q3 : acall (conF inC pSrt) false [.fn 40 [.ptr p 0]] u1 = some (lv, u) := q3
  have hg1 := (hK1.trans hK2).blk hg0
  have hKu := (hK0.trans hK1).trans hK2
  have hlS := sortI_len l
  have hlv := lenV_read hO1.read
  simp (config := {contextual := true, maxDischargeDepth := 12}) only [tb_at, h0, h1, hlen, q1, ap_build, fillP_nil, fillP_cons, f0, hbx, q2, q3, hlv, decide_true, decide_false, Bool.not_true, Bool.not_false, bin_eql, bin_neq, ↓bD, bU, forall_const, bS, implies_true, isNx, eq_self, ↓wp_cond, ↓wp_loop, ↓reduceIte, reduceCtorEq, Nat.reduceEqDiff, Nat.reduceLT, Nat.reduceAdd, Nat.reduceMul, bT, ↓sg_bsl, ↓st_callf, bX, ap_mkfn, ap_conv, ↓wi_seq, ↓wi_base, ↓wi_block, ↓wi_cond, ↓wi_loop, ↓wi_rf, ↓wy_seq, ↓wy_base, ↓wy_block, ↓wy_cond, ↓wy_loop, ↓wy_yld, bin_shr1, q_known, ae_callvV, callvV_fn, List.append_nil, List.cons_append, List.nil_append, fs40, fs41, mmV_max2, ↓sg_callf3]
  have hib : s.next < u.next := St.get_lt hg1
  have hsep : lv = .nils ∨ bid lv ∉ [s.next] := by
    rcases hO1 with ⟨q, _⟩ | ⟨j, q, h5, h6, h7⟩
    · exact .inl q
    · refine .inr ?_
      subst q
      have hlt := St.get_lt (hK1.blk hg0)
      simp only [bid, List.mem_singleton]
      omega
  obtain ⟨I, hI⟩ : ∃ I : Nat → Env → St → Prop, ∀ n0 e t, I n0 e t = (∃ k w, n0 + k = (sortI l).length ∧ elen e = 60 ∧ E e 0 = .int .i64 own ∧ E e 6 = .ptr s.next 0 ∧ E e 7 = lv ∧ E e 19 = lv ∧ E e 20 = .int .i64 ((sortI l).length : Int) ∧ E e 21 = .int .i64 (k : Int) ∧ Chg [s.next] u t ∧ t.get s.next = some (.row [.int .i64 own, w] true) ∧ Own nbC u t w (((sortI l).take k).map nbI) ∧ (∀ x ∈ (sortI l).take k, (1 ≤ x ∧ x ≤ 64) ∧ x ≠ own) ∧ ((sortI l).take k).Pairwise (· < ·)) := ⟨fun n0 e t => (∃ k w, n0 + k = (sortI l).length ∧ elen e = 60 ∧ E e 0 = .int .i64 own ∧ E e 6 = .ptr s.next 0 ∧ E e 7 = lv ∧ E e 19 = lv ∧ E e 20 = .int .i64 ((sortI l).length : Int) ∧ E e 21 = .int .i64 (k : Int) ∧ Chg [s.next] u t ∧ t.get s.next = some (.row [.int .i64 own, w] true) ∧ Own nbC u t w (((sortI l).take k).map nbI) ∧ (∀ x ∈ (sortI l).take k, (1 ≤ x ∧ x ≤ 64) ∧ x ≠ own) ∧ ((sortI l).take k).Pairwise (· < ·)), fun _ _ _ => rfl⟩
  refine lwp_inv I (n := (sortI l).length) ?_ ?_
  · rw [hI]
    exact ⟨0, .nils, by omega, (by simp only [bE, Nat.reduceEqDiff, bN, Nat.reduceLT, hlen, h0, h1]; try rfl), (by simp only [bE, Nat.reduceEqDiff, bN, Nat.reduceLT, hlen, h0, h1]; try rfl), (by simp only [bE, Nat.reduceEqDiff, bN, Nat.reduceLT, hlen, h0, h1]; try rfl), (by simp only [bE, Nat.reduceEqDiff, bN, Nat.reduceLT, hlen, h0, h1]; try rfl), (by simp only [bE, Nat.reduceEqDiff, bN, Nat.reduceLT, hlen, h0, h1]; try rfl), (by simp only [bE, Nat.reduceEqDiff, bN, Nat.reduceLT, hlen, h0, h1]; try rfl), (by simp only [bE, Nat.reduceEqDiff, bN, Nat.reduceLT, hlen, h0, h1]; try rfl), Chg.refl _ _, hg1, .nil _ _ _, by simp, by simp⟩
  clear h0 h1 hlen q1 q2 q3 ha
  intro n0 e t hi
  rw [hI] at hi
  obtain ⟨k, w, hnk, he, e0, e6, e7, e19, e20, e21, hC, hbox, hO, hpre, hasc⟩ := hi
  have hKK : Keep s t := hKu.chgn hC (by simp)
  have hrd := read_chg hO1.read hC hsep
  by_cases hlt : k < (sortI l).length
  rotate_left
  · have hk : k = (sortI l).length := by omega
    rw [hk, List.take_length] at hO hpre hasc
    have hok : okL own l := okL_sort h0w hpre hasc
    have z1 := eq_false (show ¬ (k : Int) < ((sortI l).length : Int) by omega)
    obtain ⟨j, cap, hA, hj⟩ := hO.nwb.akr (s0 := s) (u := t) (id := s.next) (rep := own) (by omega) hbox (fun _ _ h _ => h) (by rw [List.length_map]; omega) (Nat.le_refl _)
    simp (config := {contextual := true, maxDischargeDepth := 12}) only [tb_at, he, e0, e6, e7, e19, e20, e21, z1, decide_true, decide_false, Bool.not_true, Bool.not_false, bin_eql, bin_neq, ↓bD, bU, forall_const, bS, implies_true, isNx, eq_self, ↓wp_cond, ↓wp_loop, ↓reduceIte, reduceCtorEq, Nat.reduceEqDiff, Nat.reduceLT, Nat.reduceAdd, Nat.reduceMul, bT, ↓sg_bsl, ↓st_callf, bX, ap_mkfn, ap_conv, ↓wi_seq, ↓wi_base, ↓wi_block, ↓wi_cond, ↓wi_loop, ↓wi_rf, ↓wy_seq, ↓wy_base, ↓wy_block, ↓wy_cond, ↓wy_loop, ↓wy_yld, bin_shr1, q_known, ae_callvV, callvV_fn, List.append_nil, List.cons_append, List.nil_append, fs40, fs41, mmV_max2, ↓sg_callf3]
    all_goals first | exact ⟨_, rfl, ⟨fun _ => ⟨_, _, _, rfl, hA, Nat.le_refl _, hj⟩, fun q => absurd hok q⟩, hKK⟩ | exact ⟨_, rfl, fun _ => ⟨_, _, _, rfl, hA, Nat.le_refl _, hj⟩, fun q => absurd hok q⟩ | exact ⟨⟨fun _ => ⟨_, _, _, rfl, hA, Nat.le_refl _, hj⟩, fun q => absurd hok q⟩, hKK⟩ | exact ⟨fun _ => ⟨_, _, _, rfl, hA, Nat.le_refl _, hj⟩, fun q => absurd hok q⟩ | skip
  have z1 := eq_true (show (k : Int) < ((sortI l).length : Int) by omega)
  obtain ⟨b, hb⟩ := getsome hlt
  obtain ⟨i1, i2, i3⟩ := in_lods hrd hb
  have q4 := q_repl false b (s := t)
  have hbm : b ∈ l := (sortI_perm l).mem_iff.1 (List.mem_of_getElem? hb)
  by_cases c1 : 1 ≤ b ∧ b ≤ 64
  rotate_left
  · have hno : ¬ okL own l := fun q => c1 (q.2.1 b hbm).1
    rw [show (decide (1 ≤ b) && decide (b ≤ 64)) = false by rw [← Bool.decide_and]; exact decide_eq_false c1] at q4
    simp (config := {contextual := true, maxDischargeDepth := 12}) only [tb_at, he, e0, e6, e7, e19, e20, e21, z1, i1, i2, i3, q4, notV_bool, pickV_t, pickV_f, decide_true, decide_false, Bool.not_true, Bool.not_false, bin_eql, bin_neq, ↓bD, bU, forall_const, bS, implies_true, isNx, eq_self, ↓wp_cond, ↓wp_loop, ↓reduceIte, reduceCtorEq, Nat.reduceEqDiff, Nat.reduceLT, Nat.reduceAdd, Nat.reduceMul, bT, ↓sg_bsl, ↓st_callf, bX, ap_mkfn, ap_conv, ↓wi_seq, ↓wi_base, ↓wi_block, ↓wi_cond, ↓wi_loop, ↓wi_rf, ↓wy_seq, ↓wy_base, ↓wy_block, ↓wy_cond, ↓wy_loop, ↓wy_yld, bin_shr1, q_known, ae_callvV, callvV_fn, List.append_nil, List.cons_append, List.nil_append, fs40, fs41, mmV_max2, ↓sg_callf3]
    all_goals first | exact ⟨_, rfl, ⟨fun q => absurd q hno, fun _ => rfl⟩, hKK⟩ | exact ⟨_, rfl, fun q => absurd q hno, fun _ => rfl⟩ | exact ⟨⟨fun q => absurd q hno, fun _ => rfl⟩, hKK⟩ | exact ⟨fun q => absurd q hno, fun _ => rfl⟩ | skip
  rw [show (decide (1 ≤ b) && decide (b ≤ 64)) = true by rw [← Bool.decide_and]; exact decide_eq_true c1] at q4
  by_cases c2 : b = own
  · have hno : ¬ okL own l := fun q => (q.2.1 b hbm).2 c2
    have z2 := eq_true c2
    simp (config := {contextual := true, maxDischargeDepth := 12}) only [tb_at, he, e0, e6, e7, e19, e20, e21, z1, z2, i1, i2, i3, q4, notV_bool, pickV_t, pickV_f, decide_true, decide_false, Bool.not_true, Bool.not_false, bin_eql, bin_neq, ↓bD, bU, forall_const, bS, implies_true, isNx, eq_self, ↓wp_cond, ↓wp_loop, ↓reduceIte, reduceCtorEq, Nat.reduceEqDiff, Nat.reduceLT, Nat.reduceAdd, Nat.reduceMul, bT, ↓sg_bsl, ↓st_callf, bX, ap_mkfn, ap_conv, ↓wi_seq, ↓wi_base, ↓wi_block, ↓wi_cond, ↓wi_loop, ↓wi_rf, ↓wy_seq, ↓wy_base, ↓wy_block, ↓wy_cond, ↓wy_loop, ↓wy_yld, bin_shr1, q_known, ae_callvV, callvV_fn, List.append_nil, List.cons_append, List.nil_append, fs40, fs41, mmV_max2, ↓sg_callf3]
    all_goals first | exact ⟨_, rfl, ⟨fun q => absurd q hno, fun _ => rfl⟩, hKK⟩ | exact ⟨_, rfl, fun q => absurd q hno, fun _ => rfl⟩ | exact ⟨⟨fun q => absurd q hno, fun _ => rfl⟩, hKK⟩ | exact ⟨fun q => absurd q hno, fun _ => rfl⟩ | skip
  have z2 := eq_false c2
  have hbxb : bslV [.int .i64 0, .int .i64 0, .int .i64 0, .int .i64 0] 1 4 [(0, .agg [.int .i64 b, .int .i64 0, .int .i64 0, .int .i64 0])] = some (fun id => .sl id 0 1 (some 1) 4, .row [.int .i64 b, .int .i64 0, .int .i64 0, .int .i64 0] true) := rfl
  have ff0 : ∀ K : List AV → Option (List AV), fstep [.int .i64 0, .int .i64 0, .int .i64 0, .int .i64 0] 0 1 (.int .i64 b) K = K [.int .i64 b, .int .i64 0, .int .i64 0, .int .i64 0] := fun K => rfl
  have ff1 : ∀ K : List AV → Option (List AV), fstep [.int .i64 0, .int .i64 0, .int .i64 0, .int .i64 0] 0 4 (.agg [.int .i64 b, .int .i64 0, .int .i64 0, .int .i64 0]) K = K [.int .i64 b, .int .i64 0, .int .i64 0, .int .i64 0] := fun K => rfl
  obtain ⟨b0, b1, blt⟩ := row2_lod hbox
  obtain ⟨w', u', hap, hst, hlt', hC', hbox', hO'⟩ := box_app hC hbox hib hO (nbI b) (by rw [List.length_map, List.length_take]; omega)
  have hap : appV (t.push (.row [.int .i64 b, .int .i64 0, .int .i64 0, .int .i64 0] true)) 4 32 w (.sl t.next 0 1 (some 1) 4) = some (w', u') := hap
  have hb0 : lod1 (t.push (.row [.int .i64 b, .int .i64 0, .int .i64 0, .int .i64 0] true)) (.ptr s.next 1) = some w := (row2_lod (get_push_some _ hbox)).2.1
  have hw2 := wrap_add1 (n := k) (by omega)
  have htk : (sortI l).take (k + 1) = (sortI l).take k ++ [b] := by rw [List.take_add_one, hb]; rfl
  have hOn : Own nbC u (u'.put s.next (.row [.int .i64 own, w'] true)) w' (((sortI l).take (k + 1)).map nbI) := by
    rw [htk, List.map_append]
    exact hO'
  have hpre' : ∀ x ∈ (sortI l).take (k + 1), (1 ≤ x ∧ x ≤ 64) ∧ x ≠ own := fun x hx => by
    rw [htk] at hx
    rcases List.mem_append.1 hx with q | q
    · exact hpre x q
    · rw [List.mem_singleton] at q
      subst q
      exact ⟨c1, c2⟩
  by_cases c3 : 0 < k
  rotate_left
  · have z3 := eq_false (show ¬ (0 : Int) < (k : Int) by omega)
    have hasc' : ((sortI l).take (k + 1)).Pairwise (· < ·) := asc_snoc hasc hb (fun c h => absurd h c3)
    simp (config := {contextual := true, maxDischargeDepth := 12}) only [tb_at, he, e0, e6, e7, e19, e20, e21, z1, z2, z3, i1, i2, i3, q4, b0, b1, blt, ap_build, fillP_nil, fillP_cons, ff0, ff1, aa_bsl1, hbxb, hap, hst, hlt', hb0, hw2, nchkV_ptr, notV_bool, pickV_t, pickV_f, decide_true, decide_false, Bool.not_true, Bool.not_false, bin_eql, bin_neq, ↓bD, bU, forall_const, bS, implies_true, isNx, eq_self, ↓wp_cond, ↓wp_loop, ↓reduceIte, reduceCtorEq, Nat.reduceEqDiff, Nat.reduceLT, Nat.reduceAdd, Nat.reduceMul, bT, ↓sg_bsl, ↓st_callf, bX, ap_mkfn, ap_conv, ↓wi_seq, ↓wi_base, ↓wi_block, ↓wi_cond, ↓wi_loop, ↓wi_rf, ↓wy_seq, ↓wy_base, ↓wy_block, ↓wy_cond, ↓wy_loop, ↓wy_yld, bin_shr1, q_known, ae_callvV, callvV_fn, List.append_nil, List.cons_append, List.nil_append, fs40, fs41, mmV_max2, ↓sg_callf3]
    refine ⟨n0 - 1, by omega, ?_⟩
    rw [hI]
    exact ⟨k + 1, w', by omega, (by simp only [bE, Nat.reduceEqDiff, bN, Nat.reduceLT, he, e0, e6, e7, e19, e20, e21]; try rfl), (by simp only [bE, Nat.reduceEqDiff, bN, Nat.reduceLT, he, e0, e6, e7, e19, e20, e21]; try rfl), (by simp only [bE, Nat.reduceEqDiff, bN, Nat.reduceLT, he, e0, e6, e7, e19, e20, e21]; try rfl), (by simp only [bE, Nat.reduceEqDiff, bN, Nat.reduceLT, he, e0, e6, e7, e19, e20, e21]; try rfl), (by simp only [bE, Nat.reduceEqDiff, bN, Nat.reduceLT, he, e0, e6, e7, e19, e20, e21]; try rfl), (by simp only [bE, Nat.reduceEqDiff, bN, Nat.reduceLT, he, e0, e6, e7, e19, e20, e21]; try rfl), (by simp only [bE, Nat.reduceEqDiff, bN, Nat.reduceLT, he, e0, e6, e7, e19, e20, e21]; try rfl), hC', hbox', hOn, hpre', hasc'⟩
  have z3 := eq_true (show (0 : Int) < (k : Int) by omega)
  obtain ⟨c, hc⟩ := getsome (show k - 1 < (sortI l).length by omega)
  have hwk : IntKind.i64.wrap ((k : Int) - 1) = ((k - 1 : Nat) : Int) := by
    rw [show (k : Int) - 1 = ((k - 1 : Nat) : Int) by omega]
    exact wrapI (by omega) (by omega)
  obtain ⟨j1, j2, j3⟩ := in_lods hrd hc
  have hcb := sorted_le (sortI_sorted l) hc hb (by omega)
  by_cases c4 : c = b
  · subst c4
    have hno : ¬ okL own l := fun q => nodup_ne ((sortI_perm l).nodup_iff.2 q.2.2) hc hb (by omega)
    simp (config := {contextual := true, maxDischargeDepth := 12}) only [tb_at, he, e0, e6, e7, e19, e20, e21, z1, z2, z3, i1, i2, i3, hwk, j1, j2, j3, q4, notV_bool, pickV_t, pickV_f, decide_true, decide_false, Bool.not_true, Bool.not_false, bin_eql, bin_neq, ↓bD, bU, forall_const, bS, implies_true, isNx, eq_self, ↓wp_cond, ↓wp_loop, ↓reduceIte, reduceCtorEq, Nat.reduceEqDiff, Nat.reduceLT, Nat.reduceAdd, Nat.reduceMul, bT, ↓sg_bsl, ↓st_callf, bX, ap_mkfn, ap_conv, ↓wi_seq, ↓wi_base, ↓wi_block, ↓wi_cond, ↓wi_loop, ↓wi_rf, ↓wy_seq, ↓wy_base, ↓wy_block, ↓wy_cond, ↓wy_loop, ↓wy_yld, bin_shr1, q_known, ae_callvV, callvV_fn, List.append_nil, List.cons_append, List.nil_append, fs40, fs41, mmV_max2, ↓sg_callf3]
    all_goals first | exact ⟨_, rfl, ⟨fun q => absurd q hno, fun _ => rfl⟩, hKK⟩ | exact ⟨_, rfl, fun q => absurd q hno, fun _ => rfl⟩ | exact ⟨⟨fun q => absurd q hno, fun _ => rfl⟩, hKK⟩ | exact ⟨fun q => absurd q hno, fun _ => rfl⟩ | skip
  have z4 := eq_false c4
  have hasc' : ((sortI l).take (k + 1)).Pairwise (· < ·) := asc_snoc hasc hb (fun d _ hd => by
    rw [hc] at hd
    injection hd with hd
    omega)
  simp (config := {contextual := true, maxDischargeDepth := 12}) only [tb_at, he, e0, e6, e7, e19, e20, e21, z1, z2, z3, z4, i1, i2, i3, hwk, j1, j2, j3, q4, b0, b1, blt, ap_build, fillP_nil, fillP_cons, ff0, ff1, aa_bsl1, hbxb, hap, hst, hlt', hb0, hw2, nchkV_ptr, notV_bool, pickV_t, pickV_f, decide_true, decide_false, Bool.not_true, Bool.not_false, bin_eql, bin_neq, ↓bD, bU, forall_const, bS, implies_true, isNx, eq_self, ↓wp_cond, ↓wp_loop, ↓reduceIte, reduceCtorEq, Nat.reduceEqDiff, Nat.reduceLT, Nat.reduceAdd, Nat.reduceMul, bT, ↓sg_bsl, ↓st_callf, bX, ap_mkfn, ap_conv, ↓wi_seq, ↓wi_base, ↓wi_block, ↓wi_cond, ↓wi_loop, ↓wi_rf, ↓wy_seq, ↓wy_base, ↓wy_block, ↓wy_cond, ↓wy_loop, ↓wy_yld, bin_shr1, q_known, ae_callvV, callvV_fn, List.append_nil, List.cons_append, List.nil_append, fs40, fs41, mmV_max2, ↓sg_callf3]
  refine ⟨n0 - 1, by omega, ?_⟩
  rw [hI]
  exact ⟨k + 1, w', by omega, (by simp only [bE, Nat.reduceEqDiff, bN, Nat.reduceLT, he, e0, e6, e7, e19, e20, e21]; try rfl), (by simp only [bE, Nat.reduceEqDiff, bN, Nat.reduceLT, he, e0, e6, e7, e19, e20, e21]; try rfl), (by simp only [bE, Nat.reduceEqDiff, bN, Nat.reduceLT, he, e0, e6, e7, e19, e20, e21]; try rfl), (by simp only [bE, Nat.reduceEqDiff, bN, Nat.reduceLT, he, e0, e6, e7, e19, e20, e21]; try rfl), (by simp only [bE, Nat.reduceEqDiff, bN, Nat.reduceLT, he, e0, e6, e7, e19, e20, e21]; try rfl), (by simp only [bE, Nat.reduceEqDiff, bN, Nat.reduceLT, he, e0, e6, e7, e19, e20, e21]; try rfl), (by simp only [bE, Nat.reduceEqDiff, bN, Nat.reduceLT, he, e0, e6, e7, e19, e20, e21]; try rfl), hC', hbox', hOn, hpre', hasc'⟩

end Go.AM
end
/-
  New of the reference. Own work of this project; in part printed by a program of it.
-/
section
set_option maxRecDepth 100000
set_option maxHeartbeats 8000000
namespace Go.AM
open Go Go.Proofs

variable {s t u : St}
theorem q_New {s : St} {nv : AV} {own : Int} {l : List Int} (hr : AM.read inC s nv = some l) (hl : l.length ≤ 100) : ∃ r t, acall R_New false [.int .i64 own, nv] s = some (r, t) ∧ ((okL own l → ∃ id j cap, r = .tup [.ptr id 0, .int .i64 0] ∧ AkR t id j cap own ((sortI l).map nbI) ∧ s.next ≤ id ∧ s.next ≤ j) ∧ (¬ okL own l → r = .tup [.nilp, .int .i64 2])) ∧ Keep s t :=
  run_any n_New (args := [.int .i64 own, nv]) (Q := (fun r t => (okL own l → ∃ id j cap, r = .tup [.ptr id 0, .int .i64 0] ∧ AkR t id j cap own ((sortI l).map nbI) ∧ s.next ≤ id ∧ s.next ≤ j) ∧ (¬ okL own l → r = .tup [.nilp, .int .i64 2]))) (by simp [a9]) (fun r t t' hg hn ⟨h1, h2⟩ => ⟨fun q => by
    obtain ⟨id, j, cap, e, h, h4, h5⟩ := h1 q
    exact ⟨id, j, cap, e, ⟨by rw [hg]; exact h.box, fun q => by rw [hg]; exact h.dat q, h.hcap, h.hn, by rw [hn]; exact h.jlt⟩, h4, h5⟩, h2⟩) (fun r t hgr hk ⟨h1, h2⟩ => ⟨fun q => by
    obtain ⟨id, j, cap, e, _⟩ := h1 q
    rw [e] at hgr
    simp [AV.ground, AV.plain, AV.plains] at hgr, h2⟩) (w_New (s := lowd s) (read_low' hr) hl)
theorem count_take {l : List Int} {i : Nat} {b : Int} (h : l[i]? = some b) (n : Int) : (l.take (i + 1)).count n = (l.take i).count n + (if b = n then 1 else 0) := by
  rw [List.take_add_one, h, List.count_append]
  show _ + List.count n [b] = _
  rw [List.count_singleton]
  by_cases e : b = n
  · subst e; simp
  · rw [if_neg e, if_neg (by simpa using e)]
theorem fI_len (l : List Int) : ∀ k, (fI l k).length ≤ k
  | 0 => by simp [fI]
  | k + 1 => by
    unfold fI
    have := fI_len l k
    split
    · simp; omega
    · omega
noncomputable def R_RNew : Con := runFn (tb []) a10
theorem s_RNew : SoundAt Try.prog 10 R_RNew := run_sound (tb_sound (l := []) (by simp)) mixed Try.func10 k10 c10
theorem n_RNew : noNxtC a10.body = true := by kernel_rfl
theorem w_RNew {s : St} {nv : AV} {own : Int} {l : List Int} (hr : AM.read inC s nv = some l) (hl : l.length ≤ 100) : ∀ env : Env, elen env = a10.ntmps → (∀ i x_, [.int .i64 own, nv][i]? = some x_ → E env i = x_) → awp (tb []) a10.body (fun x e t => (∀ i, x ≠ .exit i) ∧ ∃ r, aresults e t a10.results = some r ∧ ((okL own l → ∃ id j cap, r = .tup [.ptr id 0, .int .i64 0] ∧ AkR t id j cap own ((sortI l).map nbI) ∧ s.next ≤ id ∧ s.next ≤ j) ∧ (¬ okL own l → r = .tup [.nilp, .int .i64 2])) ∧ Keep s t) env s := by
  intro env hlen ha
  have h0 : E env 0 = _ := ha 0 _ rfl
  have h1 : E env 1 = _ := ha 1 _ rfl
  have hlen : elen env = _ := hlen
  simp only [a10] at hlen
  unfold a10
  try dsimp only [oO, oG]
  have hKK := Keep.refl s
  by_cases h0a : own < 1
  · have hno : ¬ okL own l := fun q => by have := q.1; omega
    have z0 := eq_true h0a
    simp (config := {contextual := true, maxDischargeDepth := 12}) only [tb_at, h0, h1, hlen, z0, ap_build, fillP_nil, fillP_cons, nchkV_ptr, notV_bool, pickV_t, pickV_f, decide_true, decide_false, Bool.not_true, Bool.not_false, bin_eql, bin_neq, ↓bD, bU, forall_const, bS, implies_true, isNx, eq_self, ↓wp_cond, ↓wp_loop, ↓reduceIte, reduceCtorEq, Nat.reduceEqDiff, Nat.reduceLT, Nat.reduceAdd, Nat.reduceMul, bT, ↓sg_bsl, ↓st_callf, bX, ap_mkfn, ap_conv, ↓wi_seq, ↓wi_base, ↓wi_block, ↓wi_cond, ↓wi_loop, ↓wi_rf, ↓wy_seq, ↓wy_base, ↓wy_block, ↓wy_cond, ↓wy_loop, ↓wy_yld, bin_shr1, q_known, ae_callvV, callvV_fn, List.append_nil, List.cons_append, List.nil_append, fs40, fs41, mmV_max2, ↓sg_callf3]
    all_goals first | exact ⟨_, rfl, ⟨fun q => absurd q hno, fun _ => rfl⟩, hKK⟩ | exact ⟨_, rfl, fun q => absurd q hno, fun _ => rfl⟩ | exact ⟨⟨fun q => absurd q hno, fun _ => rfl⟩, hKK⟩ | exact ⟨fun q => absurd q hno, fun _ => rfl⟩ | skip
  have z0 := eq_false h0a
  by_cases h0b : 64 < own
  · have hno : ¬ okL own l := fun q => by have := q.1; omega
    have z0' := eq_true h0b
    simp (config := {contextual := true, maxDischargeDepth := 12}) only [tb_at, h0, h1, hlen, z0, z0', ap_build, fillP_nil, fillP_cons, nchkV_ptr, notV_bool, pickV_t, pickV_f, decide_true, decide_false, Bool.not_true, Bool.not_false, bin_eql, bin_neq, ↓bD, bU, forall_const, bS, implies_true, isNx, eq_self, ↓wp_cond, ↓wp_loop, ↓reduceIte, reduceCtorEq, Nat.reduceEqDiff, Nat.reduceLT, Nat.reduceAdd, Nat.reduceMul, bT, ↓sg_bsl, ↓st_callf, bX, ap_mkfn, ap_conv, ↓wi_seq, ↓wi_base, ↓wi_block, ↓wi_cond, ↓wi_loop, ↓wi_rf, ↓wy_seq, ↓wy_base, ↓wy_block, ↓wy_cond, ↓wy_loop, ↓wy_yld, bin_shr1, q_known, ae_callvV, callvV_fn, List.append_nil, List.cons_append, List.nil_append, fs40, fs41, mmV_max2, ↓sg_callf3]
    all_goals first | exact ⟨_, rfl, ⟨fun q => absurd q hno, fun _ => rfl⟩, hKK⟩ | exact ⟨_, rfl, fun q => absurd q hno, fun _ => rfl⟩ | exact ⟨⟨fun q => absurd q hno, fun _ => rfl⟩, hKK⟩ | exact ⟨fun q => absurd q hno, fun _ => rfl⟩ | skip
  have z0' := eq_false h0b
  have h0w : 1 ≤ own ∧ own ≤ 64 := by omega
  clear hKK
  have f0 := fsb0 (.int .i64 own) ⟨rfl, rfl⟩ (.int .i64 0) .nils
  have hbx := boxV_2b (a := .int .i64 own) (b := .nils) rfl rfl
  have hK0 : Keep s (s.push (.row [.int .i64 own, .nils] true)) := (Keep.refl s).push _
  have hg0 := St.get_push_new s (.row [.int .i64 own, .nils] true)
  obtain ⟨u, hu⟩ : ∃ u, u = s.push (.row [.int .i64 own, .nils] true) := ⟨_, rfl⟩
  simp (config := {contextual := true, maxDischargeDepth := 12}) only [tb_at, h0, h1, hlen, z0, z0', f0, hbx, ← hu, ap_build, fillP_nil, fillP_cons, nchkV_ptr, notV_bool, pickV_t, pickV_f, decide_true, decide_false, Bool.not_true, Bool.not_false, bin_eql, bin_neq, ↓bD, bU, forall_const, bS, implies_true, isNx, eq_self, ↓wp_cond, ↓wp_loop, ↓reduceIte, reduceCtorEq, Nat.reduceEqDiff, Nat.reduceLT, Nat.reduceAdd, Nat.reduceMul, bT, ↓sg_bsl, ↓st_callf, bX, ap_mkfn, ap_conv, ↓wi_seq, ↓wi_base, ↓wi_block, ↓wi_cond, ↓wi_loop, ↓wi_rf, ↓wy_seq, ↓wy_base, ↓wy_block, ↓wy_cond, ↓wy_loop, ↓wy_yld, bin_shr1, q_known, ae_callvV, callvV_fn, List.append_nil, List.cons_append, List.nil_append, fs40, fs41, mmV_max2, ↓sg_callf3]
  rw [← hu] at hK0 hg0
  have hib : s.next < u.next := St.get_lt hg0
  obtain ⟨I, hI⟩ : ∃ I : Nat → Env → St → Prop, ∀ n0 e t, I n0 e t = (∃ (k : Nat) (w : AV), n0 + k = 64 ∧ elen e = 70 ∧ E e 0 = .int .i64 own ∧ E e 1 = nv ∧ E e 6 = .ptr s.next 0 ∧ E e 7 = .int .i64 ((k : Int) + 1) ∧ Chg [s.next] u t ∧ t.get s.next = some (.row [.int .i64 own, w] true) ∧ Own nbC u t w ((fI l k).map nbI) ∧ (∀ n : Int, 1 ≤ n → n ≤ k → ¬ (l.count n = 1 ∧ n = own))) := ⟨fun n0 e t => (∃ (k : Nat) (w : AV), n0 + k = 64 ∧ elen e = 70 ∧ E e 0 = .int .i64 own ∧ E e 1 = nv ∧ E e 6 = .ptr s.next 0 ∧ E e 7 = .int .i64 ((k : Int) + 1) ∧ Chg [s.next] u t ∧ t.get s.next = some (.row [.int .i64 own, w] true) ∧ Own nbC u t w ((fI l k).map nbI) ∧ (∀ n : Int, 1 ≤ n → n ≤ k → ¬ (l.count n = 1 ∧ n = own))), fun _ _ _ => rfl⟩
  refine lwp_inv I (n := 64) ?_ ?_
  · rw [hI]
    exact ⟨0, .nils, by omega, (by simp only [bE, Nat.reduceEqDiff, bN, Nat.reduceLT, hlen, h0, h1]; try rfl), (by simp only [bE, Nat.reduceEqDiff, bN, Nat.reduceLT, hlen, h0, h1]; try rfl), (by simp only [bE, Nat.reduceEqDiff, bN, Nat.reduceLT, hlen, h0, h1]; try rfl), (by simp only [bE, Nat.reduceEqDiff, bN, Nat.reduceLT, hlen, h0, h1]; try rfl), (by simp only [bE, Nat.reduceEqDiff, bN, Nat.reduceLT, hlen, h0, h1]; try rfl), Chg.refl _ _, hg0, .nil _ _ _, fun n h1 h2 => by omega⟩
  clear h0 h1 hlen ha hu
  intro n0 e t hi
  rw [hI] at hi
  obtain ⟨k, w, hnk, he, e0, e1, e6, e7, hC, hbox, hO, hpre⟩ := hi
  have hKK : Keep s t := hK0.chgn hC (by simp)
  have hrd := hKK.read hr
  have hlv := lenV_read hrd
  have hwl := lenV_read hO.read
  rw [List.length_map] at hwl
  have hfl := fI_len l k
  obtain ⟨b0, b1, blt⟩ := row2_lod hbox
  by_cases hlt : k < 64
  rotate_left
  · obtain rfl : k = 64 := by omega
    have z1 := eq_false (show ¬ ((64 : Nat) : Int) + 1 ≤ 64 by omega)
    by_cases hle : (fI l 64).length = l.length
    · have hok : okL own l := fI_ok h0w hpre hle
      have z2 := eq_true (show ((fI l 64).length : Int) = (l.length : Int) by omega)
      rw [ok_fI hok] at hO
      obtain ⟨j, cap, hA, hj⟩ := hO.nwb.akr (s0 := s) (u := t) (id := s.next) (rep := own) (by omega) hbox (fun _ _ h _ => h) (by rw [List.length_map, sortI_len]; omega) (Nat.le_refl _)
      simp (config := {contextual := true, maxDischargeDepth := 12}) only [tb_at, he, e0, e1, e6, e7, z1, z2, b0, b1, blt, hlv, hwl, ap_build, fillP_nil, fillP_cons, nchkV_ptr, notV_bool, pickV_t, pickV_f, decide_true, decide_false, Bool.not_true, Bool.not_false, bin_eql, bin_neq, ↓bD, bU, forall_const, bS, implies_true, isNx, eq_self, ↓wp_cond, ↓wp_loop, ↓reduceIte, reduceCtorEq, Nat.reduceEqDiff, Nat.reduceLT, Nat.reduceAdd, Nat.reduceMul, bT, ↓sg_bsl, ↓st_callf, bX, ap_mkfn, ap_conv, ↓wi_seq, ↓wi_base, ↓wi_block, ↓wi_cond, ↓wi_loop, ↓wi_rf, ↓wy_seq, ↓wy_base, ↓wy_block, ↓wy_cond, ↓wy_loop, ↓wy_yld, bin_shr1, q_known, ae_callvV, callvV_fn, List.append_nil, List.cons_append, List.nil_append, fs40, fs41, mmV_max2, ↓sg_callf3]
      all_goals first | exact ⟨_, rfl, ⟨fun _ => ⟨_, _, _, rfl, hA, Nat.le_refl _, hj⟩, fun q => absurd hok q⟩, hKK⟩ | exact ⟨_, rfl, fun _ => ⟨_, _, _, rfl, hA, Nat.le_refl _, hj⟩, fun q => absurd hok q⟩ | exact ⟨⟨fun _ => ⟨_, _, _, rfl, hA, Nat.le_refl _, hj⟩, fun q => absurd hok q⟩, hKK⟩ | exact ⟨fun _ => ⟨_, _, _, rfl, hA, Nat.le_refl _, hj⟩, fun q => absurd hok q⟩ | skip
    have hno : ¬ okL own l := fun q => hle (by rw [ok_fI q, sortI_len])
    have z2 := eq_false (show ¬ ((fI l 64).length : Int) = (l.length : Int) by omega)
    simp (config := {contextual := true, maxDischargeDepth := 12}) only [tb_at, he, e0, e1, e6, e7, z1, z2, b0, b1, blt, hlv, hwl, ap_build, fillP_nil, fillP_cons, nchkV_ptr, notV_bool, pickV_t, pickV_f, decide_true, decide_false, Bool.not_true, Bool.not_false, bin_eql, bin_neq, ↓bD, bU, forall_const, bS, implies_true, isNx, eq_self, ↓wp_cond, ↓wp_loop, ↓reduceIte, reduceCtorEq, Nat.reduceEqDiff, Nat.reduceLT, Nat.reduceAdd, Nat.reduceMul, bT, ↓sg_bsl, ↓st_callf, bX, ap_mkfn, ap_conv, ↓wi_seq, ↓wi_base, ↓wi_block, ↓wi_cond, ↓wi_loop, ↓wi_rf, ↓wy_seq, ↓wy_base, ↓wy_block, ↓wy_cond, ↓wy_loop, ↓wy_yld, bin_shr1, q_known, ae_callvV, callvV_fn, List.append_nil, List.cons_append, List.nil_append, fs40, fs41, mmV_max2, ↓sg_callf3]
    all_goals first | exact ⟨_, rfl, ⟨fun q => absurd q hno, fun _ => rfl⟩, hKK⟩ | exact ⟨_, rfl, fun q => absurd q hno, fun _ => rfl⟩ | exact ⟨⟨fun q => absurd q hno, fun _ => rfl⟩, hKK⟩ | exact ⟨fun q => absurd q hno, fun _ => rfl⟩ | skip
  have z1 := eq_true (show (k : Int) + 1 ≤ 64 by omega)
  have hc0 : (l.take 0).count ((k : Int) + 1) = 0 := by simp
  simp (config := {contextual := true, maxDischargeDepth := 12}) only [tb_at, he, e0, e1, e6, e7, z1, ap_build, fillP_nil, fillP_cons, nchkV_ptr, notV_bool, pickV_t, pickV_f, decide_true, decide_false, Bool.not_true, Bool.not_false, bin_eql, bin_neq, ↓bD, bU, forall_const, bS, implies_true, isNx, eq_self, ↓wp_cond, ↓wp_loop, ↓reduceIte, reduceCtorEq, Nat.reduceEqDiff, Nat.reduceLT, Nat.reduceAdd, Nat.reduceMul, bT, ↓sg_bsl, ↓st_callf, bX, ap_mkfn, ap_conv, ↓wi_seq, ↓wi_base, ↓wi_block, ↓wi_cond, ↓wi_loop, ↓wi_rf, ↓wy_seq, ↓wy_base, ↓wy_block, ↓wy_cond, ↓wy_loop, ↓wy_yld, bin_shr1, q_known, ae_callvV, callvV_fn, List.append_nil, List.cons_append, List.nil_append, fs40, fs41, mmV_max2, ↓sg_callf3]
  obtain ⟨J, hJ⟩ : ∃ J : Nat → Env → St → Prop, ∀ n1 e y_, J n1 e y_ = (∃ i : Nat, n1 + i = l.length ∧ y_ = t ∧ elen e = 70 ∧ E e 0 = .int .i64 own ∧ E e 1 = nv ∧ E e 6 = .ptr s.next 0 ∧ E e 7 = .int .i64 ((k : Int) + 1) ∧ E e 8 = .int .i64 (((l.take i).count ((k : Int) + 1) : Nat) : Int) ∧ E e 9 = .int .i64 (i : Int)) := ⟨fun n1 e y_ => (∃ i : Nat, n1 + i = l.length ∧ y_ = t ∧ elen e = 70 ∧ E e 0 = .int .i64 own ∧ E e 1 = nv ∧ E e 6 = .ptr s.next 0 ∧ E e 7 = .int .i64 ((k : Int) + 1) ∧ E e 8 = .int .i64 (((l.take i).count ((k : Int) + 1) : Nat) : Int) ∧ E e 9 = .int .i64 (i : Int)), fun _ _ _ => rfl⟩
  refine lwp_inv J (n := l.length) ?_ ?_
  · rw [hJ]
    exact ⟨0, by omega, rfl, (by simp only [bE, Nat.reduceEqDiff, bN, Nat.reduceLT, he, e0, e1, e6, e7]; try rfl), (by simp only [bE, Nat.reduceEqDiff, bN, Nat.reduceLT, he, e0, e1, e6, e7]; try rfl), (by simp only [bE, Nat.reduceEqDiff, bN, Nat.reduceLT, he, e0, e1, e6, e7]; try rfl), (by simp only [bE, Nat.reduceEqDiff, bN, Nat.reduceLT, he, e0, e1, e6, e7]; try rfl), (by simp only [bE, Nat.reduceEqDiff, bN, Nat.reduceLT, he, e0, e1, e6, e7]; try rfl), (by rw [hc0]; simp only [bE, Nat.reduceEqDiff, bN, Nat.reduceLT, he, e0, e1, e6, e7]; try rfl), (by simp only [bE, Nat.reduceEqDiff, bN, Nat.reduceLT, he, e0, e1, e6, e7]; try rfl)⟩
  clear he e0 e1 e6 e7
  intro n1 e y_ hj
  rw [hJ] at hj
  obtain ⟨i, hni, rfl, he, e0, e1, e6, e7, e8, e9⟩ := hj
  have hcl : ∀ i, (l.take i).count ((k : Int) + 1) ≤ 100 := fun i => Nat.le_trans (List.count_le_length) (by rw [List.length_take]; omega)
  have hcli := hcl i
  by_cases hit : i < l.length
  · obtain ⟨b, hb⟩ := getsome hit
    obtain ⟨i1, i2, i3⟩ := in_lods hrd hb
    have z2 := eq_true (show (i : Int) < (l.length : Int) by omega)
    have hw2 := wrap_add1 (n := i) (by omega)
    have hct := count_take hb ((k : Int) + 1)
    by_cases hbn : b = (k : Int) + 1
    · rw [if_pos hbn] at hct
      have z3 := eq_true hbn
      have hw3 := wrap_add1 (n := (l.take i).count ((k : Int) + 1)) (by omega)
      simp (config := {contextual := true, maxDischargeDepth := 12}) only [tb_at, he, e0, e1, e6, e7, e8, e9, hlv, z2, z3, i1, i2, i3, hw2, hw3, ap_build, fillP_nil, fillP_cons, nchkV_ptr, notV_bool, pickV_t, pickV_f, decide_true, decide_false, Bool.not_true, Bool.not_false, bin_eql, bin_neq, ↓bD, bU, forall_const, bS, implies_true, isNx, eq_self, ↓wp_cond, ↓wp_loop, ↓reduceIte, reduceCtorEq, Nat.reduceEqDiff, Nat.reduceLT, Nat.reduceAdd, Nat.reduceMul, bT, ↓sg_bsl, ↓st_callf, bX, ap_mkfn, ap_conv, ↓wi_seq, ↓wi_base, ↓wi_block, ↓wi_cond, ↓wi_loop, ↓wi_rf, ↓wy_seq, ↓wy_base, ↓wy_block, ↓wy_cond, ↓wy_loop, ↓wy_yld, bin_shr1, q_known, ae_callvV, callvV_fn, List.append_nil, List.cons_append, List.nil_append, fs40, fs41, mmV_max2, ↓sg_callf3]
      refine ⟨n1 - 1, by omega, ?_⟩
      rw [hJ]
      exact ⟨i + 1, by omega, rfl, (by simp only [bE, Nat.reduceEqDiff, bN, Nat.reduceLT, he, e0, e1, e6, e7, e8, e9]; try rfl), (by simp only [bE, Nat.reduceEqDiff, bN, Nat.reduceLT, he, e0, e1, e6, e7, e8, e9]; try rfl), (by simp only [bE, Nat.reduceEqDiff, bN, Nat.reduceLT, he, e0, e1, e6, e7, e8, e9]; try rfl), (by simp only [bE, Nat.reduceEqDiff, bN, Nat.reduceLT, he, e0, e1, e6, e7, e8, e9]; try rfl), (by simp only [bE, Nat.reduceEqDiff, bN, Nat.reduceLT, he, e0, e1, e6, e7, e8, e9]; try rfl), (by rw [hct]; simp only [bE, Nat.reduceEqDiff, bN, Nat.reduceLT, he, e0, e1, e6, e7, e8, e9]; try rfl), (by simp only [bE, Nat.reduceEqDiff, bN, Nat.reduceLT, he, e0, e1, e6, e7, e8, e9]; try rfl)⟩
    · rw [if_neg hbn, Nat.add_zero] at hct
      have z3 := eq_false hbn
      simp (config := {contextual := true, maxDischargeDepth := 12}) only [tb_at, he, e0, e1, e6, e7, e8, e9, hlv, z2, z3, i1, i2, i3, hw2, ap_build, fillP_nil, fillP_cons, nchkV_ptr, notV_bool, pickV_t, pickV_f, decide_true, decide_false, Bool.not_true, Bool.not_false, bin_eql, bin_neq, ↓bD, bU, forall_const, bS, implies_true, isNx, eq_self, ↓wp_cond, ↓wp_loop, ↓reduceIte, reduceCtorEq, Nat.reduceEqDiff, Nat.reduceLT, Nat.reduceAdd, Nat.reduceMul, bT, ↓sg_bsl, ↓st_callf, bX, ap_mkfn, ap_conv, ↓wi_seq, ↓wi_base, ↓wi_block, ↓wi_cond, ↓wi_loop, ↓wi_rf, ↓wy_seq, ↓wy_base, ↓wy_block, ↓wy_cond, ↓wy_loop, ↓wy_yld, bin_shr1, q_known, ae_callvV, callvV_fn, List.append_nil, List.cons_append, List.nil_append, fs40, fs41, mmV_max2, ↓sg_callf3]
      refine ⟨n1 - 1, by omega, ?_⟩
      rw [hJ]
      exact ⟨i + 1, by omega, rfl, (by simp only [bE, Nat.reduceEqDiff, bN, Nat.reduceLT, he, e0, e1, e6, e7, e8, e9]; try rfl), (by simp only [bE, Nat.reduceEqDiff, bN, Nat.reduceLT, he, e0, e1, e6, e7, e8, e9]; try rfl), (by simp only [bE, Nat.reduceEqDiff, bN, Nat.reduceLT, he, e0, e1, e6, e7, e8, e9]; try rfl), (by simp only [bE, Nat.reduceEqDiff, bN, Nat.reduceLT, he, e0, e1, e6, e7, e8, e9]; try rfl), (by simp only [bE, Nat.reduceEqDiff, bN, Nat.reduceLT, he, e0, e1, e6, e7, e8, e9]; try rfl), (by rw [hct]; simp only [bE, Nat.reduceEqDiff, bN, Nat.reduceLT, he, e0, e1, e6, e7, e8, e9]; try rfl), (by simp only [bE, Nat.reduceEqDiff, bN, Nat.reduceLT, he, e0, e1, e6, e7, e8, e9]; try rfl)⟩
  obtain rfl : i = l.length := by omega
  rw [List.take_length] at e8 hcli
  have z2 := eq_false (show ¬ (l.length : Int) < (l.length : Int) by omega)
  have hwk : IntKind.i64.wrap ((k : Int) + 1 + 1) = ((k + 1 : Nat) : Int) + 1 := by
    rw [show (k : Int) + 1 + 1 = ((k + 1 : Nat) : Int) + 1 by omega]
    exact wrapI (by omega) (by omega)
  by_cases hm : 1 < l.count ((k : Int) + 1)
  · have hno : ¬ okL own l := fun q => by
      have := List.nodup_iff_count.1 q.2.2 ((k : Int) + 1)
      omega
    have z3 := eq_true (show (1 : Int) < ((l.count ((k : Int) + 1) : Nat) : Int) by omega)
    simp (config := {contextual := true, maxDischargeDepth := 12}) only [tb_at, he, e0, e1, e6, e7, e8, e9, hlv, z2, z3, ap_build, fillP_nil, fillP_cons, nchkV_ptr, notV_bool, pickV_t, pickV_f, decide_true, decide_false, Bool.not_true, Bool.not_false, bin_eql, bin_neq, ↓bD, bU, forall_const, bS, implies_true, isNx, eq_self, ↓wp_cond, ↓wp_loop, ↓reduceIte, reduceCtorEq, Nat.reduceEqDiff, Nat.reduceLT, Nat.reduceAdd, Nat.reduceMul, bT, ↓sg_bsl, ↓st_callf, bX, ap_mkfn, ap_conv, ↓wi_seq, ↓wi_base, ↓wi_block, ↓wi_cond, ↓wi_loop, ↓wi_rf, ↓wy_seq, ↓wy_base, ↓wy_block, ↓wy_cond, ↓wy_loop, ↓wy_yld, bin_shr1, q_known, ae_callvV, callvV_fn, List.append_nil, List.cons_append, List.nil_append, fs40, fs41, mmV_max2, ↓sg_callf3]
    all_goals first | exact ⟨_, rfl, ⟨fun q => absurd q hno, fun _ => rfl⟩, hKK⟩ | exact ⟨_, rfl, fun q => absurd q hno, fun _ => rfl⟩ | exact ⟨⟨fun q => absurd q hno, fun _ => rfl⟩, hKK⟩ | exact ⟨fun q => absurd q hno, fun _ => rfl⟩ | skip
  have z3 := eq_false (show ¬ (1 : Int) < ((l.count ((k : Int) + 1) : Nat) : Int) by omega)
  by_cases hm1 : l.count ((k : Int) + 1) = 1
  rotate_left
  · have z4 := eq_false (show ¬ ((l.count ((k : Int) + 1) : Nat) : Int) = 1 by omega)
    have hf1 : fI l (k + 1) = fI l k := by
      rw [fI, if_neg hm1]
    have hOn : Own nbC u y_ w ((fI l (k + 1)).map nbI) := by rw [hf1]; exact hO
    have hpre' : ∀ n : Int, 1 ≤ n → n ≤ ((k + 1 : Nat) : Int) → ¬ (l.count n = 1 ∧ n = own) := fun n h1 h2 => by
      by_cases hn : n ≤ (k : Int)
      · exact hpre n h1 hn
      · rintro ⟨h3, _⟩
        have : n = (k : Int) + 1 := by omega
        subst this
        exact hm1 h3
    simp (config := {contextual := true, maxDischargeDepth := 12}) only [tb_at, he, e0, e1, e6, e7, e8, e9, hlv, z2, z3, z4, hwk, ap_build, fillP_nil, fillP_cons, nchkV_ptr, notV_bool, pickV_t, pickV_f, decide_true, decide_false, Bool.not_true, Bool.not_false, bin_eql, bin_neq, ↓bD, bU, forall_const, bS, implies_true, isNx, eq_self, ↓wp_cond, ↓wp_loop, ↓reduceIte, reduceCtorEq, Nat.reduceEqDiff, Nat.reduceLT, Nat.reduceAdd, Nat.reduceMul, bT, ↓sg_bsl, ↓st_callf, bX, ap_mkfn, ap_conv, ↓wi_seq, ↓wi_base, ↓wi_block, ↓wi_cond, ↓wi_loop, ↓wi_rf, ↓wy_seq, ↓wy_base, ↓wy_block, ↓wy_cond, ↓wy_loop, ↓wy_yld, bin_shr1, q_known, ae_callvV, callvV_fn, List.append_nil, List.cons_append, List.nil_append, fs40, fs41, mmV_max2, ↓sg_callf3]
    refine ⟨n0 - 1, by omega, ?_⟩
    rw [hI]
    exact ⟨k + 1, w, by omega, (by simp only [bE, Nat.reduceEqDiff, bN, Nat.reduceLT, he, e0, e1, e6, e7, e8, e9]; try rfl), (by simp only [bE, Nat.reduceEqDiff, bN, Nat.reduceLT, he, e0, e1, e6, e7, e8, e9]; try rfl), (by simp only [bE, Nat.reduceEqDiff, bN, Nat.reduceLT, he, e0, e1, e6, e7, e8, e9]; try rfl), (by simp only [bE, Nat.reduceEqDiff, bN, Nat.reduceLT, he, e0, e1, e6, e7, e8, e9]; try rfl), (by simp only [bE, Nat.reduceEqDiff, bN, Nat.reduceLT, he, e0, e1, e6, e7, e8, e9]; try rfl), hC, hbox, hOn, hpre'⟩
  have z4 := eq_true (show ((l.count ((k : Int) + 1) : Nat) : Int) = 1 by omega)
  by_cases hm2 : (k : Int) + 1 = own
  · have hno : ¬ okL own l := fun q => (q.2.1 own (List.count_pos_iff.1 (by rw [← hm2]; omega))).2 rfl
    have z5 := eq_true hm2
    simp (config := {contextual := true, maxDischargeDepth := 12}) only [tb_at, he, e0, e1, e6, e7, e8, e9, hlv, z2, z3, z4, z5, ap_build, fillP_nil, fillP_cons, nchkV_ptr, notV_bool, pickV_t, pickV_f, decide_true, decide_false, Bool.not_true, Bool.not_false, bin_eql, bin_neq, ↓bD, bU, forall_const, bS, implies_true, isNx, eq_self, ↓wp_cond, ↓wp_loop, ↓reduceIte, reduceCtorEq, Nat.reduceEqDiff, Nat.reduceLT, Nat.reduceAdd, Nat.reduceMul, bT, ↓sg_bsl, ↓st_callf, bX, ap_mkfn, ap_conv, ↓wi_seq, ↓wi_base, ↓wi_block, ↓wi_cond, ↓wi_loop, ↓wi_rf, ↓wy_seq, ↓wy_base, ↓wy_block, ↓wy_cond, ↓wy_loop, ↓wy_yld, bin_shr1, q_known, ae_callvV, callvV_fn, List.append_nil, List.cons_append, List.nil_append, fs40, fs41, mmV_max2, ↓sg_callf3]
    all_goals first | exact ⟨_, rfl, ⟨fun q => absurd q hno, fun _ => rfl⟩, hKK⟩ | exact ⟨_, rfl, fun q => absurd q hno, fun _ => rfl⟩ | exact ⟨⟨fun q => absurd q hno, fun _ => rfl⟩, hKK⟩ | exact ⟨fun q => absurd q hno, fun _ => rfl⟩ | skip
  have z5 := eq_false hm2
  have hf1 : fI l (k + 1) = fI l k ++ [(k : Int) + 1] := by
    rw [fI, if_pos hm1]
  have hpre' : ∀ n : Int, 1 ≤ n → n ≤ ((k + 1 : Nat) : Int) → ¬ (l.count n = 1 ∧ n = own) := fun n h1 h2 => by
    by_cases hn : n ≤ (k : Int)
    · exact hpre n h1 hn
    · rintro ⟨_, h3⟩
      exact hm2 (by omega)
  have hbxb : bslV [.int .i64 0, .int .i64 0, .int .i64 0, .int .i64 0] 1 4 [(0, .agg [.int .i64 ((k : Int) + 1), .int .i64 0, .int .i64 0, .int .i64 0])] = some (fun id => .sl id 0 1 (some 1) 4, .row [.int .i64 ((k : Int) + 1), .int .i64 0, .int .i64 0, .int .i64 0] true) := rfl
  have ff0 : ∀ K : List AV → Option (List AV), fstep [.int .i64 0, .int .i64 0, .int .i64 0, .int .i64 0] 0 1 (.int .i64 ((k : Int) + 1)) K = K [.int .i64 ((k : Int) + 1), .int .i64 0, .int .i64 0, .int .i64 0] := fun K => rfl
  have ff1 : ∀ K : List AV → Option (List AV), fstep [.int .i64 0, .int .i64 0, .int .i64 0, .int .i64 0] 0 4 (.agg [.int .i64 ((k : Int) + 1), .int .i64 0, .int .i64 0, .int .i64 0]) K = K [.int .i64 ((k : Int) + 1), .int .i64 0, .int .i64 0, .int .i64 0] := fun K => rfl
  obtain ⟨w', u', hap, hst, hlt', hC', hbox', hO'⟩ := box_app hC hbox hib hO (nbI ((k : Int) + 1)) (by rw [List.length_map]; omega)
  have hap : appV (y_.push (.row [.int .i64 ((k : Int) + 1), .int .i64 0, .int .i64 0, .int .i64 0] true)) 4 32 w (.sl y_.next 0 1 (some 1) 4) = some (w', u') := hap
  have hb0 : lod1 (y_.push (.row [.int .i64 ((k : Int) + 1), .int .i64 0, .int .i64 0, .int .i64 0] true)) (.ptr s.next 1) = some w := (row2_lod (get_push_some _ hbox)).2.1
  have hOn : Own nbC u (u'.put s.next (.row [.int .i64 own, w'] true)) w' ((fI l (k + 1)).map nbI) := by
    rw [hf1, List.map_append]
    exact hO'
  simp (config := {contextual := true, maxDischargeDepth := 12}) only [tb_at, he, e0, e1, e6, e7, e8, e9, hlv, z2, z3, z4, z5, hwk, b0, b1, blt, ff0, ff1, aa_bsl1, hbxb, hap, hst, hlt', hb0, ap_build, fillP_nil, fillP_cons, nchkV_ptr, notV_bool, pickV_t, pickV_f, decide_true, decide_false, Bool.not_true, Bool.not_false, bin_eql, bin_neq, ↓bD, bU, forall_const, bS, implies_true, isNx, eq_self, ↓wp_cond, ↓wp_loop, ↓reduceIte, reduceCtorEq, Nat.reduceEqDiff, Nat.reduceLT, Nat.reduceAdd, Nat.reduceMul, bT, ↓sg_bsl, ↓st_callf, bX, ap_mkfn, ap_conv, ↓wi_seq, ↓wi_base, ↓wi_block, ↓wi_cond, ↓wi_loop, ↓wi_rf, ↓wy_seq, ↓wy_base, ↓wy_block, ↓wy_cond, ↓wy_loop, ↓wy_yld, bin_shr1, q_known, ae_callvV, callvV_fn, List.append_nil, List.cons_append, List.nil_append, fs40, fs41, mmV_max2, ↓sg_callf3]
  refine ⟨n0 - 1, by omega, ?_⟩
  rw [hI]
  exact ⟨k + 1, w', by omega, (by simp only [bE, Nat.reduceEqDiff, bN, Nat.reduceLT, he, e0, e1, e6, e7, e8, e9]; try rfl), (by simp only [bE, Nat.reduceEqDiff, bN, Nat.reduceLT, he, e0, e1, e6, e7, e8, e9]; try rfl), (by simp only [bE, Nat.reduceEqDiff, bN, Nat.reduceLT, he, e0, e1, e6, e7, e8, e9]; try rfl), (by simp only [bE, Nat.reduceEqDiff, bN, Nat.reduceLT, he, e0, e1, e6, e7, e8, e9]; try rfl), (by simp only [bE, Nat.reduceEqDiff, bN, Nat.reduceLT, he, e0, e1, e6, e7, e8, e9]; try rfl), hC', hbox', hOn, hpre'⟩
theorem q_RNew {s : St} {nv : AV} {own : Int} {l : List Int} (hr : AM.read inC s nv = some l) (hl : l.length ≤ 100) : ∃ r t, acall R_RNew false [.int .i64 own, nv] s = some (r, t) ∧ ((okL own l → ∃ id j cap, r = .tup [.ptr id 0, .int .i64 0] ∧ AkR t id j cap own ((sortI l).map nbI) ∧ s.next ≤ id ∧ s.next ≤ j) ∧ (¬ okL own l → r = .tup [.nilp, .int .i64 2])) ∧ Keep s t :=
  run_any n_RNew (args := [.int .i64 own, nv]) (Q := (fun r t => (okL own l → ∃ id j cap, r = .tup [.ptr id 0, .int .i64 0] ∧ AkR t id j cap own ((sortI l).map nbI) ∧ s.next ≤ id ∧ s.next ≤ j) ∧ (¬ okL own l → r = .tup [.nilp, .int .i64 2]))) (by simp [a10]) (fun r t t' hg hn ⟨h1, h2⟩ => ⟨fun q => by
    obtain ⟨id, j, cap, e, h, h4, h5⟩ := h1 q
    exact ⟨id, j, cap, e, ⟨by rw [hg]; exact h.box, fun q => by rw [hg]; exact h.dat q, h.hcap, h.hn, by rw [hn]; exact h.jlt⟩, h4, h5⟩, h2⟩) (fun r t hgr hk ⟨h1, h2⟩ => ⟨fun q => by
    obtain ⟨id, j, cap, e, _⟩ := h1 q
    rw [e] at hgr
    simp [AV.ground, AV.plain, AV.plains] at hgr, h2⟩) (w_RNew (s := lowd s) (read_low' hr) hl)
end Go.AM
end
/-
  What the arguments of the statements show: numbers, nodes, states, lists of states. Own work of this project.
-/
section
set_option maxRecDepth 100000
namespace Go.AM
open Go Go.Proofs

variable {P : Program} {s : St}
theorem rd_slice {d : Nat} {t e : TypeId} {vs : List AV} (hu : P.underlying t = some (.slice e)) (h : RdT P s (d + 1) t vs) : vs = [.nils] ∨ ∃ (id n cap : Nat) (rows : List (List AV)), vs = [.sl id 0 n (some cap) (P.cellsOf e)] ∧ n ≤ cap ∧ cap ≤ maxLen ∧ rows.length = cap ∧ s.get id = some (.row rows.flatten false) ∧ ∀ r ∈ rows, RdT P s d e r ∧ r.length = P.cellsOf e := by
  simp only [RdT, hu] at h
  exact h
theorem rd_int {d : Nat} {t : TypeId} {k : IntKind} {vs : List AV} (hu : P.underlying t = some (.int k)) (h : RdT P s (d + 1) t vs) : ∃ n, vs = [.int k n] ∧ (Lit.int k n).wf = true := by
  simp only [RdT, hu] at h
  exact h
theorem rda_int {d : Nat} {t : TypeId} {k : IntKind} {v : AV} (hu : P.underlying t = some (.int k)) (h : RdA P s (d + 1) t v) : ∃ n, v = .int k n ∧ (Lit.int k n).wf = true := by
  obtain ⟨vs, h1, rfl⟩ := h
  obtain ⟨n, rfl, hw⟩ := rd_int hu h1
  exact ⟨n, by simp [argAV, hu], hw⟩
theorem lawC_some {d : Nat} {ts : List TypeId} {xs : List AV} {r : AV} {s' : St} (h : lawC P d ts xs s = some (r, s')) : RdAs P s d ts xs ∧ r = .bool true ∧ s' = s.lowed := by
  unfold lawC at h
  split at h
  · rename_i hr
    injection h with h
    obtain ⟨rfl, rfl⟩ := Prod.mk.inj h
    exact ⟨hr, rfl, rfl⟩
  · cases h
theorem rdas_1 {d : Nat} {t : TypeId} {xs : List AV} (h : RdAs P s d [t] xs) : ∃ v, xs = [v] ∧ RdA P s d t v := by
  obtain ⟨v, r, rfl, h1, h2⟩ := h
  simp only [RdAs] at h2
  subst h2
  exact ⟨v, rfl, h1⟩
theorem rdas_2 {d : Nat} {t1 t2 : TypeId} {xs : List AV} (h : RdAs P s d [t1, t2] xs) : ∃ v w, xs = [v, w] ∧ RdA P s d t1 v ∧ RdA P s d t2 w := by
  obtain ⟨v, r, rfl, h1, h2⟩ := h
  obtain ⟨w, rfl, h3⟩ := rdas_1 h2
  exact ⟨v, w, rfl, h1, h3⟩
end Go.AM
end
/-
  Lists of integers as arguments; AcksNew. Own work of this project; in part printed by a program of it.
-/
section
set_option maxRecDepth 100000
set_option maxHeartbeats 8000000
namespace Go.AM
open Go Go.Proofs

variable {s t u : St}

theorem int_underK : Try.prog.underlying 3 = some (.int .i64) := by kernel_rfl
theorem ints_under : Try.prog.underlying 22 = some (.slice 3) := by kernel_rfl
theorem int_cells : Try.prog.cellsOf 3 = 1 := by kernel_rfl
theorem ints_of_rows {d : Nat} : ∀ {rows : List (List AV)}, (∀ r ∈ rows, RdT Try.prog s (d + 1) 3 r) → ∃ l : List Int, rows.flatten = inC.cells l ∧ l.length = rows.length
  | [], _ => ⟨[], rfl, rfl⟩
  | r :: rows, h => by
    obtain ⟨n, rfl, hw⟩ := rd_int int_underK (h r (by simp))
    obtain ⟨l, h1, h2⟩ := ints_of_rows (rows := rows) fun r' hr' => h r' (by simp [hr'])
    exact ⟨n :: l, by rw [List.flatten_cons, h1, cells_cons]; rfl, by simp [h2]⟩
theorem rda_ints {v : AV} (h : RdA Try.prog s 8 22 v) : ∃ l, read inC s v = some l := by
  obtain ⟨vs, h1, rfl⟩ := h
  rcases rd_slice ints_under h1 with rfl | ⟨id, n, cap, rows, rfl, h1, _, h3, h4, h5⟩
  · exact ⟨[], by simp [argAV, ints_under]; rfl⟩
  · obtain ⟨l, e1, e2⟩ := ints_of_rows fun r hr => (h5 r hr).1
    have e : argAV Try.prog 22 [.sl id 0 n (some cap) (Try.prog.cellsOf 3)] = .sl id 0 n (some cap) 1 := by simp [argAV, ints_under, int_cells]
    rw [e]
    refine ⟨l.take n, ?_⟩
    have hall : read inC s (.sl id 0 cap (some cap) 1) = some l := by
      have hcl : (inC.cells l).length = l.length * 1 := cells_len inC l
      refine read_of (C := inC) (by omega) h4 ?_ ?_
      · rw [e1, hcl]
        show 0 + cap * 1 ≤ _
        omega
      · rw [e1, List.drop_zero, show cap * inC.sz = (inC.cells l).length by rw [hcl]; show cap * 1 = _; omega, List.take_length]
    exact read_take hall n h1
theorem cells_setI (c : Int) : ∀ {l : List Int} {i : Nat}, i < l.length → setAt (inC.cells l) i [.int .i64 c] = inC.cells (l.set i c)
  | [], i, h => by simp at h
  | x :: l, 0, _ => by
    rw [cells_cons]
    show setAt (.int .i64 x :: inC.cells l) 0 [.int .i64 c] = _
    simp [setAt, cells_cons]
    all_goals rfl
  | x :: l, i + 1, h => by
    have ih := cells_setI c (l := l) (i := i) (by simpa using h)
    rw [cells_cons, List.set_cons_succ, cells_cons, ← ih]
    show setAt (.int .i64 x :: inC.cells l) (i + 1) [.int .i64 c] = .int .i64 x :: _
    simp [setAt]
/-- A store into an own list of integers. -/
theorem own_setI {v : AV} {l : List Int} (h : Own inC s t v l) {i : Nat} (hi : i < l.length) (c : Int) : ∃ j b, v = .sl j 0 l.length none 1 ∧ s.next ≤ j ∧ ltN j t ∧ iadV 1 v (.int .i64 (i : Int)) = some (.ptr j i) ∧ AM.sto t 1 (.ptr j i) (.int .i64 c) = some (.und, t.put j b) ∧ Own inC s (t.put j b) v (l.set i c) := by
  rcases h with ⟨_, rfl⟩ | ⟨j, rfl, h0, h1, h2⟩
  · simp at hi
  · have hia : iadV 1 (.sl j 0 l.length none 1) (.int .i64 (i : Int)) = some (.ptr j (0 + i * 1)) := iadV_nat hi
    rw [Nat.zero_add, Nat.mul_one] at hia
    have hcl : (inC.cells l).length = l.length * 1 := cells_len inC l
    refine ⟨j, .row (inC.cells (l.set i c)) true, rfl, h1, St.get_lt h2, hia, ?_, .inr ⟨j, by rw [List.length_set], ?_, h1, St.get_put_same h2⟩⟩
    · simp only [AM.sto, h2]
      rw [if_pos ⟨rfl, rfl, by omega⟩]
      show some (AV.und, t.put j (.row (setAt (inC.cells l) i [.int .i64 c]) true)) = _
      rw [cells_setI c hi]
    · intro e
      have := congrArg List.length e
      rw [List.length_set] at this
      simp at this
      exact h0 this
def bids : AV → List Nat
  | .sl id _ _ _ _ => [id]
  | _ => []
theorem AkR.srtI {id j : Nat} {cap : Option Nat} {own : Int} {l : List Int} (h : AkR s id j cap own ((sortI l).map nbI)) (hok : okL own l) : SrtB ((sortI l).map nbI) ∧ own ≠ 0 := ⟨okL_srt hok, fun e => by have := hok.1; omega⟩
theorem s_AcksNew : SoundAt Try.prog 3 (lawC Try.prog 8 [3, 22]) :=
  con_keep (tb_sound (l := [(8, closed [] (.bool true)), (9, R_New), (10, R_RNew), (11, R_alike)]) (by simpa using ⟨s_known, s_New, s_RNew, s_alike⟩)) mixed Try.func3 k3 c3 fun args s r s' h => by
    obtain ⟨hh, rfl, rfl⟩ := lawC_some h
    obtain ⟨y1, nv, rfl, k1, k2⟩ := rdas_2 hh
    obtain ⟨own, rfl, _⟩ := rda_int int_underK k1
    obtain ⟨l, hr⟩ := rda_ints k2
    refine ⟨rfl, rfl, by simp [a3], fun env hlen ha => ?_⟩
    have h0 : E env 0 = _ := ha 0 _ rfl
    have h1 : E env 1 = _ := ha 1 _ rfl
    have hlen : elen env = _ := hlen
    simp only [a3] at hlen
    unfold a3
    try dsimp only [oO, oG]
    have hL := lenV_read hr
    by_cases hz : (70 : Int) < (l.length : Int)
    · have hz1 := eq_true hz
      simp (config := {contextual := true, maxDischargeDepth := 12, maxSteps := 4000000}) only [tb_at, h0, h1, hlen, hL, hz1, notV_bool, Bool.not_true, Bool.not_false, pickV_t, pickV_f, bin_eql, bin_neq, bin_neb, bin_npn, bin_np, bin_npnx, gcall_tt, gpure_tf, beq_self_eq_true, Bool.true_and, Bool.and_true, decide_true, decide_false, ↓bD, bU, forall_const, bS, implies_true, isNx, eq_self, ↓wp_cond, ↓wp_loop, ↓reduceIte, reduceCtorEq, Nat.reduceEqDiff, Nat.reduceLT, Nat.reduceAdd, Nat.reduceMul, bT, ↓sg_bsl, ↓st_callf, bX, ap_mkfn, ap_conv, ↓wi_seq, ↓wi_base, ↓wi_block, ↓wi_cond, ↓wi_loop, ↓wi_rf, ↓wy_seq, ↓wy_base, ↓wy_block, ↓wy_cond, ↓wy_loop, ↓wy_yld, bin_shr1, q_known, ae_callvV, callvV_fn, List.append_nil, List.cons_append, List.nil_append, fs40, fs41, mmV_max2, ↓sg_callf3, q_known]
      all_goals first | exact .refl s | skip
    have hz1 := eq_false hz
    obtain ⟨ov, t1, hap, hK1, hO1⟩ := appV_list (C := inC) (Keep.refl s) (Own.nil inC s s) hr 8 (by unfold roomBytes; simp; omega)
    have hap : appV s 1 8 .nils nv = some (ov, t1) := hap
    rw [List.nil_append] at hO1
    obtain ⟨p1, t2, q1, ⟨q1a, q1b⟩, hK2⟩ := q_New (own := own) hO1.read (by omega)
    obtain ⟨p2, t3, q2, ⟨q2a, q2b⟩, hK3⟩ := q_RNew (own := own) ((hK1.trans hK2).read hr) (by omega)
    have hO3 : Own inC s t3 ov l := hO1.mono fun id b hb => (hK2.trans hK3).blk hb
    have hKs3 := (hK1.trans hK2).trans hK3
    have hone : ov.one = true := by rcases hO1 with ⟨e, _⟩ | ⟨j, e, _⟩ <;> rw [e] <;> rfl
    have hbt : ∀ id ∈ bids ov, s.next ≤ id ∧ id < t1.next := by
      rcases hO1 with ⟨e, _⟩ | ⟨j, e, h0, h1, h2⟩
      · rw [e]; intro id hid; simp [bids] at hid
      · rw [e]
        intro id hid
        simp [bids] at hid
        subst hid
        exact ⟨h1, St.get_lt h2⟩
    obtain ⟨r1, c1, r2, c2, rfl, rfl, hres⟩ : ∃ r1 c1 r2 c2, p1 = .tup [r1, .int .i64 c1] ∧ p2 = .tup [r2, .int .i64 c2] ∧ ((okL own l ∧ c1 = 0 ∧ c2 = 0 ∧ ∃ id j cap ix jx capx, r1 = .ptr id 0 ∧ r2 = .ptr ix 0 ∧ AkR t3 id j cap own ((sortI l).map nbI) ∧ AkR t3 ix jx capx own ((sortI l).map nbI) ∧ t1.next ≤ id ∧ t1.next ≤ j ∧ t1.next ≤ ix ∧ t1.next ≤ jx) ∨ (¬ okL own l ∧ c1 = 2 ∧ c2 = 2 ∧ r1 = .nilp)) := by
      by_cases hok : okL own l
      · obtain ⟨id, j, cap, rfl, hA, hi1, hj1⟩ := q1a hok
        obtain ⟨ix, jx, capx, rfl, hX, hi2, hj2⟩ := q2a hok
        exact ⟨_, _, _, _, rfl, rfl, .inl ⟨hok, rfl, rfl, id, j, cap, ix, jx, capx, rfl, rfl, hA.keep hK3, hX, hi1, hj1, Nat.le_trans hK2.next hi2, Nat.le_trans hK2.next hj2⟩⟩
      · rw [q1b hok, q2b hok]
        exact ⟨_, _, _, _, rfl, rfl, .inr ⟨hok, rfl, rfl, rfl⟩⟩
    simp (config := {contextual := true, maxDischargeDepth := 12, maxSteps := 4000000}) only [tb_at, h0, h1, hlen, hL, hz1, hap, q1, q2, notV_bool, Bool.not_true, Bool.not_false, pickV_t, pickV_f, bin_eql, bin_neq, bin_neb, bin_npn, bin_np, bin_npnx, gcall_tt, gpure_tf, beq_self_eq_true, Bool.true_and, Bool.and_true, decide_true, decide_false, ↓bD, bU, forall_const, bS, implies_true, isNx, eq_self, ↓wp_cond, ↓wp_loop, ↓reduceIte, reduceCtorEq, Nat.reduceEqDiff, Nat.reduceLT, Nat.reduceAdd, Nat.reduceMul, bT, ↓sg_bsl, ↓st_callf, bX, ap_mkfn, ap_conv, ↓wi_seq, ↓wi_base, ↓wi_block, ↓wi_cond, ↓wi_loop, ↓wi_rf, ↓wy_seq, ↓wy_base, ↓wy_block, ↓wy_cond, ↓wy_loop, ↓wy_yld, bin_shr1, q_known, ae_callvV, callvV_fn, List.append_nil, List.cons_append, List.nil_append, fs40, fs41, mmV_max2, ↓sg_callf3, q_known]
    obtain ⟨I, hI⟩ : ∃ I : Nat → Env → St → Prop, ∀ n e t, I n e t = ((Chg (bids ov) t3 t ∧ Keep s t) ∧ ∃ (i : Nat) (L2 : List Int), n + i = l.length ∧ elen e = 69 ∧ E e 0 = .int .i64 own ∧ E e 1 = nv ∧ E e 5 = ov ∧ E e 6 = r1 ∧ E e 7 = .int .i64 c1 ∧ E e 8 = r2 ∧ E e 9 = .int .i64 c2 ∧ E e 10 = .int .i64 (i : Int) ∧ Own inC s t ov L2 ∧ L2.length = l.length ∧ (∀ k, i ≤ k → L2[k]? = l[k]?)) := ⟨fun n e t => ((Chg (bids ov) t3 t ∧ Keep s t) ∧ ∃ (i : Nat) (L2 : List Int), n + i = l.length ∧ elen e = 69 ∧ E e 0 = .int .i64 own ∧ E e 1 = nv ∧ E e 5 = ov ∧ E e 6 = r1 ∧ E e 7 = .int .i64 c1 ∧ E e 8 = r2 ∧ E e 9 = .int .i64 c2 ∧ E e 10 = .int .i64 (i : Int) ∧ Own inC s t ov L2 ∧ L2.length = l.length ∧ (∀ k, i ≤ k → L2[k]? = l[k]?)), fun _ _ _ => rfl⟩
    refine lwp_inv I (n := l.length) ?_ ?_
    · rw [hI]
      exact ⟨⟨Chg.refl _ _, hKs3⟩, 0, l, by omega, (by simp only [bE, Nat.reduceEqDiff, bN, Nat.reduceLT, hlen]; try rfl), (by simp only [bE, Nat.reduceEqDiff, bN, Nat.reduceLT, hlen, h0]; try rfl), (by simp only [bE, Nat.reduceEqDiff, bN, Nat.reduceLT, hlen, h1]; try rfl), (by simp only [bE, Nat.reduceEqDiff, bN, Nat.reduceLT, hlen]; try rfl), (by simp only [bE, Nat.reduceEqDiff, bN, Nat.reduceLT, hlen]; try rfl), (by simp only [bE, Nat.reduceEqDiff, bN, Nat.reduceLT, hlen]; try rfl), (by simp only [bE, Nat.reduceEqDiff, bN, Nat.reduceLT, hlen]; try rfl), (by simp only [bE, Nat.reduceEqDiff, bN, Nat.reduceLT, hlen]; try rfl), (by simp only [bE, Nat.reduceEqDiff, bN, Nat.reduceLT, hlen]; try rfl), hO3, rfl, fun _ _ => rfl⟩
    clear h0 h1 hlen hap q1 q2
    intro n e t hi
    rw [hI] at hi
    obtain ⟨hK, i, L2, hni, he, e0, e1, e5, e6, e7, e8, e9, e10, hO2, hL2, hsame⟩ := hi
    obtain ⟨hC, hKst⟩ := hK
    have hlo := lenV_read hO2.read
    have hrn := hKst.read hr
    by_cases hlt : i < l.length
    · obtain ⟨b, hb⟩ := getsome hlt
      have hb2 : L2[i]? = some b := by rw [hsame i (Nat.le_refl _), hb]
      obtain ⟨i1, i2, i3⟩ := in_lods hrn hb
      obtain ⟨j1, j2, j3⟩ := in_lods hO2.read hb2
      obtain ⟨jo, bo, hov, hjo, hlo2, k1, k2, hO4⟩ := own_setI hO2 (show i < L2.length by omega) 0
      rw [j1] at k1
      injection k1 with k1
      have z1 := eq_true (show (i : Int) < (L2.length : Int) by omega)
      have hw2 := wrap_add1 (n := i) (by omega)
      have hbb : (b = b) = True := eq_true rfl
      rw [← k1] at k2
      have hbid : bid ov = jo := by rw [hov]; rfl
      have hC4 : Chg (bids ov) t3 (t.put jo bo) := hC.put _ (.inl (by rw [hov]; simp [bids])) hlo2
      have hK4 : Keep s (t.put jo bo) := hKst.put _ hjo hlo2
      have hlb : ltN (bid ov) t := by rw [hbid]; exact hlo2
      have hsame' : ∀ k, i + 1 ≤ k → (L2.set i 0)[k]? = l[k]? := fun k hk => by
        rw [List.getElem?_set_ne (by omega)]
        exact hsame k (by omega)
      simp (config := {contextual := true, maxDischargeDepth := 12, maxSteps := 4000000}) only [tb_at, he, e0, e1, e5, e6, e7, e8, e9, e10, hlo, z1, hw2, i1, i2, i3, j1, j2, j3, k2, hlb, hbb, notV_bool, Bool.not_true, Bool.not_false, pickV_t, pickV_f, bin_eql, bin_neq, bin_neb, bin_npn, bin_np, bin_npnx, gcall_tt, gpure_tf, beq_self_eq_true, Bool.true_and, Bool.and_true, decide_true, decide_false, ↓bD, bU, forall_const, bS, implies_true, isNx, eq_self, ↓wp_cond, ↓wp_loop, ↓reduceIte, reduceCtorEq, Nat.reduceEqDiff, Nat.reduceLT, Nat.reduceAdd, Nat.reduceMul, bT, ↓sg_bsl, ↓st_callf, bX, ap_mkfn, ap_conv, ↓wi_seq, ↓wi_base, ↓wi_block, ↓wi_cond, ↓wi_loop, ↓wi_rf, ↓wy_seq, ↓wy_base, ↓wy_block, ↓wy_cond, ↓wy_loop, ↓wy_yld, bin_shr1, q_known, ae_callvV, callvV_fn, List.append_nil, List.cons_append, List.nil_append, fs40, fs41, mmV_max2, ↓sg_callf3, q_known]
      refine ⟨n - 1, by omega, ?_⟩
      rw [hI]
      exact ⟨⟨hC4, hK4⟩, i + 1, L2.set i 0, by omega, (by simp only [bE, Nat.reduceEqDiff, bN, Nat.reduceLT, he, e0, e1, e5, e6, e7, e8, e9, e10]; try rfl), (by simp only [bE, Nat.reduceEqDiff, bN, Nat.reduceLT, he, e0, e1, e5, e6, e7, e8, e9, e10]; try rfl), (by simp only [bE, Nat.reduceEqDiff, bN, Nat.reduceLT, he, e0, e1, e5, e6, e7, e8, e9, e10]; try rfl), (by simp only [bE, Nat.reduceEqDiff, bN, Nat.reduceLT, he, e0, e1, e5, e6, e7, e8, e9, e10]; try rfl), (by simp only [bE, Nat.reduceEqDiff, bN, Nat.reduceLT, he, e0, e1, e5, e6, e7, e8, e9, e10]; try rfl), (by simp only [bE, Nat.reduceEqDiff, bN, Nat.reduceLT, he, e0, e1, e5, e6, e7, e8, e9, e10]; try rfl), (by simp only [bE, Nat.reduceEqDiff, bN, Nat.reduceLT, he, e0, e1, e5, e6, e7, e8, e9, e10]; try rfl), (by simp only [bE, Nat.reduceEqDiff, bN, Nat.reduceLT, he, e0, e1, e5, e6, e7, e8, e9, e10]; try rfl), (by simp only [bE, Nat.reduceEqDiff, bN, Nat.reduceLT, he, e0, e1, e5, e6, e7, e8, e9, e10]; try rfl), hO4, by rw [List.length_set]; exact hL2, hsame'⟩
    have hi : i = l.length := by omega
    have z1 := eq_false (show ¬ (i : Int) < (L2.length : Int) by omega)
    rcases hres with ⟨hok, rfl, rfl, id, j, cap, ix, jx, capx, rfl, rfl, hA, hX, b1, b2, b3, b4⟩ | ⟨hno, rfl, rfl, rfl⟩
    · have n00 : ((0 : Int) = 0) = True := eq_true rfl
      have out : ∀ k, t1.next ≤ k → k ∉ bids ov := fun k hk hm => by have := (hbt k hm).2; omega
      have qa := q_alike false (hA.chg hC (out _ b1) (out _ b2)) (hX.chg hC (out _ b3) (out _ b4)) (hA.srtI hok).2 (hA.srtI hok).1
      simp (config := {contextual := true, maxDischargeDepth := 12, maxSteps := 4000000}) only [tb_at, he, e0, e1, e5, e6, e7, e8, e9, e10, hlo, z1, n00, qa, notV_bool, Bool.not_true, Bool.not_false, pickV_t, pickV_f, bin_eql, bin_neq, bin_neb, bin_npn, bin_np, bin_npnx, gcall_tt, gpure_tf, beq_self_eq_true, Bool.true_and, Bool.and_true, decide_true, decide_false, ↓bD, bU, forall_const, bS, implies_true, isNx, eq_self, ↓wp_cond, ↓wp_loop, ↓reduceIte, reduceCtorEq, Nat.reduceEqDiff, Nat.reduceLT, Nat.reduceAdd, Nat.reduceMul, bT, ↓sg_bsl, ↓st_callf, bX, ap_mkfn, ap_conv, ↓wi_seq, ↓wi_base, ↓wi_block, ↓wi_cond, ↓wi_loop, ↓wi_rf, ↓wy_seq, ↓wy_base, ↓wy_block, ↓wy_cond, ↓wy_loop, ↓wy_yld, bin_shr1, q_known, ae_callvV, callvV_fn, List.append_nil, List.cons_append, List.nil_append, fs40, fs41, mmV_max2, ↓sg_callf3, q_known]
      all_goals first | exact hKst | skip
    · have n20 : ((2 : Int) = 0) = False := eq_false (by decide)
      have n22 : ((2 : Int) = 2) = True := eq_true rfl
      simp (config := {contextual := true, maxDischargeDepth := 12, maxSteps := 4000000}) only [tb_at, he, e0, e1, e5, e6, e7, e8, e9, e10, hlo, z1, n20, n22, notV_bool, Bool.not_true, Bool.not_false, pickV_t, pickV_f, bin_eql, bin_neq, bin_neb, bin_npn, bin_np, bin_npnx, gcall_tt, gpure_tf, beq_self_eq_true, Bool.true_and, Bool.and_true, decide_true, decide_false, ↓bD, bU, forall_const, bS, implies_true, isNx, eq_self, ↓wp_cond, ↓wp_loop, ↓reduceIte, reduceCtorEq, Nat.reduceEqDiff, Nat.reduceLT, Nat.reduceAdd, Nat.reduceMul, bT, ↓sg_bsl, ↓st_callf, bX, ap_mkfn, ap_conv, ↓wi_seq, ↓wi_base, ↓wi_block, ↓wi_cond, ↓wi_loop, ↓wi_rf, ↓wy_seq, ↓wy_base, ↓wy_block, ↓wy_cond, ↓wy_loop, ↓wy_yld, bin_shr1, q_known, ae_callvV, callvV_fn, List.append_nil, List.cons_append, List.nil_append, fs40, fs41, mmV_max2, ↓sg_callf3, q_known]
      all_goals first | exact hKst | skip

end Go.AM
end
