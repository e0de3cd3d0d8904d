/-
  The program's join of two states. Own work of this project; in part printed by a program of it.
-/
import Derived.Test.YtihjheckdjocoaaAmFD
set_option linter.unusedVariables false
set_option linter.unusedSimpArgs false
set_option maxRecDepth 100000
set_option maxHeartbeats 4000000
namespace Go.AM
open Go Go.Proofs

theorem dcmp_cases (a b : Dot) : (dcmp a b = -1 ∧ a.before b = true ∧ b.before a = false) ∨ (dcmp a b = 1 ∧ a.before b = false ∧ b.before a = true) ∨ (dcmp a b = 0 ∧ a.before b = false ∧ b.before a = false ∧ a = b) := by
  obtain ⟨ar, ac⟩ := a
  obtain ⟨br, bc⟩ := b
  simp only [dcmp, cmpI, Dot.before]
  by_cases h1 : ac < bc
  · left
    simp [h1, show ¬ bc < ac by omega, show ¬ bc = ac by omega]
  · by_cases h2 : bc < ac
    · right; left
      simp [h1, h2, show ¬ ac = bc by omega]
    · obtain rfl : ac = bc := by omega
      by_cases h3 : ar < br
      · left
        simp [h3, show ¬ br < ar by omega]
      · by_cases h4 : br < ar
        · right; left
          simp [h3, h4]
        · obtain rfl : ar = br := by omega
          right; right
          simp
theorem cs_dec (p : Prop) [Decidable p] (A B : Prop) : cstep (.bool (decide p)) A B = ((p → A) ∧ (¬ p → B)) := by by_cases h : p <;> simp [cstep, h]
theorem cs_not (b : Bool) (A B : Prop) : cstep (.bool (!b)) A B = cstep (.bool b) B A := by cases b <;> rfl
theorem cs_and (a b : Bool) (A B : Prop) : cstep (.bool (a && b)) A B = ((a = true ∧ b = true → A) ∧ ((a && b) = false → B)) := by cases a <;> cases b <;> simp [cstep]
theorem cs_or (a b : Bool) (A B : Prop) : cstep (.bool (a || b)) A B = (((a || b) = true → A) ∧ (a = false ∧ b = false → B)) := by cases a <;> cases b <;> simp [cstep]
theorem cs_valid (x : Nd) (A B : Prop) : cstep (.bool x.valid) A B = ((x.valid = true → A) ∧ (x.valid = false → B)) := cstep_bool _ _ _
def joinL : List Nd → List Nd → Option (List Nd)
  | [], b => some b
  | x :: a, [] => some (x :: a)
  | x :: a, y :: b =>
    if x.d.before y.d = true then (joinL a (y :: b)).map (x :: ·)
    else if y.d.before x.d = true then (joinL (x :: a) b).map (y :: ·)
    else if x.clash y = true then none
    else (joinL a b).map (x.merge y :: ·)
termination_by a b => a.length + b.length
theorem joinL_nil (a : List Nd) : joinL a [] = some a := by cases a <;> simp [joinL]
def gJoin (a b : List Nd) : Option (List Nd × Option AV) :=
  if storeL a = true ∧ storeL b = true then match joinL a b with
    | some l => some (l, some (.int .i64 0))
    | none => some ([], some (.int .i64 15))
  else some ([], some (.int .i64 2))
theorem gJoin_plain {a b : List Nd} {l : List Nd} {e : Option AV} (h : gJoin a b = some (l, e)) : ∀ x, e = some x → x.plain = true := by
  unfold gJoin at h
  repeat' split at h
  all_goals
    injection h with h
    obtain ⟨_, rfl⟩ := Prod.mk.inj h
    intro x hx
    injection hx with hx
    subst hx
    rfl
theorem s_Join : SoundAt Try.prog 14 (conF ndC (pLL ndC ndC gJoin)) :=
  con_fresh (tb_sound (l := [(20, conL ndC fValid), (30, conDD fCmp), (31, conNN fMerge)]) (by simpa using ⟨s_JValid, s_Cmp, s_Merge⟩)) mixed Try.func14 k14 c14 fun args s r ee h => by
    obtain ⟨v, w, l, m, rfl, hr, hw, hl, hm, hp⟩ := pLL_some h
    refine ⟨gJoin_plain hp, by simp [a14], fun env hlen ha => ?_⟩
    have h0 : E env 0 = _ := ha 0 _ rfl
    have h1 : E env 1 = _ := ha 1 _ rfl
    have hlen : elen env = _ := hlen
    simp only [a14] at hlen
    unfold a14
    have q1 := q_StValid false hr hl
    have q2 := q_StValid false hw hm
    unfold gJoin at hp
    by_cases hv : storeL l = true ∧ storeL m = true
    rotate_left
    · rw [if_neg hv] at hp
      injection hp with hp
      obtain ⟨rfl, rfl⟩ := Prod.mk.inj hp
      have hv : (!storeL l || !storeL m) = true := by
        cases h1 : storeL l <;> cases h2 : storeL m <;> simp_all
      simp (config := {contextual := true, maxDischargeDepth := 12}) only [tb, q1, q2, hv, h0, h1, hlen, E_pne, E_psame, elen_put, aev_t, aev_c, aev_f, pE_none, pstep_some, estep_some, gstep_tt, gstep_ff, gstep_tf, gstep_ft, gstep_und, ↓st_nil, ↓st_mv, ↓sg_mv, ↓st_pick, ↓sg_pick, ↓st_build, ↓sg_build, ↓st_bin, ↓sg_bin, ↓st_un, ↓sg_un, ↓st_conv, ↓sg_conv, ↓st_mkfn, ↓sg_mkfn, ↓st_slc, ↓sg_slc, ↓st_slcs, ↓sg_slcs, ↓st_fad, ↓sg_fad, ↓st_fld, ↓sg_fld, ↓st_iad, ↓sg_iad, ↓st_idxs, ↓sg_idxs, ↓st_ext, ↓sg_ext, ↓st_len, ↓sg_len, ↓st_lens, ↓sg_lens, ↓st_cap, ↓sg_cap, ↓st_mm, ↓sg_mm, ↓st_nchk, ↓sg_nchk, ↓st_load1, ↓sg_load1, ↓st_loadn, ↓sg_loadn, ↓st_b2s, ↓sg_b2s, ↓st_look, ↓sg_look, ↓st_lenm, ↓sg_lenm, ↓st_ent, ↓sg_ent, ↓st_calld, ↓sg_calld, ↓st_callvd, ↓sg_callvd, ↓st_call, ↓sg_call, ↓st_callv, ↓sg_callv, ↓st_store, ↓st_storef, ↓st_app, ↓st_appz, ↓st_copy, ↓st_mkmap, ↓st_mset, ↓st_mdel, ↓st_rng, ↓st_allo, ↓st_allor, ↓st_box, ↓st_boxr, ↓st_bsl, ↓st_bslr, ↓st_mksl, ↓st_mkslr, astep_some, bstep_some, ↓wp_regd, ↓wp_reg, ↓wp_skip, ↓wp_exit, ↓wp_ret, ↓wp_seq, ↓wp_block, ↓wp_cond, ↓wp_loop, cstep_true, cstep_false, rstep_true, noNxt_nil, noNxt_cons, isNx, forall_const, List.all_cons, List.all_nil, Bool.and_true, Bool.true_and, Bool.and_false, Bool.false_and, Bool.or_true, Bool.true_or, Bool.or_false, Bool.false_or, Bool.and_eq_true, sel_true, sel_false, gP_bt, gP_bf, gP_st, gP_sf, gP_und, gpure_bt, gpure_bf, gpure_st, gpure_sf, gpure_und, gpure_sft, gpure_stf, gcall_sft, gcall_stf, gpure_tf, gpure_ft, gcall_bt, gcall_bf, gcall_st, gcall_sf, gcall_und, gcall_tf, gcall_ft, gcall_tt, gcall_ff, res1, res2, res0, rc1, rc2, ar_loadn, ar_load1, ae_store, ap_iad, ap_fad, fadV_ptr, ap_len, lenV_sl, lenV_nils, ap_pick, pickV_t, pickV_f, pickV_or, pickV_ors, pickV_orn, ar_call, pickV_and, pickV_ands, ap_not, notV_bool, ap_ext, extV_0, extV_1, ap_build, fillP_nil, fillP_cons, aa_bsl1, aa_box, boxV_dot, boxV_nd, fstep_nd, fstep_dot, Option.map_some, push_put, reserve0, reserve1_get, reserve1_get', reserve1_born, reserve1_born', sto_nd, sto_nd0, lod_nd, lod_nd_dot, lod_nd_par, lod1_nd_t, lod1_nd_x, lod_dot, lod1_dot_r, lod1_dot_c, sto_push_lt, lod_reserve, lod1_reserve, sto_nd_x, sto_nd_t, lt_lowed, cs_dec, cs_not, cs_and, cs_or, cs_valid, eq_self, kt_refl, kt_push, kt_lowed, lod_push_lt, lod1_push_lt, lod_lowed, lod1_lowed, lod_lowd, lod1_lowd, bin_lss, bin_leq, bin_gtr, bin_geq, bin_eql, bin_neq, bin_add, bin_sub, bin_eqb, bin_neb, bin_eqd, bin_neqd, bin_eqd0, bin_neqd0, bin_eqn, bin_neqn, List.map_cons, List.map_nil, Nat.add_zero, Nat.zero_add, Bool.not_true, Bool.not_eq_true', Bool.not_eq_false', Bool.and_eq_true, Bool.not_false, Bool.not_not, ne_eq, reduceCtorEq, not_false_eq_true, implies_true, true_and, and_true, ↓reduceIte, Nat.reduceEqDiff, Nat.reduceLT, Nat.reduceAdd, Nat.reduceMul, Nat.one_ne_zero, Nat.zero_ne_one, Nat.zero_mul, Nat.one_mul, lowed_next, lt_push, lt_push_same, same_self, same_push, same_lowed, same_lowed', decide_true, decide_false, Int.ofNat_lt, Int.ofNat_le, exists_const, ae_app, ap_slc, Option.map_none, mkR_none, mkR_some]
      exact ⟨_, rfl, .nil _ _ _⟩
    · rw [if_pos hv] at hp
      obtain ⟨hv1, hv2⟩ := hv
      rw [hv1] at q1
      rw [hv2] at q2
      have hA : ∀ x ∈ l, x.valid = true := by
        simp only [storeL, Bool.and_eq_true, List.all_eq_true] at hv1
        exact hv1.1
      have hB : ∀ x ∈ m, x.valid = true := by
        simp only [storeL, Bool.and_eq_true, List.all_eq_true] at hv2
        exact hv2.1
      simp (config := {contextual := true, maxDischargeDepth := 12}) only [tb, q1, q2, h0, h1, hlen, E_pne, E_psame, elen_put, aev_t, aev_c, aev_f, pE_none, pstep_some, estep_some, gstep_tt, gstep_ff, gstep_tf, gstep_ft, gstep_und, ↓st_nil, ↓st_mv, ↓sg_mv, ↓st_pick, ↓sg_pick, ↓st_build, ↓sg_build, ↓st_bin, ↓sg_bin, ↓st_un, ↓sg_un, ↓st_conv, ↓sg_conv, ↓st_mkfn, ↓sg_mkfn, ↓st_slc, ↓sg_slc, ↓st_slcs, ↓sg_slcs, ↓st_fad, ↓sg_fad, ↓st_fld, ↓sg_fld, ↓st_iad, ↓sg_iad, ↓st_idxs, ↓sg_idxs, ↓st_ext, ↓sg_ext, ↓st_len, ↓sg_len, ↓st_lens, ↓sg_lens, ↓st_cap, ↓sg_cap, ↓st_mm, ↓sg_mm, ↓st_nchk, ↓sg_nchk, ↓st_load1, ↓sg_load1, ↓st_loadn, ↓sg_loadn, ↓st_b2s, ↓sg_b2s, ↓st_look, ↓sg_look, ↓st_lenm, ↓sg_lenm, ↓st_ent, ↓sg_ent, ↓st_calld, ↓sg_calld, ↓st_callvd, ↓sg_callvd, ↓st_call, ↓sg_call, ↓st_callv, ↓sg_callv, ↓st_store, ↓st_storef, ↓st_app, ↓st_appz, ↓st_copy, ↓st_mkmap, ↓st_mset, ↓st_mdel, ↓st_rng, ↓st_allo, ↓st_allor, ↓st_box, ↓st_boxr, ↓st_bsl, ↓st_bslr, ↓st_mksl, ↓st_mkslr, astep_some, bstep_some, ↓wp_regd, ↓wp_reg, ↓wp_skip, ↓wp_exit, ↓wp_ret, ↓wp_seq, ↓wp_block, ↓wp_cond, ↓wp_loop, cstep_true, cstep_false, rstep_true, noNxt_nil, noNxt_cons, isNx, forall_const, List.all_cons, List.all_nil, Bool.and_true, Bool.true_and, Bool.and_false, Bool.false_and, Bool.or_true, Bool.true_or, Bool.or_false, Bool.false_or, Bool.and_eq_true, sel_true, sel_false, gP_bt, gP_bf, gP_st, gP_sf, gP_und, gpure_bt, gpure_bf, gpure_st, gpure_sf, gpure_und, gpure_sft, gpure_stf, gcall_sft, gcall_stf, gpure_tf, gpure_ft, gcall_bt, gcall_bf, gcall_st, gcall_sf, gcall_und, gcall_tf, gcall_ft, gcall_tt, gcall_ff, res1, res2, res0, rc1, rc2, ar_loadn, ar_load1, ae_store, ap_iad, ap_fad, fadV_ptr, ap_len, lenV_sl, lenV_nils, ap_pick, pickV_t, pickV_f, pickV_or, pickV_ors, pickV_orn, ar_call, pickV_and, pickV_ands, ap_not, notV_bool, ap_ext, extV_0, extV_1, ap_build, fillP_nil, fillP_cons, aa_bsl1, aa_box, boxV_dot, boxV_nd, fstep_nd, fstep_dot, Option.map_some, push_put, reserve0, reserve1_get, reserve1_get', reserve1_born, reserve1_born', sto_nd, sto_nd0, lod_nd, lod_nd_dot, lod_nd_par, lod1_nd_t, lod1_nd_x, lod_dot, lod1_dot_r, lod1_dot_c, sto_push_lt, lod_reserve, lod1_reserve, sto_nd_x, sto_nd_t, lt_lowed, cs_dec, cs_not, cs_and, cs_or, cs_valid, eq_self, kt_refl, kt_push, kt_lowed, lod_push_lt, lod1_push_lt, lod_lowed, lod1_lowed, lod_lowd, lod1_lowd, bin_lss, bin_leq, bin_gtr, bin_geq, bin_eql, bin_neq, bin_add, bin_sub, bin_eqb, bin_neb, bin_eqd, bin_neqd, bin_eqd0, bin_neqd0, bin_eqn, bin_neqn, List.map_cons, List.map_nil, Nat.add_zero, Nat.zero_add, Bool.not_true, Bool.not_eq_true', Bool.not_eq_false', Bool.and_eq_true, Bool.not_false, Bool.not_not, ne_eq, reduceCtorEq, not_false_eq_true, implies_true, true_and, and_true, ↓reduceIte, Nat.reduceEqDiff, Nat.reduceLT, Nat.reduceAdd, Nat.reduceMul, Nat.one_ne_zero, Nat.zero_ne_one, Nat.zero_mul, Nat.one_mul, lowed_next, lt_push, lt_push_same, same_self, same_push, same_lowed, same_lowed', decide_true, decide_false, Int.ofNat_lt, Int.ofNat_le, exists_const, ae_app, ap_slc, Option.map_none, mkR_none, mkR_some]
      obtain ⟨I, hI⟩ : ∃ I : Nat → Env → St → Prop, ∀ n e t, I n e t = ( Keep s t ∧ ∃ (a b acc : List Nd) (v' w' : AV), n = a.length + b.length ∧ elen e = 80 ∧ E e 0 = v' ∧ E e 1 = w' ∧ read ndC s v' = some a ∧ read ndC s w' = some b ∧ Own ndC s t (E e 6) acc ∧ acc.length + a.length + b.length ≤ 2000000 ∧ joinL l m = (joinL a b).map (acc ++ ·) ∧ (∀ x ∈ a, x.valid = true) ∧ ∀ x ∈ b, x.valid = true) := ⟨fun n e t => ( Keep s t ∧ ∃ (a b acc : List Nd) (v' w' : AV), n = a.length + b.length ∧ elen e = 80 ∧ E e 0 = v' ∧ E e 1 = w' ∧ read ndC s v' = some a ∧ read ndC s w' = some b ∧ Own ndC s t (E e 6) acc ∧ acc.length + a.length + b.length ≤ 2000000 ∧ joinL l m = (joinL a b).map (acc ++ ·) ∧ (∀ x ∈ a, x.valid = true) ∧ ∀ x ∈ b, x.valid = true), fun _ _ _ => rfl⟩
      refine lwp_inv I (n := l.length + m.length) ?_ ?_
      · rw [hI]
        exact ⟨.refl s, l, m, [], v, w, rfl, by simp only [E_pne, E_psame, elen_put, Nat.reduceEqDiff, ne_eq, not_false_eq_true, Nat.reduceLT, hlen], by simp only [E_pne, E_psame, elen_put, Nat.reduceEqDiff, ne_eq, not_false_eq_true, Nat.reduceLT, h0], by simp only [E_pne, E_psame, elen_put, Nat.reduceEqDiff, ne_eq, not_false_eq_true, Nat.reduceLT, h1], hr, hw, by simp only [E_pne, E_psame, elen_put, Nat.reduceEqDiff, ne_eq, not_false_eq_true, Nat.reduceLT, hlen]; exact .nil _ _ _, by unfold lim at *; simp; omega, by simp, hA, hB⟩
      intro n e t hi
      rw [hI] at hi
      obtain ⟨hK, a, b, acc, v', w', rfl, he, e0, e1, hra, hrb, hO, hle, hj, ha', hb'⟩ := hi
      have hL := lenV_read hra
      have hM := lenV_read hrb
      rcases a with _ | ⟨x, a⟩
      · have hz : ((0 : Int) < (([] : List Nd).length : Int)) = False := eq_false (by simp)
        simp only [joinL, Option.map_some] at hj
        rw [hj] at hp
        injection hp with hp
        obtain ⟨rfl, rfl⟩ := Prod.mk.inj hp
        obtain ⟨u1, t1, hap1, hK1, hO1⟩ := appV_list hK hO (hK.read hra) 48 (by simp [roomBytes] at *; omega)
        obtain ⟨u2, t2, hap2, hK2, hO2⟩ := appV_list hK1 hO1 (hK1.read hrb) 48 (by simp [roomBytes] at *; omega)
        have hap1 : appV t 6 48 (E e 6) v' = _ := hap1
        have hap2 : appV t1 6 48 u1 w' = _ := hap2
        simp (config := {contextual := true, maxDischargeDepth := 12}) only [tb, e0, e1, he, hL, hM, hap1, hap2, hz, E_pne, E_psame, elen_put, aev_t, aev_c, aev_f, pE_none, pstep_some, estep_some, gstep_tt, gstep_ff, gstep_tf, gstep_ft, gstep_und, ↓st_nil, ↓st_mv, ↓sg_mv, ↓st_pick, ↓sg_pick, ↓st_build, ↓sg_build, ↓st_bin, ↓sg_bin, ↓st_un, ↓sg_un, ↓st_conv, ↓sg_conv, ↓st_mkfn, ↓sg_mkfn, ↓st_slc, ↓sg_slc, ↓st_slcs, ↓sg_slcs, ↓st_fad, ↓sg_fad, ↓st_fld, ↓sg_fld, ↓st_iad, ↓sg_iad, ↓st_idxs, ↓sg_idxs, ↓st_ext, ↓sg_ext, ↓st_len, ↓sg_len, ↓st_lens, ↓sg_lens, ↓st_cap, ↓sg_cap, ↓st_mm, ↓sg_mm, ↓st_nchk, ↓sg_nchk, ↓st_load1, ↓sg_load1, ↓st_loadn, ↓sg_loadn, ↓st_b2s, ↓sg_b2s, ↓st_look, ↓sg_look, ↓st_lenm, ↓sg_lenm, ↓st_ent, ↓sg_ent, ↓st_calld, ↓sg_calld, ↓st_callvd, ↓sg_callvd, ↓st_call, ↓sg_call, ↓st_callv, ↓sg_callv, ↓st_store, ↓st_storef, ↓st_app, ↓st_appz, ↓st_copy, ↓st_mkmap, ↓st_mset, ↓st_mdel, ↓st_rng, ↓st_allo, ↓st_allor, ↓st_box, ↓st_boxr, ↓st_bsl, ↓st_bslr, ↓st_mksl, ↓st_mkslr, astep_some, bstep_some, ↓wp_regd, ↓wp_reg, ↓wp_skip, ↓wp_exit, ↓wp_ret, ↓wp_seq, ↓wp_block, ↓wp_cond, ↓wp_loop, cstep_true, cstep_false, rstep_true, noNxt_nil, noNxt_cons, isNx, forall_const, List.all_cons, List.all_nil, Bool.and_true, Bool.true_and, Bool.and_false, Bool.false_and, Bool.or_true, Bool.true_or, Bool.or_false, Bool.false_or, Bool.and_eq_true, sel_true, sel_false, gP_bt, gP_bf, gP_st, gP_sf, gP_und, gpure_bt, gpure_bf, gpure_st, gpure_sf, gpure_und, gpure_sft, gpure_stf, gcall_sft, gcall_stf, gpure_tf, gpure_ft, gcall_bt, gcall_bf, gcall_st, gcall_sf, gcall_und, gcall_tf, gcall_ft, gcall_tt, gcall_ff, res1, res2, res0, rc1, rc2, ar_loadn, ar_load1, ae_store, ap_iad, ap_fad, fadV_ptr, ap_len, lenV_sl, lenV_nils, ap_pick, pickV_t, pickV_f, pickV_or, pickV_ors, pickV_orn, ar_call, pickV_and, pickV_ands, ap_not, notV_bool, ap_ext, extV_0, extV_1, ap_build, fillP_nil, fillP_cons, aa_bsl1, aa_box, boxV_dot, boxV_nd, fstep_nd, fstep_dot, Option.map_some, push_put, reserve0, reserve1_get, reserve1_get', reserve1_born, reserve1_born', sto_nd, sto_nd0, lod_nd, lod_nd_dot, lod_nd_par, lod1_nd_t, lod1_nd_x, lod_dot, lod1_dot_r, lod1_dot_c, sto_push_lt, lod_reserve, lod1_reserve, sto_nd_x, sto_nd_t, lt_lowed, cs_dec, cs_not, cs_and, cs_or, cs_valid, eq_self, kt_refl, kt_push, kt_lowed, lod_push_lt, lod1_push_lt, lod_lowed, lod1_lowed, lod_lowd, lod1_lowd, bin_lss, bin_leq, bin_gtr, bin_geq, bin_eql, bin_neq, bin_add, bin_sub, bin_eqb, bin_neb, bin_eqd, bin_neqd, bin_eqd0, bin_neqd0, bin_eqn, bin_neqn, List.map_cons, List.map_nil, Nat.add_zero, Nat.zero_add, Bool.not_true, Bool.not_eq_true', Bool.not_eq_false', Bool.and_eq_true, Bool.not_false, Bool.not_not, ne_eq, reduceCtorEq, not_false_eq_true, implies_true, true_and, and_true, ↓reduceIte, Nat.reduceEqDiff, Nat.reduceLT, Nat.reduceAdd, Nat.reduceMul, Nat.one_ne_zero, Nat.zero_ne_one, Nat.zero_mul, Nat.one_mul, lowed_next, lt_push, lt_push_same, same_self, same_push, same_lowed, same_lowed', decide_true, decide_false, Int.ofNat_lt, Int.ofNat_le, exists_const, ae_app, ap_slc, Option.map_none, mkR_none, mkR_some]
        exact ⟨hK2, _, rfl, by simpa using hO2⟩
      rcases b with _ | ⟨y, b⟩
      · have hz : ((0 : Int) < (([] : List Nd).length : Int)) = False := eq_false (by simp)
        have hz2 : ((0 : Int) < ((x :: a).length : Int)) = True := eq_true (by simp)
        simp only [joinL_nil, Option.map_some] at hj
        rw [hj] at hp
        injection hp with hp
        obtain ⟨rfl, rfl⟩ := Prod.mk.inj hp
        obtain ⟨u1, t1, hap1, hK1, hO1⟩ := appV_list hK hO (hK.read hra) 48 (by simp [roomBytes] at *; omega)
        obtain ⟨u2, t2, hap2, hK2, hO2⟩ := appV_list hK1 hO1 (hK1.read hrb) 48 (by simp [roomBytes] at *; omega)
        have hap1 : appV t 6 48 (E e 6) v' = _ := hap1
        have hap2 : appV t1 6 48 u1 w' = _ := hap2
        simp (config := {contextual := true, maxDischargeDepth := 12}) only [tb, e0, e1, he, hL, hM, hap1, hap2, hz, hz2, E_pne, E_psame, elen_put, aev_t, aev_c, aev_f, pE_none, pstep_some, estep_some, gstep_tt, gstep_ff, gstep_tf, gstep_ft, gstep_und, ↓st_nil, ↓st_mv, ↓sg_mv, ↓st_pick, ↓sg_pick, ↓st_build, ↓sg_build, ↓st_bin, ↓sg_bin, ↓st_un, ↓sg_un, ↓st_conv, ↓sg_conv, ↓st_mkfn, ↓sg_mkfn, ↓st_slc, ↓sg_slc, ↓st_slcs, ↓sg_slcs, ↓st_fad, ↓sg_fad, ↓st_fld, ↓sg_fld, ↓st_iad, ↓sg_iad, ↓st_idxs, ↓sg_idxs, ↓st_ext, ↓sg_ext, ↓st_len, ↓sg_len, ↓st_lens, ↓sg_lens, ↓st_cap, ↓sg_cap, ↓st_mm, ↓sg_mm, ↓st_nchk, ↓sg_nchk, ↓st_load1, ↓sg_load1, ↓st_loadn, ↓sg_loadn, ↓st_b2s, ↓sg_b2s, ↓st_look, ↓sg_look, ↓st_lenm, ↓sg_lenm, ↓st_ent, ↓sg_ent, ↓st_calld, ↓sg_calld, ↓st_callvd, ↓sg_callvd, ↓st_call, ↓sg_call, ↓st_callv, ↓sg_callv, ↓st_store, ↓st_storef, ↓st_app, ↓st_appz, ↓st_copy, ↓st_mkmap, ↓st_mset, ↓st_mdel, ↓st_rng, ↓st_allo, ↓st_allor, ↓st_box, ↓st_boxr, ↓st_bsl, ↓st_bslr, ↓st_mksl, ↓st_mkslr, astep_some, bstep_some, ↓wp_regd, ↓wp_reg, ↓wp_skip, ↓wp_exit, ↓wp_ret, ↓wp_seq, ↓wp_block, ↓wp_cond, ↓wp_loop, cstep_true, cstep_false, rstep_true, noNxt_nil, noNxt_cons, isNx, forall_const, List.all_cons, List.all_nil, Bool.and_true, Bool.true_and, Bool.and_false, Bool.false_and, Bool.or_true, Bool.true_or, Bool.or_false, Bool.false_or, Bool.and_eq_true, sel_true, sel_false, gP_bt, gP_bf, gP_st, gP_sf, gP_und, gpure_bt, gpure_bf, gpure_st, gpure_sf, gpure_und, gpure_sft, gpure_stf, gcall_sft, gcall_stf, gpure_tf, gpure_ft, gcall_bt, gcall_bf, gcall_st, gcall_sf, gcall_und, gcall_tf, gcall_ft, gcall_tt, gcall_ff, res1, res2, res0, rc1, rc2, ar_loadn, ar_load1, ae_store, ap_iad, ap_fad, fadV_ptr, ap_len, lenV_sl, lenV_nils, ap_pick, pickV_t, pickV_f, pickV_or, pickV_ors, pickV_orn, ar_call, pickV_and, pickV_ands, ap_not, notV_bool, ap_ext, extV_0, extV_1, ap_build, fillP_nil, fillP_cons, aa_bsl1, aa_box, boxV_dot, boxV_nd, fstep_nd, fstep_dot, Option.map_some, push_put, reserve0, reserve1_get, reserve1_get', reserve1_born, reserve1_born', sto_nd, sto_nd0, lod_nd, lod_nd_dot, lod_nd_par, lod1_nd_t, lod1_nd_x, lod_dot, lod1_dot_r, lod1_dot_c, sto_push_lt, lod_reserve, lod1_reserve, sto_nd_x, sto_nd_t, lt_lowed, cs_dec, cs_not, cs_and, cs_or, cs_valid, eq_self, kt_refl, kt_push, kt_lowed, lod_push_lt, lod1_push_lt, lod_lowed, lod1_lowed, lod_lowd, lod1_lowd, bin_lss, bin_leq, bin_gtr, bin_geq, bin_eql, bin_neq, bin_add, bin_sub, bin_eqb, bin_neb, bin_eqd, bin_neqd, bin_eqd0, bin_neqd0, bin_eqn, bin_neqn, List.map_cons, List.map_nil, Nat.add_zero, Nat.zero_add, Bool.not_true, Bool.not_eq_true', Bool.not_eq_false', Bool.and_eq_true, Bool.not_false, Bool.not_not, ne_eq, reduceCtorEq, not_false_eq_true, implies_true, true_and, and_true, ↓reduceIte, Nat.reduceEqDiff, Nat.reduceLT, Nat.reduceAdd, Nat.reduceMul, Nat.one_ne_zero, Nat.zero_ne_one, Nat.zero_mul, Nat.one_mul, lowed_next, lt_push, lt_push_same, same_self, same_push, same_lowed, same_lowed', decide_true, decide_false, Int.ofNat_lt, Int.ofNat_le, exists_const, ae_app, ap_slc, Option.map_none, mkR_none, mkR_some]
        exact ⟨hK2, _, rfl, by simpa using hO2⟩
      have hz1 : ((0 : Int) < ((x :: a).length : Int)) = True := eq_true (by simp)
      have hz2 : ((0 : Int) < ((y :: b).length : Int)) = True := eq_true (by simp)
      obtain ⟨i1, a1, a2, al⟩ := nd_head hra hK
      obtain ⟨i2, b1, b2, bl⟩ := nd_head hrb hK
      obtain ⟨v1, hs1, hr1⟩ := slc_lo hra (k := .i64) (i := 1) (n := 1) rfl (by simp)
      obtain ⟨w1, hs2, hr2⟩ := slc_lo hrb (k := .i64) (i := 1) (n := 1) rfl (by simp)
      have hr1 := hr1 s (.refl s)
      have hr2 := hr2 s (.refl s)
      have hs1 : slcV 6 v' (some (.int .i64 1)) none = some v1 := hs1
      have hs2 : slcV 6 w' (some (.int .i64 1)) none = some w1 := hs2
      simp only [List.drop_succ_cons, List.drop_zero] at hr1 hr2
      have one : ∀ z : Nd, ∃ u t1, appV (t.push (.row (Nd.av z) true)) 6 48 (E e 6) (.sl t.next 0 1 (some 1) 6) = some (u, t1) ∧ Keep s t1 ∧ Own ndC s t1 u (acc ++ [z]) := fun z =>
        appV_one (C := ndC) hK hO z 48 (by simp [roomBytes] at *; omega)
      rcases dcmp_cases x.d y.d with ⟨hd, hb1, hb2⟩ | ⟨hd, hb1, hb2⟩ | ⟨hd, hb1, hb2, hxy⟩
      · obtain ⟨u, t1, hap, hK1, hO1⟩ := one x
        simp only [joinL, hb1, if_true, Option.map_map] at hj
        simp (config := {contextual := true, maxDischargeDepth := 12}) only [tb, q_Cmp, e0, e1, he, hL, hM, hz1, hz2, i1, i2, a1, a2, al, b1, b2, bl, hd, hs1, hap, E_pne, E_psame, elen_put, aev_t, aev_c, aev_f, pE_none, pstep_some, estep_some, gstep_tt, gstep_ff, gstep_tf, gstep_ft, gstep_und, ↓st_nil, ↓st_mv, ↓sg_mv, ↓st_pick, ↓sg_pick, ↓st_build, ↓sg_build, ↓st_bin, ↓sg_bin, ↓st_un, ↓sg_un, ↓st_conv, ↓sg_conv, ↓st_mkfn, ↓sg_mkfn, ↓st_slc, ↓sg_slc, ↓st_slcs, ↓sg_slcs, ↓st_fad, ↓sg_fad, ↓st_fld, ↓sg_fld, ↓st_iad, ↓sg_iad, ↓st_idxs, ↓sg_idxs, ↓st_ext, ↓sg_ext, ↓st_len, ↓sg_len, ↓st_lens, ↓sg_lens, ↓st_cap, ↓sg_cap, ↓st_mm, ↓sg_mm, ↓st_nchk, ↓sg_nchk, ↓st_load1, ↓sg_load1, ↓st_loadn, ↓sg_loadn, ↓st_b2s, ↓sg_b2s, ↓st_look, ↓sg_look, ↓st_lenm, ↓sg_lenm, ↓st_ent, ↓sg_ent, ↓st_calld, ↓sg_calld, ↓st_callvd, ↓sg_callvd, ↓st_call, ↓sg_call, ↓st_callv, ↓sg_callv, ↓st_store, ↓st_storef, ↓st_app, ↓st_appz, ↓st_copy, ↓st_mkmap, ↓st_mset, ↓st_mdel, ↓st_rng, ↓st_allo, ↓st_allor, ↓st_box, ↓st_boxr, ↓st_bsl, ↓st_bslr, ↓st_mksl, ↓st_mkslr, astep_some, bstep_some, ↓wp_regd, ↓wp_reg, ↓wp_skip, ↓wp_exit, ↓wp_ret, ↓wp_seq, ↓wp_block, ↓wp_cond, ↓wp_loop, cstep_true, cstep_false, rstep_true, noNxt_nil, noNxt_cons, isNx, forall_const, List.all_cons, List.all_nil, Bool.and_true, Bool.true_and, Bool.and_false, Bool.false_and, Bool.or_true, Bool.true_or, Bool.or_false, Bool.false_or, Bool.and_eq_true, sel_true, sel_false, gP_bt, gP_bf, gP_st, gP_sf, gP_und, gpure_bt, gpure_bf, gpure_st, gpure_sf, gpure_und, gpure_sft, gpure_stf, gcall_sft, gcall_stf, gpure_tf, gpure_ft, gcall_bt, gcall_bf, gcall_st, gcall_sf, gcall_und, gcall_tf, gcall_ft, gcall_tt, gcall_ff, res1, res2, res0, rc1, rc2, ar_loadn, ar_load1, ae_store, ap_iad, ap_fad, fadV_ptr, ap_len, lenV_sl, lenV_nils, ap_pick, pickV_t, pickV_f, pickV_or, pickV_ors, pickV_orn, ar_call, pickV_and, pickV_ands, ap_not, notV_bool, ap_ext, extV_0, extV_1, ap_build, fillP_nil, fillP_cons, aa_bsl1, aa_box, boxV_dot, boxV_nd, fstep_nd, fstep_dot, Option.map_some, push_put, reserve0, reserve1_get, reserve1_get', reserve1_born, reserve1_born', sto_nd, sto_nd0, lod_nd, lod_nd_dot, lod_nd_par, lod1_nd_t, lod1_nd_x, lod_dot, lod1_dot_r, lod1_dot_c, sto_push_lt, lod_reserve, lod1_reserve, sto_nd_x, sto_nd_t, lt_lowed, cs_dec, cs_not, cs_and, cs_or, cs_valid, eq_self, kt_refl, kt_push, kt_lowed, lod_push_lt, lod1_push_lt, lod_lowed, lod1_lowed, lod_lowd, lod1_lowd, bin_lss, bin_leq, bin_gtr, bin_geq, bin_eql, bin_neq, bin_add, bin_sub, bin_eqb, bin_neb, bin_eqd, bin_neqd, bin_eqd0, bin_neqd0, bin_eqn, bin_neqn, List.map_cons, List.map_nil, Nat.add_zero, Nat.zero_add, Bool.not_true, Bool.not_eq_true', Bool.not_eq_false', Bool.and_eq_true, Bool.not_false, Bool.not_not, ne_eq, reduceCtorEq, not_false_eq_true, implies_true, true_and, and_true, ↓reduceIte, Nat.reduceEqDiff, Nat.reduceLT, Nat.reduceAdd, Nat.reduceMul, Nat.one_ne_zero, Nat.zero_ne_one, Nat.zero_mul, Nat.one_mul, lowed_next, lt_push, lt_push_same, same_self, same_push, same_lowed, same_lowed', decide_true, decide_false, Int.ofNat_lt, Int.ofNat_le, exists_const, ae_app, ap_slc, Option.map_none, mkR_none, mkR_some]
        refine ⟨a.length + (y :: b).length, by simp, ?_⟩
        rw [hI]
        refine ⟨hK1, a, y :: b, acc ++ [x], v1, w', rfl, by simp only [E_pne, E_psame, elen_put, Nat.reduceEqDiff, ne_eq, not_false_eq_true, Nat.reduceLT, he], by simp only [E_pne, E_psame, elen_put, Nat.reduceEqDiff, ne_eq, not_false_eq_true, Nat.reduceLT, he], by simp only [E_pne, E_psame, elen_put, Nat.reduceEqDiff, ne_eq, not_false_eq_true, Nat.reduceLT, e1], hr1, hrb, by simp only [E_pne, E_psame, elen_put, Nat.reduceEqDiff, ne_eq, not_false_eq_true, Nat.reduceLT, he]; exact hO1, by simp at *; omega, ?_, fun z hz => ha' z (by simp [hz]), hb'⟩
        rw [hj]
        congr 1
        funext q
        simp
      · obtain ⟨u, t1, hap, hK1, hO1⟩ := one y
        have hd1 : ((1 : Int) = -1) = False := by decide
        simp only [joinL, hb1, hb2, Bool.false_eq_true, if_false, if_true, Option.map_map] at hj
        simp (config := {contextual := true, maxDischargeDepth := 12}) only [tb, q_Cmp, e0, e1, he, hL, hM, hz1, hz2, i1, i2, a1, a2, al, b1, b2, bl, hd, hd1, hs2, hap, E_pne, E_psame, elen_put, aev_t, aev_c, aev_f, pE_none, pstep_some, estep_some, gstep_tt, gstep_ff, gstep_tf, gstep_ft, gstep_und, ↓st_nil, ↓st_mv, ↓sg_mv, ↓st_pick, ↓sg_pick, ↓st_build, ↓sg_build, ↓st_bin, ↓sg_bin, ↓st_un, ↓sg_un, ↓st_conv, ↓sg_conv, ↓st_mkfn, ↓sg_mkfn, ↓st_slc, ↓sg_slc, ↓st_slcs, ↓sg_slcs, ↓st_fad, ↓sg_fad, ↓st_fld, ↓sg_fld, ↓st_iad, ↓sg_iad, ↓st_idxs, ↓sg_idxs, ↓st_ext, ↓sg_ext, ↓st_len, ↓sg_len, ↓st_lens, ↓sg_lens, ↓st_cap, ↓sg_cap, ↓st_mm, ↓sg_mm, ↓st_nchk, ↓sg_nchk, ↓st_load1, ↓sg_load1, ↓st_loadn, ↓sg_loadn, ↓st_b2s, ↓sg_b2s, ↓st_look, ↓sg_look, ↓st_lenm, ↓sg_lenm, ↓st_ent, ↓sg_ent, ↓st_calld, ↓sg_calld, ↓st_callvd, ↓sg_callvd, ↓st_call, ↓sg_call, ↓st_callv, ↓sg_callv, ↓st_store, ↓st_storef, ↓st_app, ↓st_appz, ↓st_copy, ↓st_mkmap, ↓st_mset, ↓st_mdel, ↓st_rng, ↓st_allo, ↓st_allor, ↓st_box, ↓st_boxr, ↓st_bsl, ↓st_bslr, ↓st_mksl, ↓st_mkslr, astep_some, bstep_some, ↓wp_regd, ↓wp_reg, ↓wp_skip, ↓wp_exit, ↓wp_ret, ↓wp_seq, ↓wp_block, ↓wp_cond, ↓wp_loop, cstep_true, cstep_false, rstep_true, noNxt_nil, noNxt_cons, isNx, forall_const, List.all_cons, List.all_nil, Bool.and_true, Bool.true_and, Bool.and_false, Bool.false_and, Bool.or_true, Bool.true_or, Bool.or_false, Bool.false_or, Bool.and_eq_true, sel_true, sel_false, gP_bt, gP_bf, gP_st, gP_sf, gP_und, gpure_bt, gpure_bf, gpure_st, gpure_sf, gpure_und, gpure_sft, gpure_stf, gcall_sft, gcall_stf, gpure_tf, gpure_ft, gcall_bt, gcall_bf, gcall_st, gcall_sf, gcall_und, gcall_tf, gcall_ft, gcall_tt, gcall_ff, res1, res2, res0, rc1, rc2, ar_loadn, ar_load1, ae_store, ap_iad, ap_fad, fadV_ptr, ap_len, lenV_sl, lenV_nils, ap_pick, pickV_t, pickV_f, pickV_or, pickV_ors, pickV_orn, ar_call, pickV_and, pickV_ands, ap_not, notV_bool, ap_ext, extV_0, extV_1, ap_build, fillP_nil, fillP_cons, aa_bsl1, aa_box, boxV_dot, boxV_nd, fstep_nd, fstep_dot, Option.map_some, push_put, reserve0, reserve1_get, reserve1_get', reserve1_born, reserve1_born', sto_nd, sto_nd0, lod_nd, lod_nd_dot, lod_nd_par, lod1_nd_t, lod1_nd_x, lod_dot, lod1_dot_r, lod1_dot_c, sto_push_lt, lod_reserve, lod1_reserve, sto_nd_x, sto_nd_t, lt_lowed, cs_dec, cs_not, cs_and, cs_or, cs_valid, eq_self, kt_refl, kt_push, kt_lowed, lod_push_lt, lod1_push_lt, lod_lowed, lod1_lowed, lod_lowd, lod1_lowd, bin_lss, bin_leq, bin_gtr, bin_geq, bin_eql, bin_neq, bin_add, bin_sub, bin_eqb, bin_neb, bin_eqd, bin_neqd, bin_eqd0, bin_neqd0, bin_eqn, bin_neqn, List.map_cons, List.map_nil, Nat.add_zero, Nat.zero_add, Bool.not_true, Bool.not_eq_true', Bool.not_eq_false', Bool.and_eq_true, Bool.not_false, Bool.not_not, ne_eq, reduceCtorEq, not_false_eq_true, implies_true, true_and, and_true, ↓reduceIte, Nat.reduceEqDiff, Nat.reduceLT, Nat.reduceAdd, Nat.reduceMul, Nat.one_ne_zero, Nat.zero_ne_one, Nat.zero_mul, Nat.one_mul, lowed_next, lt_push, lt_push_same, same_self, same_push, same_lowed, same_lowed', decide_true, decide_false, Int.ofNat_lt, Int.ofNat_le, exists_const, ae_app, ap_slc, Option.map_none, mkR_none, mkR_some]
        refine ⟨(x :: a).length + b.length, by simp, ?_⟩
        rw [hI]
        refine ⟨hK1, x :: a, b, acc ++ [y], v', w1, rfl, by simp only [E_pne, E_psame, elen_put, Nat.reduceEqDiff, ne_eq, not_false_eq_true, Nat.reduceLT, he], by simp only [E_pne, E_psame, elen_put, Nat.reduceEqDiff, ne_eq, not_false_eq_true, Nat.reduceLT, e0], by simp only [E_pne, E_psame, elen_put, Nat.reduceEqDiff, ne_eq, not_false_eq_true, Nat.reduceLT, he], hra, hr2, by simp only [E_pne, E_psame, elen_put, Nat.reduceEqDiff, ne_eq, not_false_eq_true, Nat.reduceLT, he]; exact hO1, by simp at *; omega, ?_, ha', fun z hz => hb' z (by simp [hz])⟩
        rw [hj]
        congr 1
        funext q
        simp
      · have hd1 : ((0 : Int) = -1) = False := by decide
        have hd2 : ((0 : Int) = 1) = False := by decide
        have hd3 : ((15 : Int) = 0) = False := by decide
        have hx := ha' x (by simp)
        have hy := hb' y (by simp)
        by_cases hc : x.clash y = true
        · have hMg : mergeV x y = .tup [.agg (Nd.av nd0), .int .i64 15] := by simp [mergeV, hx, hy, hc]
          simp only [joinL, hb1, hb2, hc, Bool.false_eq_true, if_false, if_true, Option.map_none] at hj
          rw [hj] at hp
          injection hp with hp
          obtain ⟨rfl, rfl⟩ := Prod.mk.inj hp
          simp (config := {contextual := true, maxDischargeDepth := 12}) only [tb, q_Cmp, q_Merge, hMg, e0, e1, he, hL, hM, hz1, hz2, i1, i2, a1, a2, al, b1, b2, bl, hd, hd1, hd2, hd3, E_pne, E_psame, elen_put, aev_t, aev_c, aev_f, pE_none, pstep_some, estep_some, gstep_tt, gstep_ff, gstep_tf, gstep_ft, gstep_und, ↓st_nil, ↓st_mv, ↓sg_mv, ↓st_pick, ↓sg_pick, ↓st_build, ↓sg_build, ↓st_bin, ↓sg_bin, ↓st_un, ↓sg_un, ↓st_conv, ↓sg_conv, ↓st_mkfn, ↓sg_mkfn, ↓st_slc, ↓sg_slc, ↓st_slcs, ↓sg_slcs, ↓st_fad, ↓sg_fad, ↓st_fld, ↓sg_fld, ↓st_iad, ↓sg_iad, ↓st_idxs, ↓sg_idxs, ↓st_ext, ↓sg_ext, ↓st_len, ↓sg_len, ↓st_lens, ↓sg_lens, ↓st_cap, ↓sg_cap, ↓st_mm, ↓sg_mm, ↓st_nchk, ↓sg_nchk, ↓st_load1, ↓sg_load1, ↓st_loadn, ↓sg_loadn, ↓st_b2s, ↓sg_b2s, ↓st_look, ↓sg_look, ↓st_lenm, ↓sg_lenm, ↓st_ent, ↓sg_ent, ↓st_calld, ↓sg_calld, ↓st_callvd, ↓sg_callvd, ↓st_call, ↓sg_call, ↓st_callv, ↓sg_callv, ↓st_store, ↓st_storef, ↓st_app, ↓st_appz, ↓st_copy, ↓st_mkmap, ↓st_mset, ↓st_mdel, ↓st_rng, ↓st_allo, ↓st_allor, ↓st_box, ↓st_boxr, ↓st_bsl, ↓st_bslr, ↓st_mksl, ↓st_mkslr, astep_some, bstep_some, ↓wp_regd, ↓wp_reg, ↓wp_skip, ↓wp_exit, ↓wp_ret, ↓wp_seq, ↓wp_block, ↓wp_cond, ↓wp_loop, cstep_true, cstep_false, rstep_true, noNxt_nil, noNxt_cons, isNx, forall_const, List.all_cons, List.all_nil, Bool.and_true, Bool.true_and, Bool.and_false, Bool.false_and, Bool.or_true, Bool.true_or, Bool.or_false, Bool.false_or, Bool.and_eq_true, sel_true, sel_false, gP_bt, gP_bf, gP_st, gP_sf, gP_und, gpure_bt, gpure_bf, gpure_st, gpure_sf, gpure_und, gpure_sft, gpure_stf, gcall_sft, gcall_stf, gpure_tf, gpure_ft, gcall_bt, gcall_bf, gcall_st, gcall_sf, gcall_und, gcall_tf, gcall_ft, gcall_tt, gcall_ff, res1, res2, res0, rc1, rc2, ar_loadn, ar_load1, ae_store, ap_iad, ap_fad, fadV_ptr, ap_len, lenV_sl, lenV_nils, ap_pick, pickV_t, pickV_f, pickV_or, pickV_ors, pickV_orn, ar_call, pickV_and, pickV_ands, ap_not, notV_bool, ap_ext, extV_0, extV_1, ap_build, fillP_nil, fillP_cons, aa_bsl1, aa_box, boxV_dot, boxV_nd, fstep_nd, fstep_dot, Option.map_some, push_put, reserve0, reserve1_get, reserve1_get', reserve1_born, reserve1_born', sto_nd, sto_nd0, lod_nd, lod_nd_dot, lod_nd_par, lod1_nd_t, lod1_nd_x, lod_dot, lod1_dot_r, lod1_dot_c, sto_push_lt, lod_reserve, lod1_reserve, sto_nd_x, sto_nd_t, lt_lowed, cs_dec, cs_not, cs_and, cs_or, cs_valid, eq_self, kt_refl, kt_push, kt_lowed, lod_push_lt, lod1_push_lt, lod_lowed, lod1_lowed, lod_lowd, lod1_lowd, bin_lss, bin_leq, bin_gtr, bin_geq, bin_eql, bin_neq, bin_add, bin_sub, bin_eqb, bin_neb, bin_eqd, bin_neqd, bin_eqd0, bin_neqd0, bin_eqn, bin_neqn, List.map_cons, List.map_nil, Nat.add_zero, Nat.zero_add, Bool.not_true, Bool.not_eq_true', Bool.not_eq_false', Bool.and_eq_true, Bool.not_false, Bool.not_not, ne_eq, reduceCtorEq, not_false_eq_true, implies_true, true_and, and_true, ↓reduceIte, Nat.reduceEqDiff, Nat.reduceLT, Nat.reduceAdd, Nat.reduceMul, Nat.one_ne_zero, Nat.zero_ne_one, Nat.zero_mul, Nat.one_mul, lowed_next, lt_push, lt_push_same, same_self, same_push, same_lowed, same_lowed', decide_true, decide_false, Int.ofNat_lt, Int.ofNat_le, exists_const, ae_app, ap_slc, Option.map_none, mkR_none, mkR_some]
          exact ⟨hK.lowed.push _, _, rfl, .nil _ _ _⟩
        · have hMg : mergeV x y = .tup [.agg (Nd.av (x.merge y)), .int .i64 0] := by simp [mergeV, hx, hy, hc]
          obtain ⟨u, t1, hap, hK1, hO1⟩ := appV_one (C := ndC) (hK.lowed.push (.row (Nd.av (x.merge y)) true)) (hO.lowed.push _) (x.merge y) 48 (by simp [roomBytes] at *; omega)
          have hap : appV ((t.lowed.push (.row (Nd.av (x.merge y)) true)).push (.row (Nd.av (x.merge y)) true)) 6 48 (E e 6) (.sl (t.lowed.push (.row (Nd.av (x.merge y)) true)).next 0 1 (some 1) 6) = some (u, t1) := hap
          simp only [joinL, hb1, hb2, hc, Bool.false_eq_true, if_false, Option.map_map] at hj
          simp (config := {contextual := true, maxDischargeDepth := 12}) only [tb, q_Cmp, q_Merge, hMg, e0, e1, he, hL, hM, hz1, hz2, i1, i2, a1, a2, al, b1, b2, bl, hd, hd1, hd2, hs1, hs2, hap, E_pne, E_psame, elen_put, aev_t, aev_c, aev_f, pE_none, pstep_some, estep_some, gstep_tt, gstep_ff, gstep_tf, gstep_ft, gstep_und, ↓st_nil, ↓st_mv, ↓sg_mv, ↓st_pick, ↓sg_pick, ↓st_build, ↓sg_build, ↓st_bin, ↓sg_bin, ↓st_un, ↓sg_un, ↓st_conv, ↓sg_conv, ↓st_mkfn, ↓sg_mkfn, ↓st_slc, ↓sg_slc, ↓st_slcs, ↓sg_slcs, ↓st_fad, ↓sg_fad, ↓st_fld, ↓sg_fld, ↓st_iad, ↓sg_iad, ↓st_idxs, ↓sg_idxs, ↓st_ext, ↓sg_ext, ↓st_len, ↓sg_len, ↓st_lens, ↓sg_lens, ↓st_cap, ↓sg_cap, ↓st_mm, ↓sg_mm, ↓st_nchk, ↓sg_nchk, ↓st_load1, ↓sg_load1, ↓st_loadn, ↓sg_loadn, ↓st_b2s, ↓sg_b2s, ↓st_look, ↓sg_look, ↓st_lenm, ↓sg_lenm, ↓st_ent, ↓sg_ent, ↓st_calld, ↓sg_calld, ↓st_callvd, ↓sg_callvd, ↓st_call, ↓sg_call, ↓st_callv, ↓sg_callv, ↓st_store, ↓st_storef, ↓st_app, ↓st_appz, ↓st_copy, ↓st_mkmap, ↓st_mset, ↓st_mdel, ↓st_rng, ↓st_allo, ↓st_allor, ↓st_box, ↓st_boxr, ↓st_bsl, ↓st_bslr, ↓st_mksl, ↓st_mkslr, astep_some, bstep_some, ↓wp_regd, ↓wp_reg, ↓wp_skip, ↓wp_exit, ↓wp_ret, ↓wp_seq, ↓wp_block, ↓wp_cond, ↓wp_loop, cstep_true, cstep_false, rstep_true, noNxt_nil, noNxt_cons, isNx, forall_const, List.all_cons, List.all_nil, Bool.and_true, Bool.true_and, Bool.and_false, Bool.false_and, Bool.or_true, Bool.true_or, Bool.or_false, Bool.false_or, Bool.and_eq_true, sel_true, sel_false, gP_bt, gP_bf, gP_st, gP_sf, gP_und, gpure_bt, gpure_bf, gpure_st, gpure_sf, gpure_und, gpure_sft, gpure_stf, gcall_sft, gcall_stf, gpure_tf, gpure_ft, gcall_bt, gcall_bf, gcall_st, gcall_sf, gcall_und, gcall_tf, gcall_ft, gcall_tt, gcall_ff, res1, res2, res0, rc1, rc2, ar_loadn, ar_load1, ae_store, ap_iad, ap_fad, fadV_ptr, ap_len, lenV_sl, lenV_nils, ap_pick, pickV_t, pickV_f, pickV_or, pickV_ors, pickV_orn, ar_call, pickV_and, pickV_ands, ap_not, notV_bool, ap_ext, extV_0, extV_1, ap_build, fillP_nil, fillP_cons, aa_bsl1, aa_box, boxV_dot, boxV_nd, fstep_nd, fstep_dot, Option.map_some, push_put, reserve0, reserve1_get, reserve1_get', reserve1_born, reserve1_born', sto_nd, sto_nd0, lod_nd, lod_nd_dot, lod_nd_par, lod1_nd_t, lod1_nd_x, lod_dot, lod1_dot_r, lod1_dot_c, sto_push_lt, lod_reserve, lod1_reserve, sto_nd_x, sto_nd_t, lt_lowed, cs_dec, cs_not, cs_and, cs_or, cs_valid, eq_self, kt_refl, kt_push, kt_lowed, lod_push_lt, lod1_push_lt, lod_lowed, lod1_lowed, lod_lowd, lod1_lowd, bin_lss, bin_leq, bin_gtr, bin_geq, bin_eql, bin_neq, bin_add, bin_sub, bin_eqb, bin_neb, bin_eqd, bin_neqd, bin_eqd0, bin_neqd0, bin_eqn, bin_neqn, List.map_cons, List.map_nil, Nat.add_zero, Nat.zero_add, Bool.not_true, Bool.not_eq_true', Bool.not_eq_false', Bool.and_eq_true, Bool.not_false, Bool.not_not, ne_eq, reduceCtorEq, not_false_eq_true, implies_true, true_and, and_true, ↓reduceIte, Nat.reduceEqDiff, Nat.reduceLT, Nat.reduceAdd, Nat.reduceMul, Nat.one_ne_zero, Nat.zero_ne_one, Nat.zero_mul, Nat.one_mul, lowed_next, lt_push, lt_push_same, same_self, same_push, same_lowed, same_lowed', decide_true, decide_false, Int.ofNat_lt, Int.ofNat_le, exists_const, ae_app, ap_slc, Option.map_none, mkR_none, mkR_some]
          refine ⟨a.length + b.length, by simp; omega, ?_⟩
          rw [hI]
          refine ⟨hK1, a, b, acc ++ [x.merge y], v1, w1, rfl, by simp only [E_pne, E_psame, elen_put, Nat.reduceEqDiff, ne_eq, not_false_eq_true, Nat.reduceLT, he], by simp only [E_pne, E_psame, elen_put, Nat.reduceEqDiff, ne_eq, not_false_eq_true, Nat.reduceLT, he], by simp only [E_pne, E_psame, elen_put, Nat.reduceEqDiff, ne_eq, not_false_eq_true, Nat.reduceLT, he], hr1, hr2, by simp only [E_pne, E_psame, elen_put, Nat.reduceEqDiff, ne_eq, not_false_eq_true, Nat.reduceLT, he]; exact hO1, by simp at *; omega, ?_, fun z hz => ha' z (by simp [hz]), fun z hz => hb' z (by simp [hz])⟩
          rw [hj]
          congr 1
          funext q
          simp

end Go.AM
