/-
  The statement JoinValid in the abstract machine. Own work of this project; in part printed by a program of it.
-/
import Derived.Test.YtihjheckdjocoaaAmFV
set_option linter.unusedVariables false
set_option linter.unusedSimpArgs false
set_option maxRecDepth 100000
set_option maxHeartbeats 8000000
namespace Go.AM
open Go Go.Proofs

theorem cs_true (A B : Prop) : cstep (.bool (decide True)) A B = A := by simp [cstep]
theorem q_known (cl : Bool) (s : St) : acall (closed [] (.bool true)) cl [] s = some (.bool true, s) := acall_ro (by simp [closed]) rfl
/-- A statement of two lists: true. -/
def law2 : Con := fun xs s => match xs with
  | [v, w] => match read ndC s v, read ndC s w with
    | some _, some _ => some (.bool true, s.lowed)
    | _, _ => none
  | _ => none
theorem law2_some {xs : List AV} {s : St} {r : AV} {s' : St} (h : law2 xs s = some (r, s')) : ∃ v w l m, xs = [v, w] ∧ read ndC s v = some l ∧ read ndC s w = some m ∧ r = .bool true ∧ s' = s.lowed := by
  unfold law2 at h
  split at h
  · split at h
    · rename_i v w _ _ l m hr hw
      injection h with h
      obtain ⟨rfl, rfl⟩ := Prod.mk.inj h
      exact ⟨v, w, l, m, rfl, hr, hw, rfl, rfl⟩
    · cases h
  · cases h
theorem clone_stain {s : St} {v : AV} {l : List Nd} (hr : read ndC s v = some l) (hl : l.length ≤ lim) : ∃ c t2, acall cloneC false [v] s = some (c, t2) ∧ Keep s t2 ∧ read ndC t2 c = some l ∧ ∃ t3, acall stainC false [c] t2 = some (.tup [], t3) ∧ Keep s t3 := by
  rcases acall_clone hr hl with ⟨rfl, hc⟩ | ⟨_, ⟨rfl, hc⟩ | ⟨h0, hc⟩⟩
  · exact ⟨_, _, hc, .refl s, hr, s, acall_rol rfl rfl, .refl s⟩
  · have hK := (keep_lowed s).push (.row [] true)
    refine ⟨_, _, hc, hK, ?_, _, acall_rol rfl rfl, hK⟩
    exact read_of (C := ndC) (n := 0) rfl (push_row_get s _) (by simp) rfl
  · have hK := (keep_lowed s).push (.row (ndC.cells l) true)
    have hg := push_row_get s (.row (ndC.cells l) true)
    obtain ⟨t2, ht2⟩ : ∃ t2, t2 = s.lowed.push (.row (ndC.cells l) true) := ⟨_, rfl⟩
    rw [← ht2] at hK hg hc
    have hcl : (ndC.cells l).length = l.length * 6 := cells_len ndC l
    have hd : decL ndC l.length (ndC.cells l) = some l := by
      have := decL_cells ndC l []
      rwa [List.append_nil] at this
    have hlt := St.get_lt hg
    have hn : l.length ≠ 0 := by simpa using h0
    refine ⟨_, _, hc, hK, ?_, t2.put s.next (.row (ndC.cells (l.map stainN)) true), ?_, hK.put _ (Nat.le_refl _) hlt⟩
    · exact read_of (C := ndC) rfl hg (by rw [hcl]; simp [ndC]) (by rw [List.drop_zero, ← cells_len]; simp)
    · have hcs : stainC [.sl s.next 0 l.length none 6] { heap := t2.heap, next := t2.next, low := t2.next } = some (.tup [], ({ heap := t2.heap, next := t2.next, low := t2.next } : St).put s.next (.row (ndC.cells (l.map stainN)) true)) := by
        have hg' : ({ heap := t2.heap, next := t2.next, low := t2.next } : St).get s.next = some (.row (ndC.cells l) true) := hg
        simp only [stainC, if_neg hn, hg', hd, hcl, hl, and_self, if_true]
      simp only [acall, hcs]
      have e : (AV.tup []).ground = true := rfl
      have e3 : decide (t2.next ≤ (({ heap := t2.heap, next := t2.next, low := t2.next } : St).put s.next (.row (ndC.cells (l.map stainN)) true)).low) = false := decide_eq_false (by simp only [St.low_put]; omega)
      rw [e, e3]
      simp only [Bool.and_false, Bool.false_eq_true, if_false, St.put]
      congr 3
      omega
theorem s_JoinValid : SoundAt Try.prog 7 (law2) :=
  con_keep (tb_sound (l := [(8, closed [] (.bool true)), (9, conL ndC fStore), (13, conF ndC (pL ndC gCopy)), (15, conLL ndC ndC fSame), (17, stainC), (20, conL ndC fValid), (24, cloneC), (25, conLL ndC ndC fSame)]) (by simpa using ⟨s_known, s_Store, s_RCopy, s_Same, s_stain, s_JValid, s_jcopy, s_JEqual⟩)) mixed Try.func7 k7 c7 fun args s r s' h => by
    obtain ⟨v, w, l, m, rfl, hr, hw, rfl, rfl⟩ := law2_some h
    refine ⟨rfl, rfl, by simp [a7], fun env hlen ha => ?_⟩
    have h0 : E env 0 = _ := ha 0 _ rfl
    have h1 : E env 1 = _ := ha 1 _ rfl
    have hlen : elen env = _ := hlen
    simp only [a7] at hlen
    unfold a7
    have hL := lenV_read hr
    have hM := lenV_read hw
    by_cases h1l : (60 : Int) < (l.length : Int)
    · have hz1 := eq_true h1l
      simp (config := {contextual := true, maxDischargeDepth := 12}) only [tb, q_known, h0, h1, hlen, hL, hM, hz1, E_pne, E_psame, elen_put, aev_t, aev_c, aev_f, pE_none, pstep_some, estep_some, gstep_tt, gstep_ff, gstep_tf, gstep_ft, gstep_und, ↓st_nil, ↓st_mv, ↓sg_mv, ↓st_pick, ↓sg_pick, ↓st_build, ↓sg_build, ↓st_bin, ↓sg_bin, ↓st_un, ↓sg_un, ↓st_conv, ↓sg_conv, ↓st_mkfn, ↓sg_mkfn, ↓st_slc, ↓sg_slc, ↓st_slcs, ↓sg_slcs, ↓st_fad, ↓sg_fad, ↓st_fld, ↓sg_fld, ↓st_iad, ↓sg_iad, ↓st_idxs, ↓sg_idxs, ↓st_ext, ↓sg_ext, ↓st_len, ↓sg_len, ↓st_lens, ↓sg_lens, ↓st_cap, ↓sg_cap, ↓st_mm, ↓sg_mm, ↓st_nchk, ↓sg_nchk, ↓st_load1, ↓sg_load1, ↓st_loadn, ↓sg_loadn, ↓st_b2s, ↓sg_b2s, ↓st_look, ↓sg_look, ↓st_lenm, ↓sg_lenm, ↓st_ent, ↓sg_ent, ↓st_calld, ↓sg_calld, ↓st_callvd, ↓sg_callvd, ↓st_call, ↓sg_call, ↓st_callv, ↓sg_callv, ↓st_store, ↓st_storef, ↓st_app, ↓st_appz, ↓st_copy, ↓st_mkmap, ↓st_mset, ↓st_mdel, ↓st_rng, ↓st_allo, ↓st_allor, ↓st_box, ↓st_boxr, ↓st_bsl, ↓st_bslr, ↓st_mksl, ↓st_mkslr, astep_some, bstep_some, ↓wp_regd, ↓wp_reg, ↓wp_skip, ↓wp_exit, ↓wp_ret, ↓wp_seq, ↓wp_block, ↓wp_cond, ↓wp_loop, cstep_true, cstep_false, rstep_true, noNxt_nil, noNxt_cons, isNx, forall_const, List.all_cons, List.all_nil, Bool.and_true, Bool.true_and, Bool.and_false, Bool.false_and, Bool.or_true, Bool.true_or, Bool.or_false, Bool.false_or, Bool.and_eq_true, sel_true, sel_false, gP_bt, gP_bf, gP_st, gP_sf, gP_und, gpure_bt, gpure_bf, gpure_st, gpure_sf, gpure_und, gpure_sft, gpure_stf, gcall_sft, gcall_stf, gpure_tf, gpure_ft, gcall_bt, gcall_bf, gcall_st, gcall_sf, gcall_und, gcall_tf, gcall_ft, gcall_tt, gcall_ff, res1, res2, res0, rc1, rc2, ar_loadn, ar_load1, ae_store, ap_iad, ap_fad, fadV_ptr, ap_len, lenV_sl, lenV_nils, ap_pick, pickV_t, pickV_f, pickV_or, pickV_ors, pickV_orn, ar_call, pickV_and, pickV_ands, ap_not, notV_bool, ap_ext, extV_0, extV_1, ap_build, fillP_nil, fillP_cons, aa_bsl1, aa_box, boxV_dot, boxV_nd, fstep_nd, fstep_dot, Option.map_some, push_put, reserve0, reserve1_get, reserve1_get', reserve1_born, reserve1_born', sto_nd, sto_nd0, lod_nd, lod_nd_dot, lod_nd_par, lod1_nd_t, lod1_nd_x, lod_dot, lod1_dot_r, lod1_dot_c, sto_push_lt, lod_reserve, lod1_reserve, sto_nd_x, sto_nd_t, lt_lowed, cs_dec, cs_not, cs_and, cs_or, cs_valid, eq_self, kt_refl, kt_push, kt_lowed, lod_push_lt, lod1_push_lt, lod_lowed, lod1_lowed, lod_lowd, lod1_lowd, bin_lss, bin_leq, bin_gtr, bin_geq, bin_eql, bin_neq, bin_add, bin_sub, bin_eqb, bin_neb, bin_eqd, bin_neqd, bin_eqd0, bin_neqd0, bin_eqn, bin_neqn, List.map_cons, List.map_nil, Nat.add_zero, Nat.zero_add, Bool.not_true, Bool.not_eq_true', Bool.not_eq_false', Bool.and_eq_true, Bool.not_false, Bool.not_not, ne_eq, reduceCtorEq, not_false_eq_true, implies_true, true_and, and_true, ↓reduceIte, Nat.reduceEqDiff, Nat.reduceLT, Nat.reduceAdd, Nat.reduceMul, Nat.one_ne_zero, Nat.zero_ne_one, Nat.zero_mul, Nat.one_mul, lowed_next, lt_push, lt_push_same, same_self, same_push, same_lowed, same_lowed', decide_true, decide_false, Int.ofNat_lt, Int.ofNat_le, exists_const, ae_app, ap_slc, Option.map_none, mkR_none, mkR_some, ar_look, ae_mset, ae_rng, ae_mkmap0, ar_ent, lookV_push, lookV_lowed, msetV_push, msetV_lowed, lt_put, same_put, sto_over, sto_lowed, cs_dead, Option.map_some, beq_self_eq_true, decide_true, cs_true]
    · have hz1 := eq_false h1l
      by_cases h2l : (60 : Int) < (m.length : Int)
      · have hz2 := eq_true h2l
        simp (config := {contextual := true, maxDischargeDepth := 12}) only [tb, q_known, h0, h1, hlen, hL, hM, hz1, hz2, E_pne, E_psame, elen_put, aev_t, aev_c, aev_f, pE_none, pstep_some, estep_some, gstep_tt, gstep_ff, gstep_tf, gstep_ft, gstep_und, ↓st_nil, ↓st_mv, ↓sg_mv, ↓st_pick, ↓sg_pick, ↓st_build, ↓sg_build, ↓st_bin, ↓sg_bin, ↓st_un, ↓sg_un, ↓st_conv, ↓sg_conv, ↓st_mkfn, ↓sg_mkfn, ↓st_slc, ↓sg_slc, ↓st_slcs, ↓sg_slcs, ↓st_fad, ↓sg_fad, ↓st_fld, ↓sg_fld, ↓st_iad, ↓sg_iad, ↓st_idxs, ↓sg_idxs, ↓st_ext, ↓sg_ext, ↓st_len, ↓sg_len, ↓st_lens, ↓sg_lens, ↓st_cap, ↓sg_cap, ↓st_mm, ↓sg_mm, ↓st_nchk, ↓sg_nchk, ↓st_load1, ↓sg_load1, ↓st_loadn, ↓sg_loadn, ↓st_b2s, ↓sg_b2s, ↓st_look, ↓sg_look, ↓st_lenm, ↓sg_lenm, ↓st_ent, ↓sg_ent, ↓st_calld, ↓sg_calld, ↓st_callvd, ↓sg_callvd, ↓st_call, ↓sg_call, ↓st_callv, ↓sg_callv, ↓st_store, ↓st_storef, ↓st_app, ↓st_appz, ↓st_copy, ↓st_mkmap, ↓st_mset, ↓st_mdel, ↓st_rng, ↓st_allo, ↓st_allor, ↓st_box, ↓st_boxr, ↓st_bsl, ↓st_bslr, ↓st_mksl, ↓st_mkslr, astep_some, bstep_some, ↓wp_regd, ↓wp_reg, ↓wp_skip, ↓wp_exit, ↓wp_ret, ↓wp_seq, ↓wp_block, ↓wp_cond, ↓wp_loop, cstep_true, cstep_false, rstep_true, noNxt_nil, noNxt_cons, isNx, forall_const, List.all_cons, List.all_nil, Bool.and_true, Bool.true_and, Bool.and_false, Bool.false_and, Bool.or_true, Bool.true_or, Bool.or_false, Bool.false_or, Bool.and_eq_true, sel_true, sel_false, gP_bt, gP_bf, gP_st, gP_sf, gP_und, gpure_bt, gpure_bf, gpure_st, gpure_sf, gpure_und, gpure_sft, gpure_stf, gcall_sft, gcall_stf, gpure_tf, gpure_ft, gcall_bt, gcall_bf, gcall_st, gcall_sf, gcall_und, gcall_tf, gcall_ft, gcall_tt, gcall_ff, res1, res2, res0, rc1, rc2, ar_loadn, ar_load1, ae_store, ap_iad, ap_fad, fadV_ptr, ap_len, lenV_sl, lenV_nils, ap_pick, pickV_t, pickV_f, pickV_or, pickV_ors, pickV_orn, ar_call, pickV_and, pickV_ands, ap_not, notV_bool, ap_ext, extV_0, extV_1, ap_build, fillP_nil, fillP_cons, aa_bsl1, aa_box, boxV_dot, boxV_nd, fstep_nd, fstep_dot, Option.map_some, push_put, reserve0, reserve1_get, reserve1_get', reserve1_born, reserve1_born', sto_nd, sto_nd0, lod_nd, lod_nd_dot, lod_nd_par, lod1_nd_t, lod1_nd_x, lod_dot, lod1_dot_r, lod1_dot_c, sto_push_lt, lod_reserve, lod1_reserve, sto_nd_x, sto_nd_t, lt_lowed, cs_dec, cs_not, cs_and, cs_or, cs_valid, eq_self, kt_refl, kt_push, kt_lowed, lod_push_lt, lod1_push_lt, lod_lowed, lod1_lowed, lod_lowd, lod1_lowd, bin_lss, bin_leq, bin_gtr, bin_geq, bin_eql, bin_neq, bin_add, bin_sub, bin_eqb, bin_neb, bin_eqd, bin_neqd, bin_eqd0, bin_neqd0, bin_eqn, bin_neqn, List.map_cons, List.map_nil, Nat.add_zero, Nat.zero_add, Bool.not_true, Bool.not_eq_true', Bool.not_eq_false', Bool.and_eq_true, Bool.not_false, Bool.not_not, ne_eq, reduceCtorEq, not_false_eq_true, implies_true, true_and, and_true, ↓reduceIte, Nat.reduceEqDiff, Nat.reduceLT, Nat.reduceAdd, Nat.reduceMul, Nat.one_ne_zero, Nat.zero_ne_one, Nat.zero_mul, Nat.one_mul, lowed_next, lt_push, lt_push_same, same_self, same_push, same_lowed, same_lowed', decide_true, decide_false, Int.ofNat_lt, Int.ofNat_le, exists_const, ae_app, ap_slc, Option.map_none, mkR_none, mkR_some, ar_look, ae_mset, ae_rng, ae_mkmap0, ar_ent, lookV_push, lookV_lowed, msetV_push, msetV_lowed, lt_put, same_put, sto_over, sto_lowed, cs_dead, Option.map_some, beq_self_eq_true, decide_true, cs_true]
      · have hz2 := eq_false h2l
        have hl : l.length ≤ lim := by unfold lim; omega
        have hm : m.length ≤ lim := by unfold lim; omega
        obtain ⟨w1, t1, hcp, hK1, hO1⟩ := fresh_L (D := ndC) (f := gCopy) hr hl rfl (by simp)
        rw [mkR_none] at hcp
        obtain ⟨c, t2, hc, hK2, hrc, t3, hs, hK3⟩ := clone_stain (hK1.read hr) hl
        have hr2 := hK2.read (hK1.read hr)
        have hw2 := hK2.read (hK1.read hw)
        have q1 := q_StValid false hr2 hl
        have q2 := q_Store false hr2 hl
        have q3 := q_JEqual false hr2 hw2 hl hm
        have q4 := q_Same false hr2 hw2 hl hm
        have q5 := q_JEqual false hw2 hw2 hm hm
        have q6 := q_Same false hrc hr2 hl hl
        have q7 := q_Same false (hK3.read (hK1.read hr)) (hK3.read hO1.read) hl hl
        simp (config := {contextual := true, maxDischargeDepth := 12}) only [tb, q_known, h0, h1, hlen, hL, hM, hz1, hz2, hcp, hc, hs, q1, q2, q3, q4, q5, q6, q7, E_pne, E_psame, elen_put, aev_t, aev_c, aev_f, pE_none, pstep_some, estep_some, gstep_tt, gstep_ff, gstep_tf, gstep_ft, gstep_und, ↓st_nil, ↓st_mv, ↓sg_mv, ↓st_pick, ↓sg_pick, ↓st_build, ↓sg_build, ↓st_bin, ↓sg_bin, ↓st_un, ↓sg_un, ↓st_conv, ↓sg_conv, ↓st_mkfn, ↓sg_mkfn, ↓st_slc, ↓sg_slc, ↓st_slcs, ↓sg_slcs, ↓st_fad, ↓sg_fad, ↓st_fld, ↓sg_fld, ↓st_iad, ↓sg_iad, ↓st_idxs, ↓sg_idxs, ↓st_ext, ↓sg_ext, ↓st_len, ↓sg_len, ↓st_lens, ↓sg_lens, ↓st_cap, ↓sg_cap, ↓st_mm, ↓sg_mm, ↓st_nchk, ↓sg_nchk, ↓st_load1, ↓sg_load1, ↓st_loadn, ↓sg_loadn, ↓st_b2s, ↓sg_b2s, ↓st_look, ↓sg_look, ↓st_lenm, ↓sg_lenm, ↓st_ent, ↓sg_ent, ↓st_calld, ↓sg_calld, ↓st_callvd, ↓sg_callvd, ↓st_call, ↓sg_call, ↓st_callv, ↓sg_callv, ↓st_store, ↓st_storef, ↓st_app, ↓st_appz, ↓st_copy, ↓st_mkmap, ↓st_mset, ↓st_mdel, ↓st_rng, ↓st_allo, ↓st_allor, ↓st_box, ↓st_boxr, ↓st_bsl, ↓st_bslr, ↓st_mksl, ↓st_mkslr, astep_some, bstep_some, ↓wp_regd, ↓wp_reg, ↓wp_skip, ↓wp_exit, ↓wp_ret, ↓wp_seq, ↓wp_block, ↓wp_cond, ↓wp_loop, cstep_true, cstep_false, rstep_true, noNxt_nil, noNxt_cons, isNx, forall_const, List.all_cons, List.all_nil, Bool.and_true, Bool.true_and, Bool.and_false, Bool.false_and, Bool.or_true, Bool.true_or, Bool.or_false, Bool.false_or, Bool.and_eq_true, sel_true, sel_false, gP_bt, gP_bf, gP_st, gP_sf, gP_und, gpure_bt, gpure_bf, gpure_st, gpure_sf, gpure_und, gpure_sft, gpure_stf, gcall_sft, gcall_stf, gpure_tf, gpure_ft, gcall_bt, gcall_bf, gcall_st, gcall_sf, gcall_und, gcall_tf, gcall_ft, gcall_tt, gcall_ff, res1, res2, res0, rc1, rc2, ar_loadn, ar_load1, ae_store, ap_iad, ap_fad, fadV_ptr, ap_len, lenV_sl, lenV_nils, ap_pick, pickV_t, pickV_f, pickV_or, pickV_ors, pickV_orn, ar_call, pickV_and, pickV_ands, ap_not, notV_bool, ap_ext, extV_0, extV_1, ap_build, fillP_nil, fillP_cons, aa_bsl1, aa_box, boxV_dot, boxV_nd, fstep_nd, fstep_dot, Option.map_some, push_put, reserve0, reserve1_get, reserve1_get', reserve1_born, reserve1_born', sto_nd, sto_nd0, lod_nd, lod_nd_dot, lod_nd_par, lod1_nd_t, lod1_nd_x, lod_dot, lod1_dot_r, lod1_dot_c, sto_push_lt, lod_reserve, lod1_reserve, sto_nd_x, sto_nd_t, lt_lowed, cs_dec, cs_not, cs_and, cs_or, cs_valid, eq_self, kt_refl, kt_push, kt_lowed, lod_push_lt, lod1_push_lt, lod_lowed, lod1_lowed, lod_lowd, lod1_lowd, bin_lss, bin_leq, bin_gtr, bin_geq, bin_eql, bin_neq, bin_add, bin_sub, bin_eqb, bin_neb, bin_eqd, bin_neqd, bin_eqd0, bin_neqd0, bin_eqn, bin_neqn, List.map_cons, List.map_nil, Nat.add_zero, Nat.zero_add, Bool.not_true, Bool.not_eq_true', Bool.not_eq_false', Bool.and_eq_true, Bool.not_false, Bool.not_not, ne_eq, reduceCtorEq, not_false_eq_true, implies_true, true_and, and_true, ↓reduceIte, Nat.reduceEqDiff, Nat.reduceLT, Nat.reduceAdd, Nat.reduceMul, Nat.one_ne_zero, Nat.zero_ne_one, Nat.zero_mul, Nat.one_mul, lowed_next, lt_push, lt_push_same, same_self, same_push, same_lowed, same_lowed', decide_true, decide_false, Int.ofNat_lt, Int.ofNat_le, exists_const, ae_app, ap_slc, Option.map_none, mkR_none, mkR_some, ar_look, ae_mset, ae_rng, ae_mkmap0, ar_ent, lookV_push, lookV_lowed, msetV_push, msetV_lowed, lt_put, same_put, sto_over, sto_lowed, cs_dead, Option.map_some, beq_self_eq_true, decide_true, cs_true]
        exact hK1.trans hK3

end Go.AM
