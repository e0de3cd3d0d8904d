/-
  Clone, Copy, Stain; the statement JoinValid in the abstract machine. Own work of this project; in part printed by a program of it.
-/
import Derived.Test.YtihjheckdjocoaaAmFK
set_option linter.unusedVariables false
set_option linter.unusedSimpArgs false
set_option maxRecDepth 100000
set_option maxHeartbeats 8000000
namespace Go.AM
open Go Go.Proofs

theorem con_emb {P : Program} {call : Nat → List AV → St → Option (AV × St)} (hS : Sound P call) (hm : P.follows .mixedOrders = true) {g : Nat} {fn : Func} {afn : AFn} (hf : P.funcs[g]? = some fn) (hcal : callable P g = true) (hc : cfn P fn = some afn)
    {c : Con} (h : ∀ args s r s', c args s = some (r, s') → Grow s s' ∧ args.length ≤ afn.ntmps ∧ ∀ env : Env, elen env = afn.ntmps → (∀ i v, args[i]? = some v → E env i = v) →
      awp call afn.body (fun x env t => (∀ i, x ≠ .exit i) ∧ ∃ f, aresults env t afn.results = some (r.ren f) ∧ Emb f s s' t) env s) : SoundAt P g c := by
  refine con_sound hS hm hf hcal hc fun args s r s' hh => ?_
  obtain ⟨hg, hl, k⟩ := h args s r s' hh
  exact ⟨hg, start_env hl fun env h1 h2 => k env h1 h2⟩
/-- A row of plain cells of its own. -/
theorem emb_row {s t : St} (h : Keep s t) {cells : List AV} (hp : cells.all AV.plain = true) {j : Nat} (h1 : s.next ≤ j) (hj : t.get j = some (.row cells true)) : ∃ f : Nat → Nat, (∀ id, id < s.next → f id = id) ∧ Emb f s (s.lowed.push (.row cells true)) t ∧ f s.next = j := by
  have hn := h.next
  have hlow := h.low
  have hlt := St.get_lt hj
  have e2 : ∀ id, (s.lowed.push (.row cells true)).get id = if id = s.next then some (.row cells true) else s.get id := fun id => by rw [St.get_push]; rfl
  refine ⟨fun id => if id < s.next then id else if id = s.next then j else t.next + id, fun id hid => by simp [hid], ⟨by simp [lowed_next], ?_, fun id hid => by simp [hid], fun id hid => ?_, fun i k h1 h2 e => ?_, fun id b hb => ?_, fun id h1 h2 => ?_⟩, by simp⟩
  · exact hlow
  · simp only [St.next_push, lowed_next] at hid
    rw [if_neg (by omega), if_neg (by omega)]
    omega
  · simp only [St.next_push, lowed_next] at h1 h2
    by_cases a1 : i < s.next
    · by_cases a2 : k < s.next
      · rw [if_pos a1, if_pos a2] at e; exact e
      · rw [if_pos a1, if_neg a2, if_pos (by omega)] at e; omega
    · by_cases a2 : k < s.next
      · rw [if_neg a1, if_pos a2, if_pos (by omega)] at e; omega
      · omega
  · rw [e2] at hb
    split at hb
    · rename_i hid
      injection hb with hb
      subst hb
      refine .inr (.inl ?_)
      rw [if_neg (by omega), if_pos hid, hj, AB.ren, plains_rens _ hp]
    · have hid := St.get_lt hb
      exact .inr (.inr ⟨hid, hb, h.blk hb⟩)
  · rw [e2, if_neg (by omega)]
/-- What Clone answers. -/
def cloneC : Con := fun xs s => match xs with
  | [.nils] => some (.nils, s.lowed)
  | [.sl id off n cap z] => match read ndC s (.sl id off n cap z) with
    | some l => if l.length ≤ lim then
        if l.isEmpty then some (.sl s.next 0 0 (some 0) 6, s.lowed.push (.row [] true))
        else some (.sl s.next 0 l.length none 6, s.lowed.push (.row (ndC.cells l) true))
      else none
    | none => none
  | _ => none
theorem push_row_get (s : St) (b : AB) : (s.lowed.push b).get s.next = some b := St.get_push_new s.lowed b
theorem s_clone : SoundAt Try.prog 35 cloneC :=
  con_emb (tb_sound (l := []) (by simp)) mixed Try.func35 k35 c35 fun args s r s' h => by
    unfold cloneC at h
    split at h
    · injection h with h
      obtain ⟨rfl, rfl⟩ := Prod.mk.inj h
      refine ⟨(keep_lowed s).grow, by simp [a35], fun env hlen ha => ?_⟩
      have h0 : E env 0 = _ := ha 0 _ rfl
      simp only [a35] at hlen
      unfold a35
      have hb : binOp .eql .ns .nils .nils = some (.bool true) := rfl
      simp (config := {contextual := true, maxDischargeDepth := 12}) only [tb, h0, hlen, hb, E_pne, E_psame, elen_put, aev_t, aev_c, aev_f, pE_none, pstep_some, estep_some, gstep_tt, gstep_ff, gstep_tf, gstep_ft, gstep_und, ↓st_nil, ↓st_mv, ↓sg_mv, ↓st_pick, ↓sg_pick, ↓st_build, ↓sg_build, ↓st_bin, ↓sg_bin, ↓st_un, ↓sg_un, ↓st_conv, ↓sg_conv, ↓st_mkfn, ↓sg_mkfn, ↓st_slc, ↓sg_slc, ↓st_slcs, ↓sg_slcs, ↓st_fad, ↓sg_fad, ↓st_fld, ↓sg_fld, ↓st_iad, ↓sg_iad, ↓st_idxs, ↓sg_idxs, ↓st_ext, ↓sg_ext, ↓st_len, ↓sg_len, ↓st_lens, ↓sg_lens, ↓st_cap, ↓sg_cap, ↓st_mm, ↓sg_mm, ↓st_nchk, ↓sg_nchk, ↓st_load1, ↓sg_load1, ↓st_loadn, ↓sg_loadn, ↓st_b2s, ↓sg_b2s, ↓st_look, ↓sg_look, ↓st_lenm, ↓sg_lenm, ↓st_ent, ↓sg_ent, ↓st_calld, ↓sg_calld, ↓st_callvd, ↓sg_callvd, ↓st_call, ↓sg_call, ↓st_callv, ↓sg_callv, ↓st_store, ↓st_storef, ↓st_app, ↓st_appz, ↓st_copy, ↓st_mkmap, ↓st_mset, ↓st_mdel, ↓st_rng, ↓st_allo, ↓st_allor, ↓st_box, ↓st_boxr, ↓st_bsl, ↓st_bslr, ↓st_mksl, ↓st_mkslr, astep_some, bstep_some, ↓wp_regd, ↓wp_reg, ↓wp_skip, ↓wp_exit, ↓wp_ret, ↓wp_seq, ↓wp_block, ↓wp_cond, ↓wp_loop, cstep_true, cstep_false, rstep_true, noNxt_nil, noNxt_cons, isNx, forall_const, List.all_cons, List.all_nil, Bool.and_true, Bool.true_and, Bool.and_false, Bool.false_and, Bool.or_true, Bool.true_or, Bool.or_false, Bool.false_or, Bool.and_eq_true, sel_true, sel_false, gP_bt, gP_bf, gP_st, gP_sf, gP_und, gpure_bt, gpure_bf, gpure_st, gpure_sf, gpure_und, gpure_sft, gpure_stf, gcall_sft, gcall_stf, gpure_tf, gpure_ft, gcall_bt, gcall_bf, gcall_st, gcall_sf, gcall_und, gcall_tf, gcall_ft, gcall_tt, gcall_ff, res1, res2, res0, rc1, rc2, ar_loadn, ar_load1, ae_store, ap_iad, ap_fad, fadV_ptr, ap_len, lenV_sl, lenV_nils, ap_pick, pickV_t, pickV_f, pickV_or, pickV_ors, pickV_orn, ar_call, pickV_and, pickV_ands, ap_not, notV_bool, ap_ext, extV_0, extV_1, ap_build, fillP_nil, fillP_cons, aa_bsl1, aa_box, boxV_dot, boxV_nd, fstep_nd, fstep_dot, Option.map_some, push_put, reserve0, reserve1_get, reserve1_get', reserve1_born, reserve1_born', sto_nd, sto_nd0, lod_nd, lod_nd_dot, lod_nd_par, lod1_nd_t, lod1_nd_x, lod_dot, lod1_dot_r, lod1_dot_c, sto_push_lt, lod_reserve, lod1_reserve, sto_nd_x, sto_nd_t, lt_lowed, cs_dec, cs_not, cs_and, cs_or, cs_valid, eq_self, kt_refl, kt_push, kt_lowed, lod_push_lt, lod1_push_lt, lod_lowed, lod1_lowed, lod_lowd, lod1_lowd, bin_lss, bin_leq, bin_gtr, bin_geq, bin_eql, bin_neq, bin_add, bin_sub, bin_eqb, bin_neb, bin_eqd, bin_neqd, bin_eqd0, bin_neqd0, bin_eqn, bin_neqn, List.map_cons, List.map_nil, Nat.add_zero, Nat.zero_add, Bool.not_true, Bool.not_eq_true', Bool.not_eq_false', Bool.and_eq_true, Bool.not_false, Bool.not_not, ne_eq, reduceCtorEq, not_false_eq_true, implies_true, true_and, and_true, ↓reduceIte, Nat.reduceEqDiff, Nat.reduceLT, Nat.reduceAdd, Nat.reduceMul, Nat.one_ne_zero, Nat.zero_ne_one, Nat.zero_mul, Nat.one_mul, lowed_next, lt_push, lt_push_same, same_self, same_push, same_lowed, same_lowed', decide_true, decide_false, Int.ofNat_lt, Int.ofNat_le, exists_const, ae_app, ap_slc, Option.map_none, mkR_none, mkR_some, ar_look, ae_mset, ae_rng, ae_mkmap0, ar_ent, lookV_push, lookV_lowed, msetV_push, msetV_lowed, lt_put, same_put, sto_over, sto_lowed, cs_dead, Option.map_some]
      obtain ⟨f, h1, h2⟩ := emb_keep (Keep.refl s)
      exact ⟨f, by simp [AV.ren], h2⟩
    · rename_i id off n cap z
      split at h
      · rename_i l hr
        split at h
        · rename_i hl
          have hb : binOp .eql .ns (.sl id off n cap z) .nils = some (.bool false) := rfl
          have hbs : ∀ (env : Env), aalloc env (.bsl [] 0 6 []) = some (fun id => .sl id 0 0 (some 0) 6, .row [] true) := fun _ => nrfl rfl
          split at h
          · rename_i he
            have hl0 : l = [] := by simpa using he
            subst hl0
            injection h with h
            obtain ⟨rfl, rfl⟩ := Prod.mk.inj h
            refine ⟨((keep_lowed s).push _).grow, by simp [a35], fun env hlen ha => ?_⟩
            have h0 : E env 0 = _ := ha 0 _ rfl
            simp only [a35] at hlen
            unfold a35
            have hap : appV (s.push (.row [] true)) 6 48 (.sl s.next 0 0 (some 0) 6) (.sl id off n cap z) = some (.sl s.next 0 0 (some 0) 6, s.push (.row [] true)) := by
              have hr2 : read ndC (s.push (.row [] true)) (.sl id off n cap z) = some [] := ((Keep.refl s).push _).read hr
              have e1 : shown (s.push (.row [] true)) 6 (.sl id off n cap z) = some [] := read_shown hr2
              have e2 : lenOf (.sl id off n cap z) = some 0 := read_len hr2
              simp only [appV, e1, e2, aappend, if_true, St.get_push_new]
            simp (config := {contextual := true, maxDischargeDepth := 12}) only [tb, h0, hlen, hb, hbs, hap, E_pne, E_psame, elen_put, aev_t, aev_c, aev_f, pE_none, pstep_some, estep_some, gstep_tt, gstep_ff, gstep_tf, gstep_ft, gstep_und, ↓st_nil, ↓st_mv, ↓sg_mv, ↓st_pick, ↓sg_pick, ↓st_build, ↓sg_build, ↓st_bin, ↓sg_bin, ↓st_un, ↓sg_un, ↓st_conv, ↓sg_conv, ↓st_mkfn, ↓sg_mkfn, ↓st_slc, ↓sg_slc, ↓st_slcs, ↓sg_slcs, ↓st_fad, ↓sg_fad, ↓st_fld, ↓sg_fld, ↓st_iad, ↓sg_iad, ↓st_idxs, ↓sg_idxs, ↓st_ext, ↓sg_ext, ↓st_len, ↓sg_len, ↓st_lens, ↓sg_lens, ↓st_cap, ↓sg_cap, ↓st_mm, ↓sg_mm, ↓st_nchk, ↓sg_nchk, ↓st_load1, ↓sg_load1, ↓st_loadn, ↓sg_loadn, ↓st_b2s, ↓sg_b2s, ↓st_look, ↓sg_look, ↓st_lenm, ↓sg_lenm, ↓st_ent, ↓sg_ent, ↓st_calld, ↓sg_calld, ↓st_callvd, ↓sg_callvd, ↓st_call, ↓sg_call, ↓st_callv, ↓sg_callv, ↓st_store, ↓st_storef, ↓st_app, ↓st_appz, ↓st_copy, ↓st_mkmap, ↓st_mset, ↓st_mdel, ↓st_rng, ↓st_allo, ↓st_allor, ↓st_box, ↓st_boxr, ↓st_bsl, ↓st_bslr, ↓st_mksl, ↓st_mkslr, astep_some, bstep_some, ↓wp_regd, ↓wp_reg, ↓wp_skip, ↓wp_exit, ↓wp_ret, ↓wp_seq, ↓wp_block, ↓wp_cond, ↓wp_loop, cstep_true, cstep_false, rstep_true, noNxt_nil, noNxt_cons, isNx, forall_const, List.all_cons, List.all_nil, Bool.and_true, Bool.true_and, Bool.and_false, Bool.false_and, Bool.or_true, Bool.true_or, Bool.or_false, Bool.false_or, Bool.and_eq_true, sel_true, sel_false, gP_bt, gP_bf, gP_st, gP_sf, gP_und, gpure_bt, gpure_bf, gpure_st, gpure_sf, gpure_und, gpure_sft, gpure_stf, gcall_sft, gcall_stf, gpure_tf, gpure_ft, gcall_bt, gcall_bf, gcall_st, gcall_sf, gcall_und, gcall_tf, gcall_ft, gcall_tt, gcall_ff, res1, res2, res0, rc1, rc2, ar_loadn, ar_load1, ae_store, ap_iad, ap_fad, fadV_ptr, ap_len, lenV_sl, lenV_nils, ap_pick, pickV_t, pickV_f, pickV_or, pickV_ors, pickV_orn, ar_call, pickV_and, pickV_ands, ap_not, notV_bool, ap_ext, extV_0, extV_1, ap_build, fillP_nil, fillP_cons, aa_bsl1, aa_box, boxV_dot, boxV_nd, fstep_nd, fstep_dot, Option.map_some, push_put, reserve0, reserve1_get, reserve1_get', reserve1_born, reserve1_born', sto_nd, sto_nd0, lod_nd, lod_nd_dot, lod_nd_par, lod1_nd_t, lod1_nd_x, lod_dot, lod1_dot_r, lod1_dot_c, sto_push_lt, lod_reserve, lod1_reserve, sto_nd_x, sto_nd_t, lt_lowed, cs_dec, cs_not, cs_and, cs_or, cs_valid, eq_self, kt_refl, kt_push, kt_lowed, lod_push_lt, lod1_push_lt, lod_lowed, lod1_lowed, lod_lowd, lod1_lowd, bin_lss, bin_leq, bin_gtr, bin_geq, bin_eql, bin_neq, bin_add, bin_sub, bin_eqb, bin_neb, bin_eqd, bin_neqd, bin_eqd0, bin_neqd0, bin_eqn, bin_neqn, List.map_cons, List.map_nil, Nat.add_zero, Nat.zero_add, Bool.not_true, Bool.not_eq_true', Bool.not_eq_false', Bool.and_eq_true, Bool.not_false, Bool.not_not, ne_eq, reduceCtorEq, not_false_eq_true, implies_true, true_and, and_true, ↓reduceIte, Nat.reduceEqDiff, Nat.reduceLT, Nat.reduceAdd, Nat.reduceMul, Nat.one_ne_zero, Nat.zero_ne_one, Nat.zero_mul, Nat.one_mul, lowed_next, lt_push, lt_push_same, same_self, same_push, same_lowed, same_lowed', decide_true, decide_false, Int.ofNat_lt, Int.ofNat_le, exists_const, ae_app, ap_slc, Option.map_none, mkR_none, mkR_some, ar_look, ae_mset, ae_rng, ae_mkmap0, ar_ent, lookV_push, lookV_lowed, msetV_push, msetV_lowed, lt_put, same_put, sto_over, sto_lowed, cs_dead, Option.map_some]
            obtain ⟨f, h1, h2, h3⟩ := emb_row ((Keep.refl s).push (.row [] true)) (cells := []) rfl (Nat.le_refl _) (St.get_push_new _ _)
            exact ⟨f, by simp [AV.ren, h3], h2⟩
          · rename_i he
            have hl0 : l ≠ [] := by simpa using he
            injection h with h
            obtain ⟨rfl, rfl⟩ := Prod.mk.inj h
            refine ⟨((keep_lowed s).push _).grow, by simp [a35], fun env hlen ha => ?_⟩
            have h0 : E env 0 = _ := ha 0 _ rfl
            simp only [a35] at hlen
            unfold a35
            have hap : appV (s.push (.row [] true)) 6 48 (.sl s.next 0 0 (some 0) 6) (.sl id off n cap z) = some (.sl (s.push (.row [] true)).next 0 l.length none 6, (s.push (.row [] true)).push (.row (ndC.cells l) true)) := by
              have hr2 : read ndC (s.push (.row [] true)) (.sl id off n cap z) = some l := ((Keep.refl s).push _).read hr
              have e1 : shown (s.push (.row [] true)) 6 (.sl id off n cap z) = some (ndC.cells l) := read_shown hr2
              have e2 : lenOf (.sl id off n cap z) = some l.length := read_len hr2
              have e3 : l.length ≠ 0 := by simpa using hl0
              simp only [appV, e1, e2, aappend, if_true, St.get_push_new, if_neg e3]
              rw [if_pos ⟨by simp, by unfold lim at hl; simp [roomBytes]; omega⟩, if_neg (by omega)]
              simp
            simp (config := {contextual := true, maxDischargeDepth := 12}) only [tb, h0, hlen, hb, hbs, hap, E_pne, E_psame, elen_put, aev_t, aev_c, aev_f, pE_none, pstep_some, estep_some, gstep_tt, gstep_ff, gstep_tf, gstep_ft, gstep_und, ↓st_nil, ↓st_mv, ↓sg_mv, ↓st_pick, ↓sg_pick, ↓st_build, ↓sg_build, ↓st_bin, ↓sg_bin, ↓st_un, ↓sg_un, ↓st_conv, ↓sg_conv, ↓st_mkfn, ↓sg_mkfn, ↓st_slc, ↓sg_slc, ↓st_slcs, ↓sg_slcs, ↓st_fad, ↓sg_fad, ↓st_fld, ↓sg_fld, ↓st_iad, ↓sg_iad, ↓st_idxs, ↓sg_idxs, ↓st_ext, ↓sg_ext, ↓st_len, ↓sg_len, ↓st_lens, ↓sg_lens, ↓st_cap, ↓sg_cap, ↓st_mm, ↓sg_mm, ↓st_nchk, ↓sg_nchk, ↓st_load1, ↓sg_load1, ↓st_loadn, ↓sg_loadn, ↓st_b2s, ↓sg_b2s, ↓st_look, ↓sg_look, ↓st_lenm, ↓sg_lenm, ↓st_ent, ↓sg_ent, ↓st_calld, ↓sg_calld, ↓st_callvd, ↓sg_callvd, ↓st_call, ↓sg_call, ↓st_callv, ↓sg_callv, ↓st_store, ↓st_storef, ↓st_app, ↓st_appz, ↓st_copy, ↓st_mkmap, ↓st_mset, ↓st_mdel, ↓st_rng, ↓st_allo, ↓st_allor, ↓st_box, ↓st_boxr, ↓st_bsl, ↓st_bslr, ↓st_mksl, ↓st_mkslr, astep_some, bstep_some, ↓wp_regd, ↓wp_reg, ↓wp_skip, ↓wp_exit, ↓wp_ret, ↓wp_seq, ↓wp_block, ↓wp_cond, ↓wp_loop, cstep_true, cstep_false, rstep_true, noNxt_nil, noNxt_cons, isNx, forall_const, List.all_cons, List.all_nil, Bool.and_true, Bool.true_and, Bool.and_false, Bool.false_and, Bool.or_true, Bool.true_or, Bool.or_false, Bool.false_or, Bool.and_eq_true, sel_true, sel_false, gP_bt, gP_bf, gP_st, gP_sf, gP_und, gpure_bt, gpure_bf, gpure_st, gpure_sf, gpure_und, gpure_sft, gpure_stf, gcall_sft, gcall_stf, gpure_tf, gpure_ft, gcall_bt, gcall_bf, gcall_st, gcall_sf, gcall_und, gcall_tf, gcall_ft, gcall_tt, gcall_ff, res1, res2, res0, rc1, rc2, ar_loadn, ar_load1, ae_store, ap_iad, ap_fad, fadV_ptr, ap_len, lenV_sl, lenV_nils, ap_pick, pickV_t, pickV_f, pickV_or, pickV_ors, pickV_orn, ar_call, pickV_and, pickV_ands, ap_not, notV_bool, ap_ext, extV_0, extV_1, ap_build, fillP_nil, fillP_cons, aa_bsl1, aa_box, boxV_dot, boxV_nd, fstep_nd, fstep_dot, Option.map_some, push_put, reserve0, reserve1_get, reserve1_get', reserve1_born, reserve1_born', sto_nd, sto_nd0, lod_nd, lod_nd_dot, lod_nd_par, lod1_nd_t, lod1_nd_x, lod_dot, lod1_dot_r, lod1_dot_c, sto_push_lt, lod_reserve, lod1_reserve, sto_nd_x, sto_nd_t, lt_lowed, cs_dec, cs_not, cs_and, cs_or, cs_valid, eq_self, kt_refl, kt_push, kt_lowed, lod_push_lt, lod1_push_lt, lod_lowed, lod1_lowed, lod_lowd, lod1_lowd, bin_lss, bin_leq, bin_gtr, bin_geq, bin_eql, bin_neq, bin_add, bin_sub, bin_eqb, bin_neb, bin_eqd, bin_neqd, bin_eqd0, bin_neqd0, bin_eqn, bin_neqn, List.map_cons, List.map_nil, Nat.add_zero, Nat.zero_add, Bool.not_true, Bool.not_eq_true', Bool.not_eq_false', Bool.and_eq_true, Bool.not_false, Bool.not_not, ne_eq, reduceCtorEq, not_false_eq_true, implies_true, true_and, and_true, ↓reduceIte, Nat.reduceEqDiff, Nat.reduceLT, Nat.reduceAdd, Nat.reduceMul, Nat.one_ne_zero, Nat.zero_ne_one, Nat.zero_mul, Nat.one_mul, lowed_next, lt_push, lt_push_same, same_self, same_push, same_lowed, same_lowed', decide_true, decide_false, Int.ofNat_lt, Int.ofNat_le, exists_const, ae_app, ap_slc, Option.map_none, mkR_none, mkR_some, ar_look, ae_mset, ae_rng, ae_mkmap0, ar_ent, lookV_push, lookV_lowed, msetV_push, msetV_lowed, lt_put, same_put, sto_over, sto_lowed, cs_dead, Option.map_some]
            obtain ⟨f, h1, h2, h3⟩ := emb_row (((Keep.refl s).push (.row [] true)).push (.row (ndC.cells l) true)) (cells_plain ndC l) (j := (s.push (.row [] true)).next) (by simp) (St.get_push_new _ _)
            exact ⟨f, by simp [AV.ren, h3], h2⟩
        · cases h
      · cases h
    · cases h
theorem acall_clone {s : St} {v : AV} {l : List Nd} (hr : read ndC s v = some l) (hl : l.length ≤ lim) :
    (v = .nils ∧ acall cloneC false [v] s = some (.nils, s)) ∨ (∃ id off n cap z, v = .sl id off n cap z) ∧ (l = [] ∧ acall cloneC false [v] s = some (.sl s.next 0 0 (some 0) 6, s.lowed.push (.row [] true)) ∨ l ≠ [] ∧ acall cloneC false [v] s = some (.sl s.next 0 l.length none 6, s.lowed.push (.row (ndC.cells l) true))) := by
  cases v with
  | nils => exact .inl ⟨rfl, acall_rol rfl rfl⟩
  | sl id off n cap z =>
    refine .inr ⟨⟨id, off, n, cap, z, rfl⟩, ?_⟩
    have hr' : read ndC { heap := s.heap, next := s.next, low := s.next } (.sl id off n cap z) = some l := hr
    by_cases h0 : l = []
    · subst h0
      refine .inl ⟨rfl, ?_⟩
      simp [acall, cloneC, hr', AV.ground, AV.plain, St.push, St.lowed]
    · have he : l.isEmpty = false := by simpa using h0
      refine .inr ⟨h0, ?_⟩
      simp [acall, cloneC, hr', hl, h0, AV.ground, AV.plain, St.push, St.lowed]
  | _ => simp [read] at hr
theorem s_jcopy : SoundAt Try.prog 24 cloneC :=
  con_emb (tb_sound (l := [(35, cloneC)]) (by simpa using s_clone)) mixed Try.func24 k24 c24 fun args s r s' h => by
    unfold cloneC at h
    split at h
    · injection h with h
      obtain ⟨rfl, rfl⟩ := Prod.mk.inj h
      refine ⟨(keep_lowed s).grow, by simp [a24], fun env hlen ha => ?_⟩
      have h0 : E env 0 = _ := ha 0 _ rfl
      simp only [a24] at hlen
      unfold a24
      have hc : acall cloneC false [.nils] s = some (.nils, s) := acall_rol rfl rfl
      simp (config := {contextual := true, maxDischargeDepth := 12}) only [tb, h0, hlen, hc, E_pne, E_psame, elen_put, aev_t, aev_c, aev_f, pE_none, pstep_some, estep_some, gstep_tt, gstep_ff, gstep_tf, gstep_ft, gstep_und, ↓st_nil, ↓st_mv, ↓sg_mv, ↓st_pick, ↓sg_pick, ↓st_build, ↓sg_build, ↓st_bin, ↓sg_bin, ↓st_un, ↓sg_un, ↓st_conv, ↓sg_conv, ↓st_mkfn, ↓sg_mkfn, ↓st_slc, ↓sg_slc, ↓st_slcs, ↓sg_slcs, ↓st_fad, ↓sg_fad, ↓st_fld, ↓sg_fld, ↓st_iad, ↓sg_iad, ↓st_idxs, ↓sg_idxs, ↓st_ext, ↓sg_ext, ↓st_len, ↓sg_len, ↓st_lens, ↓sg_lens, ↓st_cap, ↓sg_cap, ↓st_mm, ↓sg_mm, ↓st_nchk, ↓sg_nchk, ↓st_load1, ↓sg_load1, ↓st_loadn, ↓sg_loadn, ↓st_b2s, ↓sg_b2s, ↓st_look, ↓sg_look, ↓st_lenm, ↓sg_lenm, ↓st_ent, ↓sg_ent, ↓st_calld, ↓sg_calld, ↓st_callvd, ↓sg_callvd, ↓st_call, ↓sg_call, ↓st_callv, ↓sg_callv, ↓st_store, ↓st_storef, ↓st_app, ↓st_appz, ↓st_copy, ↓st_mkmap, ↓st_mset, ↓st_mdel, ↓st_rng, ↓st_allo, ↓st_allor, ↓st_box, ↓st_boxr, ↓st_bsl, ↓st_bslr, ↓st_mksl, ↓st_mkslr, astep_some, bstep_some, ↓wp_regd, ↓wp_reg, ↓wp_skip, ↓wp_exit, ↓wp_ret, ↓wp_seq, ↓wp_block, ↓wp_cond, ↓wp_loop, cstep_true, cstep_false, rstep_true, noNxt_nil, noNxt_cons, isNx, forall_const, List.all_cons, List.all_nil, Bool.and_true, Bool.true_and, Bool.and_false, Bool.false_and, Bool.or_true, Bool.true_or, Bool.or_false, Bool.false_or, Bool.and_eq_true, sel_true, sel_false, gP_bt, gP_bf, gP_st, gP_sf, gP_und, gpure_bt, gpure_bf, gpure_st, gpure_sf, gpure_und, gpure_sft, gpure_stf, gcall_sft, gcall_stf, gpure_tf, gpure_ft, gcall_bt, gcall_bf, gcall_st, gcall_sf, gcall_und, gcall_tf, gcall_ft, gcall_tt, gcall_ff, res1, res2, res0, rc1, rc2, ar_loadn, ar_load1, ae_store, ap_iad, ap_fad, fadV_ptr, ap_len, lenV_sl, lenV_nils, ap_pick, pickV_t, pickV_f, pickV_or, pickV_ors, pickV_orn, ar_call, pickV_and, pickV_ands, ap_not, notV_bool, ap_ext, extV_0, extV_1, ap_build, fillP_nil, fillP_cons, aa_bsl1, aa_box, boxV_dot, boxV_nd, fstep_nd, fstep_dot, Option.map_some, push_put, reserve0, reserve1_get, reserve1_get', reserve1_born, reserve1_born', sto_nd, sto_nd0, lod_nd, lod_nd_dot, lod_nd_par, lod1_nd_t, lod1_nd_x, lod_dot, lod1_dot_r, lod1_dot_c, sto_push_lt, lod_reserve, lod1_reserve, sto_nd_x, sto_nd_t, lt_lowed, cs_dec, cs_not, cs_and, cs_or, cs_valid, eq_self, kt_refl, kt_push, kt_lowed, lod_push_lt, lod1_push_lt, lod_lowed, lod1_lowed, lod_lowd, lod1_lowd, bin_lss, bin_leq, bin_gtr, bin_geq, bin_eql, bin_neq, bin_add, bin_sub, bin_eqb, bin_neb, bin_eqd, bin_neqd, bin_eqd0, bin_neqd0, bin_eqn, bin_neqn, List.map_cons, List.map_nil, Nat.add_zero, Nat.zero_add, Bool.not_true, Bool.not_eq_true', Bool.not_eq_false', Bool.and_eq_true, Bool.not_false, Bool.not_not, ne_eq, reduceCtorEq, not_false_eq_true, implies_true, true_and, and_true, ↓reduceIte, Nat.reduceEqDiff, Nat.reduceLT, Nat.reduceAdd, Nat.reduceMul, Nat.one_ne_zero, Nat.zero_ne_one, Nat.zero_mul, Nat.one_mul, lowed_next, lt_push, lt_push_same, same_self, same_push, same_lowed, same_lowed', decide_true, decide_false, Int.ofNat_lt, Int.ofNat_le, exists_const, ae_app, ap_slc, Option.map_none, mkR_none, mkR_some, ar_look, ae_mset, ae_rng, ae_mkmap0, ar_ent, lookV_push, lookV_lowed, msetV_push, msetV_lowed, lt_put, same_put, sto_over, sto_lowed, cs_dead, Option.map_some]
      obtain ⟨f, h1, h2⟩ := emb_keep (Keep.refl s)
      exact ⟨f, by simp [AV.ren], h2⟩
    · rename_i id off n cap z
      split at h
      · rename_i l hr
        split at h
        · rename_i hl
          rcases acall_clone hr hl with ⟨q, _⟩ | ⟨_, ⟨h0, hc⟩ | ⟨h0, hc⟩⟩
          · cases q
          · subst h0
            simp only [List.isEmpty_nil, if_true] at h
            injection h with h
            obtain ⟨rfl, rfl⟩ := Prod.mk.inj h
            refine ⟨((keep_lowed s).push _).grow, by simp [a24], fun env hlen ha => ?_⟩
            have h0 : E env 0 = _ := ha 0 _ rfl
            simp only [a24] at hlen
            unfold a24
            simp (config := {contextual := true, maxDischargeDepth := 12}) only [tb, h0, hlen, hc, E_pne, E_psame, elen_put, aev_t, aev_c, aev_f, pE_none, pstep_some, estep_some, gstep_tt, gstep_ff, gstep_tf, gstep_ft, gstep_und, ↓st_nil, ↓st_mv, ↓sg_mv, ↓st_pick, ↓sg_pick, ↓st_build, ↓sg_build, ↓st_bin, ↓sg_bin, ↓st_un, ↓sg_un, ↓st_conv, ↓sg_conv, ↓st_mkfn, ↓sg_mkfn, ↓st_slc, ↓sg_slc, ↓st_slcs, ↓sg_slcs, ↓st_fad, ↓sg_fad, ↓st_fld, ↓sg_fld, ↓st_iad, ↓sg_iad, ↓st_idxs, ↓sg_idxs, ↓st_ext, ↓sg_ext, ↓st_len, ↓sg_len, ↓st_lens, ↓sg_lens, ↓st_cap, ↓sg_cap, ↓st_mm, ↓sg_mm, ↓st_nchk, ↓sg_nchk, ↓st_load1, ↓sg_load1, ↓st_loadn, ↓sg_loadn, ↓st_b2s, ↓sg_b2s, ↓st_look, ↓sg_look, ↓st_lenm, ↓sg_lenm, ↓st_ent, ↓sg_ent, ↓st_calld, ↓sg_calld, ↓st_callvd, ↓sg_callvd, ↓st_call, ↓sg_call, ↓st_callv, ↓sg_callv, ↓st_store, ↓st_storef, ↓st_app, ↓st_appz, ↓st_copy, ↓st_mkmap, ↓st_mset, ↓st_mdel, ↓st_rng, ↓st_allo, ↓st_allor, ↓st_box, ↓st_boxr, ↓st_bsl, ↓st_bslr, ↓st_mksl, ↓st_mkslr, astep_some, bstep_some, ↓wp_regd, ↓wp_reg, ↓wp_skip, ↓wp_exit, ↓wp_ret, ↓wp_seq, ↓wp_block, ↓wp_cond, ↓wp_loop, cstep_true, cstep_false, rstep_true, noNxt_nil, noNxt_cons, isNx, forall_const, List.all_cons, List.all_nil, Bool.and_true, Bool.true_and, Bool.and_false, Bool.false_and, Bool.or_true, Bool.true_or, Bool.or_false, Bool.false_or, Bool.and_eq_true, sel_true, sel_false, gP_bt, gP_bf, gP_st, gP_sf, gP_und, gpure_bt, gpure_bf, gpure_st, gpure_sf, gpure_und, gpure_sft, gpure_stf, gcall_sft, gcall_stf, gpure_tf, gpure_ft, gcall_bt, gcall_bf, gcall_st, gcall_sf, gcall_und, gcall_tf, gcall_ft, gcall_tt, gcall_ff, res1, res2, res0, rc1, rc2, ar_loadn, ar_load1, ae_store, ap_iad, ap_fad, fadV_ptr, ap_len, lenV_sl, lenV_nils, ap_pick, pickV_t, pickV_f, pickV_or, pickV_ors, pickV_orn, ar_call, pickV_and, pickV_ands, ap_not, notV_bool, ap_ext, extV_0, extV_1, ap_build, fillP_nil, fillP_cons, aa_bsl1, aa_box, boxV_dot, boxV_nd, fstep_nd, fstep_dot, Option.map_some, push_put, reserve0, reserve1_get, reserve1_get', reserve1_born, reserve1_born', sto_nd, sto_nd0, lod_nd, lod_nd_dot, lod_nd_par, lod1_nd_t, lod1_nd_x, lod_dot, lod1_dot_r, lod1_dot_c, sto_push_lt, lod_reserve, lod1_reserve, sto_nd_x, sto_nd_t, lt_lowed, cs_dec, cs_not, cs_and, cs_or, cs_valid, eq_self, kt_refl, kt_push, kt_lowed, lod_push_lt, lod1_push_lt, lod_lowed, lod1_lowed, lod_lowd, lod1_lowd, bin_lss, bin_leq, bin_gtr, bin_geq, bin_eql, bin_neq, bin_add, bin_sub, bin_eqb, bin_neb, bin_eqd, bin_neqd, bin_eqd0, bin_neqd0, bin_eqn, bin_neqn, List.map_cons, List.map_nil, Nat.add_zero, Nat.zero_add, Bool.not_true, Bool.not_eq_true', Bool.not_eq_false', Bool.and_eq_true, Bool.not_false, Bool.not_not, ne_eq, reduceCtorEq, not_false_eq_true, implies_true, true_and, and_true, ↓reduceIte, Nat.reduceEqDiff, Nat.reduceLT, Nat.reduceAdd, Nat.reduceMul, Nat.one_ne_zero, Nat.zero_ne_one, Nat.zero_mul, Nat.one_mul, lowed_next, lt_push, lt_push_same, same_self, same_push, same_lowed, same_lowed', decide_true, decide_false, Int.ofNat_lt, Int.ofNat_le, exists_const, ae_app, ap_slc, Option.map_none, mkR_none, mkR_some, ar_look, ae_mset, ae_rng, ae_mkmap0, ar_ent, lookV_push, lookV_lowed, msetV_push, msetV_lowed, lt_put, same_put, sto_over, sto_lowed, cs_dead, Option.map_some]
            exact ⟨_root_.id, by rw [AV.ren_id], Emb.refl ((keep_lowed s).push _).grow⟩
          · have he : l.isEmpty = false := by simpa using h0
            simp only [he, Bool.false_eq_true, if_false] at h
            injection h with h
            obtain ⟨rfl, rfl⟩ := Prod.mk.inj h
            refine ⟨((keep_lowed s).push _).grow, by simp [a24], fun env hlen ha => ?_⟩
            have h0 : E env 0 = _ := ha 0 _ rfl
            simp only [a24] at hlen
            unfold a24
            simp (config := {contextual := true, maxDischargeDepth := 12}) only [tb, h0, hlen, hc, E_pne, E_psame, elen_put, aev_t, aev_c, aev_f, pE_none, pstep_some, estep_some, gstep_tt, gstep_ff, gstep_tf, gstep_ft, gstep_und, ↓st_nil, ↓st_mv, ↓sg_mv, ↓st_pick, ↓sg_pick, ↓st_build, ↓sg_build, ↓st_bin, ↓sg_bin, ↓st_un, ↓sg_un, ↓st_conv, ↓sg_conv, ↓st_mkfn, ↓sg_mkfn, ↓st_slc, ↓sg_slc, ↓st_slcs, ↓sg_slcs, ↓st_fad, ↓sg_fad, ↓st_fld, ↓sg_fld, ↓st_iad, ↓sg_iad, ↓st_idxs, ↓sg_idxs, ↓st_ext, ↓sg_ext, ↓st_len, ↓sg_len, ↓st_lens, ↓sg_lens, ↓st_cap, ↓sg_cap, ↓st_mm, ↓sg_mm, ↓st_nchk, ↓sg_nchk, ↓st_load1, ↓sg_load1, ↓st_loadn, ↓sg_loadn, ↓st_b2s, ↓sg_b2s, ↓st_look, ↓sg_look, ↓st_lenm, ↓sg_lenm, ↓st_ent, ↓sg_ent, ↓st_calld, ↓sg_calld, ↓st_callvd, ↓sg_callvd, ↓st_call, ↓sg_call, ↓st_callv, ↓sg_callv, ↓st_store, ↓st_storef, ↓st_app, ↓st_appz, ↓st_copy, ↓st_mkmap, ↓st_mset, ↓st_mdel, ↓st_rng, ↓st_allo, ↓st_allor, ↓st_box, ↓st_boxr, ↓st_bsl, ↓st_bslr, ↓st_mksl, ↓st_mkslr, astep_some, bstep_some, ↓wp_regd, ↓wp_reg, ↓wp_skip, ↓wp_exit, ↓wp_ret, ↓wp_seq, ↓wp_block, ↓wp_cond, ↓wp_loop, cstep_true, cstep_false, rstep_true, noNxt_nil, noNxt_cons, isNx, forall_const, List.all_cons, List.all_nil, Bool.and_true, Bool.true_and, Bool.and_false, Bool.false_and, Bool.or_true, Bool.true_or, Bool.or_false, Bool.false_or, Bool.and_eq_true, sel_true, sel_false, gP_bt, gP_bf, gP_st, gP_sf, gP_und, gpure_bt, gpure_bf, gpure_st, gpure_sf, gpure_und, gpure_sft, gpure_stf, gcall_sft, gcall_stf, gpure_tf, gpure_ft, gcall_bt, gcall_bf, gcall_st, gcall_sf, gcall_und, gcall_tf, gcall_ft, gcall_tt, gcall_ff, res1, res2, res0, rc1, rc2, ar_loadn, ar_load1, ae_store, ap_iad, ap_fad, fadV_ptr, ap_len, lenV_sl, lenV_nils, ap_pick, pickV_t, pickV_f, pickV_or, pickV_ors, pickV_orn, ar_call, pickV_and, pickV_ands, ap_not, notV_bool, ap_ext, extV_0, extV_1, ap_build, fillP_nil, fillP_cons, aa_bsl1, aa_box, boxV_dot, boxV_nd, fstep_nd, fstep_dot, Option.map_some, push_put, reserve0, reserve1_get, reserve1_get', reserve1_born, reserve1_born', sto_nd, sto_nd0, lod_nd, lod_nd_dot, lod_nd_par, lod1_nd_t, lod1_nd_x, lod_dot, lod1_dot_r, lod1_dot_c, sto_push_lt, lod_reserve, lod1_reserve, sto_nd_x, sto_nd_t, lt_lowed, cs_dec, cs_not, cs_and, cs_or, cs_valid, eq_self, kt_refl, kt_push, kt_lowed, lod_push_lt, lod1_push_lt, lod_lowed, lod1_lowed, lod_lowd, lod1_lowd, bin_lss, bin_leq, bin_gtr, bin_geq, bin_eql, bin_neq, bin_add, bin_sub, bin_eqb, bin_neb, bin_eqd, bin_neqd, bin_eqd0, bin_neqd0, bin_eqn, bin_neqn, List.map_cons, List.map_nil, Nat.add_zero, Nat.zero_add, Bool.not_true, Bool.not_eq_true', Bool.not_eq_false', Bool.and_eq_true, Bool.not_false, Bool.not_not, ne_eq, reduceCtorEq, not_false_eq_true, implies_true, true_and, and_true, ↓reduceIte, Nat.reduceEqDiff, Nat.reduceLT, Nat.reduceAdd, Nat.reduceMul, Nat.one_ne_zero, Nat.zero_ne_one, Nat.zero_mul, Nat.one_mul, lowed_next, lt_push, lt_push_same, same_self, same_push, same_lowed, same_lowed', decide_true, decide_false, Int.ofNat_lt, Int.ofNat_le, exists_const, ae_app, ap_slc, Option.map_none, mkR_none, mkR_some, ar_look, ae_mset, ae_rng, ae_mkmap0, ar_ent, lookV_push, lookV_lowed, msetV_push, msetV_lowed, lt_put, same_put, sto_over, sto_lowed, cs_dead, Option.map_some]
            exact ⟨_root_.id, by rw [AV.ren_id], Emb.refl ((keep_lowed s).push _).grow⟩
        · cases h
      · cases h
    · cases h

/-! ### Stain -/
def stainN (x : Nd) : Nd := { x with t := IntKind.i64.wrap (x.t + 1), x := 88 }
theorem setAt_set {cs : List AV} {o : Nat} {v : AV} (h : o < cs.length) : setAt cs o [v] = cs.set o v := by
  simp only [setAt, List.length_singleton]
  rw [List.set_eq_take_append_cons_drop, if_pos h]
  simp
theorem cells_set {l : List Nd} {i k : Nat} {x y : Nd} {v : AV} (hx : l[i]? = some x) (hk : k < 6) (hy : Nd.av y = (Nd.av x).set k v) : (ndC.cells l).set (i * 6 + k) v = ndC.cells (l.set i y) := by
  have hil := getlt hx
  have hcl : (ndC.cells l).length = l.length * 6 := cells_len ndC l
  apply List.ext_getElem?
  intro t
  rw [List.getElem?_set, cells_get, cells_get, List.getElem?_set]
  by_cases ht : i * 6 + k = t
  · subst ht
    have e1 : (i * 6 + k) / 6 = i := by omega
    have e2 : (i * 6 + k) % 6 = k := by omega
    have h6 : (Nd.av x).length = 6 := rfl
    rw [if_pos rfl, if_pos (by rw [hcl]; omega), e1, e2, if_pos rfl, if_pos hil, Option.bind_some, hy, List.getElem?_set_self (by omega)]
  · rw [if_neg ht]
    by_cases hti : i = t / 6
    · subst hti
      have hne : k ≠ t % 6 := by omega
      rw [if_pos rfl, if_pos hil, hx, Option.bind_some, Option.bind_some, hy, List.getElem?_set_ne hne]
    · rw [if_neg hti]
theorem put_put (s : St) (j : Nat) (a b : AB) : (s.put j a).put j b = s.put j b := by
  simp only [St.put, List.set_set]
  congr 1
  omega
theorem sto_field {t : St} {j i k : Nat} {l : List Nd} {x y : Nd} {v : AV} (hg : t.get j = some (.row (ndC.cells l) true)) (hx : l[i]? = some x) (hk : k < 6) (hy : Nd.av y = (Nd.av x).set k v) (hv : v.one = true) (hc : v.cells = [v]) :
    sto t 1 (.ptr j (i * 6 + k)) v = some (.und, t.put j (.row (ndC.cells (l.set i y)) true)) := by
  have hil := getlt hx
  have hcl : (ndC.cells l).length = l.length * 6 := cells_len ndC l
  simp only [sto, hg, hc, List.length_singleton, List.all_cons, hv, List.all_nil, Bool.and_self, true_and]
  rw [if_pos (by omega), setAt_set (by omega), cells_set hx hk hy]
def stainC : Con := fun xs s => match xs with
  | [.nils] => some (.tup [], s.lowed)
  | [.sl j 0 n cap 6] => if n = 0 then some (.tup [], s.lowed) else match s.get j with
    | some (.row cs true) => match decL ndC n cs with
      | some l => if cs.length = n * 6 ∧ n ≤ lim then some (.tup [], s.put j (.row (ndC.cells (l.map stainN)) true)) else none
      | none => none
    | _ => none
  | _ => none
def stainTo (i : Nat) (l : List Nd) : List Nd := (l.take i).map stainN ++ l.drop i
theorem stainTo_at {l : List Nd} {i : Nat} {x : Nd} (hx : l[i]? = some x) : (stainTo i l)[i]? = some x := by
  have hil := getlt hx
  have h : ((l.take i).map stainN).length = i := by simp; omega
  unfold stainTo
  rw [List.getElem?_append_right (by omega), h, Nat.sub_self, List.getElem?_drop]
  simpa using hx
theorem stainTo_succ {l : List Nd} {i : Nat} {x : Nd} (hx : l[i]? = some x) : (stainTo i l).set i (stainN x) = stainTo (i + 1) l := by
  have hil := getlt hx
  have h : ((l.take i).map stainN).length = i := by simp; omega
  unfold stainTo
  have hd : l.drop i = x :: l.drop (i + 1) := by
    rw [List.drop_eq_getElem_cons hil]
    congr 1
    exact (List.getElem?_eq_some_iff.1 hx).2
  rw [hd, take_snoc hx, List.set_append_right _ _ (by omega), h, Nat.sub_self]
  simp
theorem s_stain : SoundAt Try.prog 17 stainC :=
  con_emb (tb_sound (l := []) (by simp)) mixed Try.func17 k17 c17 fun args s r s' h => by
    have none : ∀ (v : AV), lenV v = some (.int .i64 0) → args = [v] → r = .tup [] → s' = s.lowed → Grow s s' ∧ args.length ≤ a17.ntmps ∧ ∀ env : Env, elen env = a17.ntmps → (∀ i v, args[i]? = some v → E env i = v) →
        awp (tb []) a17.body (fun x env t => (∀ i, x ≠ .exit i) ∧ ∃ f, aresults env t a17.results = some (r.ren f) ∧ Emb f s s' t) env s := by
      rintro v hL rfl rfl rfl
      refine ⟨(keep_lowed s).grow, by simp [a17], fun env hlen ha => ?_⟩
      have h0 : E env 0 = _ := ha 0 _ rfl
      simp only [a17] at hlen
      unfold a17
      simp (config := {contextual := true, maxDischargeDepth := 12}) only [tb, h0, hlen, E_pne, E_psame, elen_put, aev_t, aev_c, aev_f, pE_none, pstep_some, estep_some, gstep_tt, gstep_ff, gstep_tf, gstep_ft, gstep_und, ↓st_nil, ↓st_mv, ↓sg_mv, ↓st_pick, ↓sg_pick, ↓st_build, ↓sg_build, ↓st_bin, ↓sg_bin, ↓st_un, ↓sg_un, ↓st_conv, ↓sg_conv, ↓st_mkfn, ↓sg_mkfn, ↓st_slc, ↓sg_slc, ↓st_slcs, ↓sg_slcs, ↓st_fad, ↓sg_fad, ↓st_fld, ↓sg_fld, ↓st_iad, ↓sg_iad, ↓st_idxs, ↓sg_idxs, ↓st_ext, ↓sg_ext, ↓st_len, ↓sg_len, ↓st_lens, ↓sg_lens, ↓st_cap, ↓sg_cap, ↓st_mm, ↓sg_mm, ↓st_nchk, ↓sg_nchk, ↓st_load1, ↓sg_load1, ↓st_loadn, ↓sg_loadn, ↓st_b2s, ↓sg_b2s, ↓st_look, ↓sg_look, ↓st_lenm, ↓sg_lenm, ↓st_ent, ↓sg_ent, ↓st_calld, ↓sg_calld, ↓st_callvd, ↓sg_callvd, ↓st_call, ↓sg_call, ↓st_callv, ↓sg_callv, ↓st_store, ↓st_storef, ↓st_app, ↓st_appz, ↓st_copy, ↓st_mkmap, ↓st_mset, ↓st_mdel, ↓st_rng, ↓st_allo, ↓st_allor, ↓st_box, ↓st_boxr, ↓st_bsl, ↓st_bslr, ↓st_mksl, ↓st_mkslr, astep_some, bstep_some, ↓wp_regd, ↓wp_reg, ↓wp_skip, ↓wp_exit, ↓wp_ret, ↓wp_seq, ↓wp_block, ↓wp_cond, ↓wp_loop, cstep_true, cstep_false, rstep_true, noNxt_nil, noNxt_cons, isNx, forall_const, List.all_cons, List.all_nil, Bool.and_true, Bool.true_and, Bool.and_false, Bool.false_and, Bool.or_true, Bool.true_or, Bool.or_false, Bool.false_or, Bool.and_eq_true, sel_true, sel_false, gP_bt, gP_bf, gP_st, gP_sf, gP_und, gpure_bt, gpure_bf, gpure_st, gpure_sf, gpure_und, gpure_sft, gpure_stf, gcall_sft, gcall_stf, gpure_tf, gpure_ft, gcall_bt, gcall_bf, gcall_st, gcall_sf, gcall_und, gcall_tf, gcall_ft, gcall_tt, gcall_ff, res1, res2, res0, rc1, rc2, ar_loadn, ar_load1, ae_store, ap_iad, ap_fad, fadV_ptr, ap_len, lenV_sl, lenV_nils, ap_pick, pickV_t, pickV_f, pickV_or, pickV_ors, pickV_orn, ar_call, pickV_and, pickV_ands, ap_not, notV_bool, ap_ext, extV_0, extV_1, ap_build, fillP_nil, fillP_cons, aa_bsl1, aa_box, boxV_dot, boxV_nd, fstep_nd, fstep_dot, Option.map_some, push_put, reserve0, reserve1_get, reserve1_get', reserve1_born, reserve1_born', sto_nd, sto_nd0, lod_nd, lod_nd_dot, lod_nd_par, lod1_nd_t, lod1_nd_x, lod_dot, lod1_dot_r, lod1_dot_c, sto_push_lt, lod_reserve, lod1_reserve, sto_nd_x, sto_nd_t, lt_lowed, cs_dec, cs_not, cs_and, cs_or, cs_valid, eq_self, kt_refl, kt_push, kt_lowed, lod_push_lt, lod1_push_lt, lod_lowed, lod1_lowed, lod_lowd, lod1_lowd, bin_lss, bin_leq, bin_gtr, bin_geq, bin_eql, bin_neq, bin_add, bin_sub, bin_eqb, bin_neb, bin_eqd, bin_neqd, bin_eqd0, bin_neqd0, bin_eqn, bin_neqn, List.map_cons, List.map_nil, Nat.add_zero, Nat.zero_add, Bool.not_true, Bool.not_eq_true', Bool.not_eq_false', Bool.and_eq_true, Bool.not_false, Bool.not_not, ne_eq, reduceCtorEq, not_false_eq_true, implies_true, true_and, and_true, ↓reduceIte, Nat.reduceEqDiff, Nat.reduceLT, Nat.reduceAdd, Nat.reduceMul, Nat.one_ne_zero, Nat.zero_ne_one, Nat.zero_mul, Nat.one_mul, lowed_next, lt_push, lt_push_same, same_self, same_push, same_lowed, same_lowed', decide_true, decide_false, Int.ofNat_lt, Int.ofNat_le, exists_const, ae_app, ap_slc, Option.map_none, mkR_none, mkR_some, ar_look, ae_mset, ae_rng, ae_mkmap0, ar_ent, lookV_push, lookV_lowed, msetV_push, msetV_lowed, lt_put, same_put, sto_over, sto_lowed, cs_dead, Option.map_some]
      refine lwp_inv (fun n e t => t = s ∧ elen e = 21 ∧ E e 0 = v ∧ E e 2 = .int .i64 0) (n := 0) ⟨rfl, by simp only [E_pne, E_psame, elen_put, Nat.reduceEqDiff, ne_eq, not_false_eq_true, Nat.reduceLT, hlen], by simp only [E_pne, E_psame, elen_put, Nat.reduceEqDiff, ne_eq, not_false_eq_true, Nat.reduceLT, h0], by simp only [E_pne, E_psame, elen_put, Nat.reduceEqDiff, ne_eq, not_false_eq_true, Nat.reduceLT, hlen]⟩ ?_
      rintro n e t ⟨rfl, he, e0, e2⟩
      have hz : ((0 : Int) < 0) = False := by decide
      simp (config := {contextual := true, maxDischargeDepth := 12}) only [tb, e0, e2, he, hL, hz, E_pne, E_psame, elen_put, aev_t, aev_c, aev_f, pE_none, pstep_some, estep_some, gstep_tt, gstep_ff, gstep_tf, gstep_ft, gstep_und, ↓st_nil, ↓st_mv, ↓sg_mv, ↓st_pick, ↓sg_pick, ↓st_build, ↓sg_build, ↓st_bin, ↓sg_bin, ↓st_un, ↓sg_un, ↓st_conv, ↓sg_conv, ↓st_mkfn, ↓sg_mkfn, ↓st_slc, ↓sg_slc, ↓st_slcs, ↓sg_slcs, ↓st_fad, ↓sg_fad, ↓st_fld, ↓sg_fld, ↓st_iad, ↓sg_iad, ↓st_idxs, ↓sg_idxs, ↓st_ext, ↓sg_ext, ↓st_len, ↓sg_len, ↓st_lens, ↓sg_lens, ↓st_cap, ↓sg_cap, ↓st_mm, ↓sg_mm, ↓st_nchk, ↓sg_nchk, ↓st_load1, ↓sg_load1, ↓st_loadn, ↓sg_loadn, ↓st_b2s, ↓sg_b2s, ↓st_look, ↓sg_look, ↓st_lenm, ↓sg_lenm, ↓st_ent, ↓sg_ent, ↓st_calld, ↓sg_calld, ↓st_callvd, ↓sg_callvd, ↓st_call, ↓sg_call, ↓st_callv, ↓sg_callv, ↓st_store, ↓st_storef, ↓st_app, ↓st_appz, ↓st_copy, ↓st_mkmap, ↓st_mset, ↓st_mdel, ↓st_rng, ↓st_allo, ↓st_allor, ↓st_box, ↓st_boxr, ↓st_bsl, ↓st_bslr, ↓st_mksl, ↓st_mkslr, astep_some, bstep_some, ↓wp_regd, ↓wp_reg, ↓wp_skip, ↓wp_exit, ↓wp_ret, ↓wp_seq, ↓wp_block, ↓wp_cond, ↓wp_loop, cstep_true, cstep_false, rstep_true, noNxt_nil, noNxt_cons, isNx, forall_const, List.all_cons, List.all_nil, Bool.and_true, Bool.true_and, Bool.and_false, Bool.false_and, Bool.or_true, Bool.true_or, Bool.or_false, Bool.false_or, Bool.and_eq_true, sel_true, sel_false, gP_bt, gP_bf, gP_st, gP_sf, gP_und, gpure_bt, gpure_bf, gpure_st, gpure_sf, gpure_und, gpure_sft, gpure_stf, gcall_sft, gcall_stf, gpure_tf, gpure_ft, gcall_bt, gcall_bf, gcall_st, gcall_sf, gcall_und, gcall_tf, gcall_ft, gcall_tt, gcall_ff, res1, res2, res0, rc1, rc2, ar_loadn, ar_load1, ae_store, ap_iad, ap_fad, fadV_ptr, ap_len, lenV_sl, lenV_nils, ap_pick, pickV_t, pickV_f, pickV_or, pickV_ors, pickV_orn, ar_call, pickV_and, pickV_ands, ap_not, notV_bool, ap_ext, extV_0, extV_1, ap_build, fillP_nil, fillP_cons, aa_bsl1, aa_box, boxV_dot, boxV_nd, fstep_nd, fstep_dot, Option.map_some, push_put, reserve0, reserve1_get, reserve1_get', reserve1_born, reserve1_born', sto_nd, sto_nd0, lod_nd, lod_nd_dot, lod_nd_par, lod1_nd_t, lod1_nd_x, lod_dot, lod1_dot_r, lod1_dot_c, sto_push_lt, lod_reserve, lod1_reserve, sto_nd_x, sto_nd_t, lt_lowed, cs_dec, cs_not, cs_and, cs_or, cs_valid, eq_self, kt_refl, kt_push, kt_lowed, lod_push_lt, lod1_push_lt, lod_lowed, lod1_lowed, lod_lowd, lod1_lowd, bin_lss, bin_leq, bin_gtr, bin_geq, bin_eql, bin_neq, bin_add, bin_sub, bin_eqb, bin_neb, bin_eqd, bin_neqd, bin_eqd0, bin_neqd0, bin_eqn, bin_neqn, List.map_cons, List.map_nil, Nat.add_zero, Nat.zero_add, Bool.not_true, Bool.not_eq_true', Bool.not_eq_false', Bool.and_eq_true, Bool.not_false, Bool.not_not, ne_eq, reduceCtorEq, not_false_eq_true, implies_true, true_and, and_true, ↓reduceIte, Nat.reduceEqDiff, Nat.reduceLT, Nat.reduceAdd, Nat.reduceMul, Nat.one_ne_zero, Nat.zero_ne_one, Nat.zero_mul, Nat.one_mul, lowed_next, lt_push, lt_push_same, same_self, same_push, same_lowed, same_lowed', decide_true, decide_false, Int.ofNat_lt, Int.ofNat_le, exists_const, ae_app, ap_slc, Option.map_none, mkR_none, mkR_some, ar_look, ae_mset, ae_rng, ae_mkmap0, ar_ent, lookV_push, lookV_lowed, msetV_push, msetV_lowed, lt_put, same_put, sto_over, sto_lowed, cs_dead, Option.map_some]
      obtain ⟨f, h1, h2⟩ := emb_keep (Keep.refl t)
      exact ⟨f, by simp [AV.ren, AV.rens], h2⟩
    unfold stainC at h
    split at h
    · injection h with h
      obtain ⟨rfl, rfl⟩ := Prod.mk.inj h
      exact none .nils rfl rfl rfl rfl
    · rename_i j n cap
      split at h
      · rename_i hn
        subst hn
        injection h with h
        obtain ⟨rfl, rfl⟩ := Prod.mk.inj h
        exact none _ rfl rfl rfl rfl
      · rename_i hn
        split at h
        · rename_i cs hg
          split at h
          · rename_i l hd
            split at h
            · rename_i hc
              obtain ⟨hc1, hlim⟩ := hc
              injection h with h
              obtain ⟨rfl, rfl⟩ := Prod.mk.inj h
              obtain ⟨d1, d2, d3⟩ := decL_some hd
              have hcs : cs = ndC.cells l := by rw [← d3, show n * ndC.sz = cs.length from hc1.symm]; simp
              subst hcs
              subst d1
              refine ⟨grow_put _ hg, by simp [a17], fun env hlen ha => ?_⟩
              have h0 : E env 0 = _ := ha 0 _ rfl
              simp only [a17] at hlen
              unfold a17
              simp (config := {contextual := true, maxDischargeDepth := 12}) only [tb, h0, hlen, E_pne, E_psame, elen_put, aev_t, aev_c, aev_f, pE_none, pstep_some, estep_some, gstep_tt, gstep_ff, gstep_tf, gstep_ft, gstep_und, ↓st_nil, ↓st_mv, ↓sg_mv, ↓st_pick, ↓sg_pick, ↓st_build, ↓sg_build, ↓st_bin, ↓sg_bin, ↓st_un, ↓sg_un, ↓st_conv, ↓sg_conv, ↓st_mkfn, ↓sg_mkfn, ↓st_slc, ↓sg_slc, ↓st_slcs, ↓sg_slcs, ↓st_fad, ↓sg_fad, ↓st_fld, ↓sg_fld, ↓st_iad, ↓sg_iad, ↓st_idxs, ↓sg_idxs, ↓st_ext, ↓sg_ext, ↓st_len, ↓sg_len, ↓st_lens, ↓sg_lens, ↓st_cap, ↓sg_cap, ↓st_mm, ↓sg_mm, ↓st_nchk, ↓sg_nchk, ↓st_load1, ↓sg_load1, ↓st_loadn, ↓sg_loadn, ↓st_b2s, ↓sg_b2s, ↓st_look, ↓sg_look, ↓st_lenm, ↓sg_lenm, ↓st_ent, ↓sg_ent, ↓st_calld, ↓sg_calld, ↓st_callvd, ↓sg_callvd, ↓st_call, ↓sg_call, ↓st_callv, ↓sg_callv, ↓st_store, ↓st_storef, ↓st_app, ↓st_appz, ↓st_copy, ↓st_mkmap, ↓st_mset, ↓st_mdel, ↓st_rng, ↓st_allo, ↓st_allor, ↓st_box, ↓st_boxr, ↓st_bsl, ↓st_bslr, ↓st_mksl, ↓st_mkslr, astep_some, bstep_some, ↓wp_regd, ↓wp_reg, ↓wp_skip, ↓wp_exit, ↓wp_ret, ↓wp_seq, ↓wp_block, ↓wp_cond, ↓wp_loop, cstep_true, cstep_false, rstep_true, noNxt_nil, noNxt_cons, isNx, forall_const, List.all_cons, List.all_nil, Bool.and_true, Bool.true_and, Bool.and_false, Bool.false_and, Bool.or_true, Bool.true_or, Bool.or_false, Bool.false_or, Bool.and_eq_true, sel_true, sel_false, gP_bt, gP_bf, gP_st, gP_sf, gP_und, gpure_bt, gpure_bf, gpure_st, gpure_sf, gpure_und, gpure_sft, gpure_stf, gcall_sft, gcall_stf, gpure_tf, gpure_ft, gcall_bt, gcall_bf, gcall_st, gcall_sf, gcall_und, gcall_tf, gcall_ft, gcall_tt, gcall_ff, res1, res2, res0, rc1, rc2, ar_loadn, ar_load1, ae_store, ap_iad, ap_fad, fadV_ptr, ap_len, lenV_sl, lenV_nils, ap_pick, pickV_t, pickV_f, pickV_or, pickV_ors, pickV_orn, ar_call, pickV_and, pickV_ands, ap_not, notV_bool, ap_ext, extV_0, extV_1, ap_build, fillP_nil, fillP_cons, aa_bsl1, aa_box, boxV_dot, boxV_nd, fstep_nd, fstep_dot, Option.map_some, push_put, reserve0, reserve1_get, reserve1_get', reserve1_born, reserve1_born', sto_nd, sto_nd0, lod_nd, lod_nd_dot, lod_nd_par, lod1_nd_t, lod1_nd_x, lod_dot, lod1_dot_r, lod1_dot_c, sto_push_lt, lod_reserve, lod1_reserve, sto_nd_x, sto_nd_t, lt_lowed, cs_dec, cs_not, cs_and, cs_or, cs_valid, eq_self, kt_refl, kt_push, kt_lowed, lod_push_lt, lod1_push_lt, lod_lowed, lod1_lowed, lod_lowd, lod1_lowd, bin_lss, bin_leq, bin_gtr, bin_geq, bin_eql, bin_neq, bin_add, bin_sub, bin_eqb, bin_neb, bin_eqd, bin_neqd, bin_eqd0, bin_neqd0, bin_eqn, bin_neqn, List.map_cons, List.map_nil, Nat.add_zero, Nat.zero_add, Bool.not_true, Bool.not_eq_true', Bool.not_eq_false', Bool.and_eq_true, Bool.not_false, Bool.not_not, ne_eq, reduceCtorEq, not_false_eq_true, implies_true, true_and, and_true, ↓reduceIte, Nat.reduceEqDiff, Nat.reduceLT, Nat.reduceAdd, Nat.reduceMul, Nat.one_ne_zero, Nat.zero_ne_one, Nat.zero_mul, Nat.one_mul, lowed_next, lt_push, lt_push_same, same_self, same_push, same_lowed, same_lowed', decide_true, decide_false, Int.ofNat_lt, Int.ofNat_le, exists_const, ae_app, ap_slc, Option.map_none, mkR_none, mkR_some, ar_look, ae_mset, ae_rng, ae_mkmap0, ar_ent, lookV_push, lookV_lowed, msetV_push, msetV_lowed, lt_put, same_put, sto_over, sto_lowed, cs_dead, Option.map_some]
              obtain ⟨I, hI⟩ : ∃ I : Nat → Env → St → Prop, ∀ n e t, I n e t = (∃ i : Nat, n + i = l.length ∧ elen e = 21 ∧ E e 0 = .sl j 0 l.length cap 6 ∧ E e 2 = .int .i64 (i : Int) ∧ t.get j = some (.row (ndC.cells (stainTo i l)) true) ∧ (i = 0 ∧ t = s ∨ 0 < i ∧ t = s.put j (.row (ndC.cells (stainTo i l)) true))) := ⟨fun n e t => (∃ i : Nat, n + i = l.length ∧ elen e = 21 ∧ E e 0 = .sl j 0 l.length cap 6 ∧ E e 2 = .int .i64 (i : Int) ∧ t.get j = some (.row (ndC.cells (stainTo i l)) true) ∧ (i = 0 ∧ t = s ∨ 0 < i ∧ t = s.put j (.row (ndC.cells (stainTo i l)) true))), fun _ _ _ => rfl⟩
              refine lwp_inv I (n := l.length) ?_ ?_
              · rw [hI]
                exact ⟨0, by omega, by simp only [E_pne, E_psame, elen_put, Nat.reduceEqDiff, ne_eq, not_false_eq_true, Nat.reduceLT, hlen], by simp only [E_pne, E_psame, elen_put, Nat.reduceEqDiff, ne_eq, not_false_eq_true, Nat.reduceLT, h0], by simp only [E_pne, E_psame, elen_put, Nat.reduceEqDiff, ne_eq, not_false_eq_true, Nat.reduceLT, hlen]; rfl, by simpa [stainTo] using hg, .inl ⟨rfl, rfl⟩⟩
              intro n e t hi
              rw [hI] at hi
              obtain ⟨i, hni, he, e0, e2, gj, ht⟩ := hi
              have hL : lenV (.sl j 0 l.length cap 6) = some (.int .i64 (l.length : Int)) := rfl
              by_cases hlt : i < l.length
              · obtain ⟨x, hx⟩ := getsome hlt
                have hw2 := wrap_add1 (n := i) (by unfold lim at hlim; omega)
                have i1 : iadV 6 (.sl j 0 l.length cap 6) (.int .i64 (i : Int)) = some (.ptr j (i * 6)) := by
                  have := iadV_nat (sz := 6) (id := j) (off := 0) (cap := cap) (k := .i64) hlt
                  rwa [Nat.zero_add] at this
                have hsx := stainTo_at hx
                have hl1 : lod1 t (.ptr j (i * 6 + 4)) = some (.int .i64 x.t) := by
                  simp only [lod1, gj]
                  rw [cells_get, show (i * 6 + 4) / 6 = i by omega, show (i * 6 + 4) % 6 = 4 by omega, hsx]
                  rfl
                have s1 := sto_field (y := { x with t := IntKind.i64.wrap (x.t + 1) }) (v := .int .i64 (IntKind.i64.wrap (x.t + 1))) gj hsx (k := 4) (by omega) rfl rfl rfl
                obtain ⟨t1, ht1⟩ : ∃ t1, t1 = t.put j (.row (ndC.cells ((stainTo i l).set i { x with t := IntKind.i64.wrap (x.t + 1) })) true) := ⟨_, rfl⟩
                rw [← ht1] at s1
                have g1 : t1.get j = some (.row (ndC.cells ((stainTo i l).set i { x with t := IntKind.i64.wrap (x.t + 1) })) true) := by rw [ht1]; exact St.get_put_same gj
                have hsx1 : ((stainTo i l).set i { x with t := IntKind.i64.wrap (x.t + 1) })[i]? = some { x with t := IntKind.i64.wrap (x.t + 1) } := List.getElem?_set_self (getlt hsx)
                have s2 := sto_field (y := stainN x) (v := .int .i32 88) g1 hsx1 (k := 5) (by omega) rfl rfl rfl
                rw [List.set_set, stainTo_succ hx] at s2
                obtain ⟨t2, ht2⟩ : ∃ t2, t2 = t1.put j (.row (ndC.cells (stainTo (i + 1) l)) true) := ⟨_, rfl⟩
                rw [← ht2] at s2
                simp (config := {contextual := true, maxDischargeDepth := 12}) only [tb, e0, e2, he, hL, hlt, hw2, i1, hl1, s1, s2, E_pne, E_psame, elen_put, aev_t, aev_c, aev_f, pE_none, pstep_some, estep_some, gstep_tt, gstep_ff, gstep_tf, gstep_ft, gstep_und, ↓st_nil, ↓st_mv, ↓sg_mv, ↓st_pick, ↓sg_pick, ↓st_build, ↓sg_build, ↓st_bin, ↓sg_bin, ↓st_un, ↓sg_un, ↓st_conv, ↓sg_conv, ↓st_mkfn, ↓sg_mkfn, ↓st_slc, ↓sg_slc, ↓st_slcs, ↓sg_slcs, ↓st_fad, ↓sg_fad, ↓st_fld, ↓sg_fld, ↓st_iad, ↓sg_iad, ↓st_idxs, ↓sg_idxs, ↓st_ext, ↓sg_ext, ↓st_len, ↓sg_len, ↓st_lens, ↓sg_lens, ↓st_cap, ↓sg_cap, ↓st_mm, ↓sg_mm, ↓st_nchk, ↓sg_nchk, ↓st_load1, ↓sg_load1, ↓st_loadn, ↓sg_loadn, ↓st_b2s, ↓sg_b2s, ↓st_look, ↓sg_look, ↓st_lenm, ↓sg_lenm, ↓st_ent, ↓sg_ent, ↓st_calld, ↓sg_calld, ↓st_callvd, ↓sg_callvd, ↓st_call, ↓sg_call, ↓st_callv, ↓sg_callv, ↓st_store, ↓st_storef, ↓st_app, ↓st_appz, ↓st_copy, ↓st_mkmap, ↓st_mset, ↓st_mdel, ↓st_rng, ↓st_allo, ↓st_allor, ↓st_box, ↓st_boxr, ↓st_bsl, ↓st_bslr, ↓st_mksl, ↓st_mkslr, astep_some, bstep_some, ↓wp_regd, ↓wp_reg, ↓wp_skip, ↓wp_exit, ↓wp_ret, ↓wp_seq, ↓wp_block, ↓wp_cond, ↓wp_loop, cstep_true, cstep_false, rstep_true, noNxt_nil, noNxt_cons, isNx, forall_const, List.all_cons, List.all_nil, Bool.and_true, Bool.true_and, Bool.and_false, Bool.false_and, Bool.or_true, Bool.true_or, Bool.or_false, Bool.false_or, Bool.and_eq_true, sel_true, sel_false, gP_bt, gP_bf, gP_st, gP_sf, gP_und, gpure_bt, gpure_bf, gpure_st, gpure_sf, gpure_und, gpure_sft, gpure_stf, gcall_sft, gcall_stf, gpure_tf, gpure_ft, gcall_bt, gcall_bf, gcall_st, gcall_sf, gcall_und, gcall_tf, gcall_ft, gcall_tt, gcall_ff, res1, res2, res0, rc1, rc2, ar_loadn, ar_load1, ae_store, ap_iad, ap_fad, fadV_ptr, ap_len, lenV_sl, lenV_nils, ap_pick, pickV_t, pickV_f, pickV_or, pickV_ors, pickV_orn, ar_call, pickV_and, pickV_ands, ap_not, notV_bool, ap_ext, extV_0, extV_1, ap_build, fillP_nil, fillP_cons, aa_bsl1, aa_box, boxV_dot, boxV_nd, fstep_nd, fstep_dot, Option.map_some, push_put, reserve0, reserve1_get, reserve1_get', reserve1_born, reserve1_born', sto_nd, sto_nd0, lod_nd, lod_nd_dot, lod_nd_par, lod1_nd_t, lod1_nd_x, lod_dot, lod1_dot_r, lod1_dot_c, sto_push_lt, lod_reserve, lod1_reserve, sto_nd_x, sto_nd_t, lt_lowed, cs_dec, cs_not, cs_and, cs_or, cs_valid, eq_self, kt_refl, kt_push, kt_lowed, lod_push_lt, lod1_push_lt, lod_lowed, lod1_lowed, lod_lowd, lod1_lowd, bin_lss, bin_leq, bin_gtr, bin_geq, bin_eql, bin_neq, bin_add, bin_sub, bin_eqb, bin_neb, bin_eqd, bin_neqd, bin_eqd0, bin_neqd0, bin_eqn, bin_neqn, List.map_cons, List.map_nil, Nat.add_zero, Nat.zero_add, Bool.not_true, Bool.not_eq_true', Bool.not_eq_false', Bool.and_eq_true, Bool.not_false, Bool.not_not, ne_eq, reduceCtorEq, not_false_eq_true, implies_true, true_and, and_true, ↓reduceIte, Nat.reduceEqDiff, Nat.reduceLT, Nat.reduceAdd, Nat.reduceMul, Nat.one_ne_zero, Nat.zero_ne_one, Nat.zero_mul, Nat.one_mul, lowed_next, lt_push, lt_push_same, same_self, same_push, same_lowed, same_lowed', decide_true, decide_false, Int.ofNat_lt, Int.ofNat_le, exists_const, ae_app, ap_slc, Option.map_none, mkR_none, mkR_some, ar_look, ae_mset, ae_rng, ae_mkmap0, ar_ent, lookV_push, lookV_lowed, msetV_push, msetV_lowed, lt_put, same_put, sto_over, sto_lowed, cs_dead, Option.map_some]
                refine ⟨n - 1, by omega, ?_⟩
                rw [hI]
                refine ⟨i + 1, by omega, by simp only [E_pne, E_psame, elen_put, Nat.reduceEqDiff, ne_eq, not_false_eq_true, Nat.reduceLT, he], by simp only [E_pne, E_psame, elen_put, Nat.reduceEqDiff, ne_eq, not_false_eq_true, Nat.reduceLT, e0], by simp only [E_pne, E_psame, elen_put, Nat.reduceEqDiff, ne_eq, not_false_eq_true, Nat.reduceLT, he], by rw [ht2]; exact St.get_put_same g1, .inr ⟨by omega, ?_⟩⟩
                rw [ht2, ht1, put_put]
                rcases ht with ⟨_, rfl⟩ | ⟨_, rfl⟩
                · rfl
                · rw [put_put]
              · obtain rfl : i = l.length := by omega
                rcases ht with ⟨q, _⟩ | ⟨_, rfl⟩
                · omega
                simp (config := {contextual := true, maxDischargeDepth := 12}) only [tb, e0, e2, he, hL, hlt, E_pne, E_psame, elen_put, aev_t, aev_c, aev_f, pE_none, pstep_some, estep_some, gstep_tt, gstep_ff, gstep_tf, gstep_ft, gstep_und, ↓st_nil, ↓st_mv, ↓sg_mv, ↓st_pick, ↓sg_pick, ↓st_build, ↓sg_build, ↓st_bin, ↓sg_bin, ↓st_un, ↓sg_un, ↓st_conv, ↓sg_conv, ↓st_mkfn, ↓sg_mkfn, ↓st_slc, ↓sg_slc, ↓st_slcs, ↓sg_slcs, ↓st_fad, ↓sg_fad, ↓st_fld, ↓sg_fld, ↓st_iad, ↓sg_iad, ↓st_idxs, ↓sg_idxs, ↓st_ext, ↓sg_ext, ↓st_len, ↓sg_len, ↓st_lens, ↓sg_lens, ↓st_cap, ↓sg_cap, ↓st_mm, ↓sg_mm, ↓st_nchk, ↓sg_nchk, ↓st_load1, ↓sg_load1, ↓st_loadn, ↓sg_loadn, ↓st_b2s, ↓sg_b2s, ↓st_look, ↓sg_look, ↓st_lenm, ↓sg_lenm, ↓st_ent, ↓sg_ent, ↓st_calld, ↓sg_calld, ↓st_callvd, ↓sg_callvd, ↓st_call, ↓sg_call, ↓st_callv, ↓sg_callv, ↓st_store, ↓st_storef, ↓st_app, ↓st_appz, ↓st_copy, ↓st_mkmap, ↓st_mset, ↓st_mdel, ↓st_rng, ↓st_allo, ↓st_allor, ↓st_box, ↓st_boxr, ↓st_bsl, ↓st_bslr, ↓st_mksl, ↓st_mkslr, astep_some, bstep_some, ↓wp_regd, ↓wp_reg, ↓wp_skip, ↓wp_exit, ↓wp_ret, ↓wp_seq, ↓wp_block, ↓wp_cond, ↓wp_loop, cstep_true, cstep_false, rstep_true, noNxt_nil, noNxt_cons, isNx, forall_const, List.all_cons, List.all_nil, Bool.and_true, Bool.true_and, Bool.and_false, Bool.false_and, Bool.or_true, Bool.true_or, Bool.or_false, Bool.false_or, Bool.and_eq_true, sel_true, sel_false, gP_bt, gP_bf, gP_st, gP_sf, gP_und, gpure_bt, gpure_bf, gpure_st, gpure_sf, gpure_und, gpure_sft, gpure_stf, gcall_sft, gcall_stf, gpure_tf, gpure_ft, gcall_bt, gcall_bf, gcall_st, gcall_sf, gcall_und, gcall_tf, gcall_ft, gcall_tt, gcall_ff, res1, res2, res0, rc1, rc2, ar_loadn, ar_load1, ae_store, ap_iad, ap_fad, fadV_ptr, ap_len, lenV_sl, lenV_nils, ap_pick, pickV_t, pickV_f, pickV_or, pickV_ors, pickV_orn, ar_call, pickV_and, pickV_ands, ap_not, notV_bool, ap_ext, extV_0, extV_1, ap_build, fillP_nil, fillP_cons, aa_bsl1, aa_box, boxV_dot, boxV_nd, fstep_nd, fstep_dot, Option.map_some, push_put, reserve0, reserve1_get, reserve1_get', reserve1_born, reserve1_born', sto_nd, sto_nd0, lod_nd, lod_nd_dot, lod_nd_par, lod1_nd_t, lod1_nd_x, lod_dot, lod1_dot_r, lod1_dot_c, sto_push_lt, lod_reserve, lod1_reserve, sto_nd_x, sto_nd_t, lt_lowed, cs_dec, cs_not, cs_and, cs_or, cs_valid, eq_self, kt_refl, kt_push, kt_lowed, lod_push_lt, lod1_push_lt, lod_lowed, lod1_lowed, lod_lowd, lod1_lowd, bin_lss, bin_leq, bin_gtr, bin_geq, bin_eql, bin_neq, bin_add, bin_sub, bin_eqb, bin_neb, bin_eqd, bin_neqd, bin_eqd0, bin_neqd0, bin_eqn, bin_neqn, List.map_cons, List.map_nil, Nat.add_zero, Nat.zero_add, Bool.not_true, Bool.not_eq_true', Bool.not_eq_false', Bool.and_eq_true, Bool.not_false, Bool.not_not, ne_eq, reduceCtorEq, not_false_eq_true, implies_true, true_and, and_true, ↓reduceIte, Nat.reduceEqDiff, Nat.reduceLT, Nat.reduceAdd, Nat.reduceMul, Nat.one_ne_zero, Nat.zero_ne_one, Nat.zero_mul, Nat.one_mul, lowed_next, lt_push, lt_push_same, same_self, same_push, same_lowed, same_lowed', decide_true, decide_false, Int.ofNat_lt, Int.ofNat_le, exists_const, ae_app, ap_slc, Option.map_none, mkR_none, mkR_some, ar_look, ae_mset, ae_rng, ae_mkmap0, ar_ent, lookV_push, lookV_lowed, msetV_push, msetV_lowed, lt_put, same_put, sto_over, sto_lowed, cs_dead, Option.map_some]
                have e1 : stainTo l.length l = l.map stainN := by simp [stainTo]
                rw [e1]
                exact ⟨_root_.id, by simp [AV.ren, AV.rens], Emb.refl (grow_put _ hg)⟩
            · cases h
          · cases h
        · cases h
    · cases h

end Go.AM
