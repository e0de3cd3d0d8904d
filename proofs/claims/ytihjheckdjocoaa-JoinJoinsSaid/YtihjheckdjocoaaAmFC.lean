/-
  More loops: Find, Agree, IndexFunc, and functions that pass on what another one answers. Own work of this project; in part printed by a program of it.
-/
import Derived.Test.YtihjheckdjocoaaAmFB
set_option linter.unusedVariables false
set_option linter.unusedSimpArgs false
set_option maxRecDepth 100000
set_option maxHeartbeats 4000000
namespace Go.AM
open Go Go.Proofs

/-! ### Find -/
def conLD {α : Type} (C : Cod α) (f : List α → Dot → AV) : Con := fun xs s => match xs with
  | [v, .agg cs] => match read C s v, dotC.dec cs with
    | some l, some d => if l.length ≤ lim then some (f l d, s.lowed) else none
    | _, _ => none
  | _ => none
theorem conLD_some {α : Type} {C : Cod α} {f : List α → Dot → AV} {xs : List AV} {s : St} {r : AV} {s' : St} (h : conLD C f xs s = some (r, s')) :
    ∃ v l d, xs = [v, .agg (Dot.av d)] ∧ read C s v = some l ∧ l.length ≤ lim ∧ r = f l d ∧ s' = s.lowed := by
  unfold conLD at h
  split at h
  · split at h
    · split at h
      · rename_i v _ _ _ l d hr hd hl
        injection h with h
        obtain ⟨rfl, rfl⟩ := Prod.mk.inj h
        have := dotC.enc_dec _ _ hd
        exact ⟨v, l, d, by rw [this]; rfl, hr, hl, rfl, rfl⟩
      · cases h
    · cases h
  · cases h
theorem conLD_call {α : Type} {C : Cod α} {f : List α → Dot → AV} (hf : ∀ l d, (f l d).ground = true) {s : St} {v : AV} {l : List α} (h : read C s v = some l) (hl : l.length ≤ lim) (cl : Bool) (d : Dot) : acall (conLD C f) cl [v, .agg (Dot.av d)] s = some (f l d, s) :=
  acall_rol (by
    have e : dotC.dec (Dot.av d) = some d := rfl
    simp only [conLD, read_low, h, hl, e, if_true]) (hf l d)
/-- The first node with a dot, or -1. -/
def findL : List Nd → Dot → Int
  | [], _ => -1
  | x :: r, d => if x.d = d then 0 else if findL r d < 0 then -1 else findL r d + 1
theorem findL_ge : ∀ (l : List Nd) (d : Dot), -1 ≤ findL l d
  | [], d => by simp [findL]
  | x :: r, d => by
    have := findL_ge r d
    simp only [findL]
    split
    · omega
    · split <;> omega
theorem findL_hit : ∀ (l : List Nd) (d : Dot) (i : Nat) (x : Nd), l[i]? = some x → x.d = d → (∀ k y, k < i → l[k]? = some y → y.d ≠ d) → findL l d = i
  | [], d, i, x, h, _, _ => by simp at h
  | y :: r, d, 0, x, h, hd, _ => by simp at h; subst h; simp [findL, hd]
  | y :: r, d, i + 1, x, h, hd, hp => by
    have h1 := hp 0 y (by omega) (by simp)
    have h2 := findL_hit r d i x (by simpa using h) hd fun k z hk hz => hp (k + 1) z (by omega) (by simpa using hz)
    simp only [findL, h2, if_neg h1]
    rw [if_neg (by omega)]
    omega
theorem findL_miss : ∀ (l : List Nd) (d : Dot), (∀ x ∈ l, x.d ≠ d) → findL l d = -1
  | [], d, _ => rfl
  | y :: r, d, h => by
    simp only [findL, if_neg (h y (by simp)), findL_miss r d fun x hx => h x (by simp [hx])]
    simp
theorem findL_some {l : List Nd} {d : Dot} (h : 0 ≤ findL l d) : ∃ (i : Nat) (x : Nd), findL l d = i ∧ l[i]? = some x ∧ x.d = d := by
  induction l with
  | nil => simp [findL] at h
  | cons y r ih =>
    simp only [findL] at h ⊢
    split at h
    · rename_i e
      exact ⟨0, y, by simp [e], by simp, e⟩
    · rename_i e
      split at h
      · omega
      · rename_i e2
        obtain ⟨i, x, h1, h2, h3⟩ := ih (by omega)
        refine ⟨i + 1, x, ?_, by simpa using h2, h3⟩
        rw [if_neg e, if_neg e2, h1]
        omega
theorem findL_none {l : List Nd} {d : Dot} (h : findL l d < 0) : ∀ x ∈ l, x.d ≠ d := by
  induction l with
  | nil => simp
  | cons y r ih =>
    simp only [findL] at h
    split at h
    · omega
    · rename_i e
      have hr : findL r d < 0 := by
        split at h
        · assumption
        · omega
      intro x hx
      rcases List.mem_cons.1 hx with rfl | hx
      · exact e
      · exact ih hr x hx
def fFind (l : List Nd) (d : Dot) : AV := .int .i64 (findL l d)
theorem s_Find : SoundAt Try.prog 22 (conLD ndC fFind) :=
  con_keep (tb_sound (l := []) (by simp)) mixed Try.func22 k22 c22 fun args s r s' h => by
    obtain ⟨v, l, d, rfl, hr, hl, rfl, rfl⟩ := conLD_some h
    refine ⟨rfl, rfl, by simp [a22], fun env hlen ha => ?_⟩
    have h0 : E env 0 = _ := ha 0 _ rfl
    have h1 : E env 1 = _ := ha 1 _ rfl
    have hlen : elen env = _ := hlen
    simp only [a22] at hlen
    unfold a22
    have hL := lenV_read hr
    simp (config := {contextual := true, maxDischargeDepth := 12}) only [tb, h0, h1, hlen, E_pne, E_psame, elen_put, aev_t, aev_c, aev_f, pE_none, pstep_some, estep_some, gstep_tt, gstep_ff, gstep_tf, gstep_ft, gstep_und, ↓st_nil, ↓st_mv, ↓sg_mv, ↓st_pick, ↓sg_pick, ↓st_build, ↓sg_build, ↓st_bin, ↓sg_bin, ↓st_un, ↓sg_un, ↓st_conv, ↓sg_conv, ↓st_mkfn, ↓sg_mkfn, ↓st_slc, ↓sg_slc, ↓st_slcs, ↓sg_slcs, ↓st_fad, ↓sg_fad, ↓st_fld, ↓sg_fld, ↓st_iad, ↓sg_iad, ↓st_idxs, ↓sg_idxs, ↓st_ext, ↓sg_ext, ↓st_len, ↓sg_len, ↓st_lens, ↓sg_lens, ↓st_cap, ↓sg_cap, ↓st_mm, ↓sg_mm, ↓st_nchk, ↓sg_nchk, ↓st_load1, ↓sg_load1, ↓st_loadn, ↓sg_loadn, ↓st_b2s, ↓sg_b2s, ↓st_look, ↓sg_look, ↓st_lenm, ↓sg_lenm, ↓st_ent, ↓sg_ent, ↓st_calld, ↓sg_calld, ↓st_callvd, ↓sg_callvd, ↓st_call, ↓sg_call, ↓st_callv, ↓sg_callv, ↓st_store, ↓st_storef, ↓st_app, ↓st_appz, ↓st_copy, ↓st_mkmap, ↓st_mset, ↓st_mdel, ↓st_rng, ↓st_allo, ↓st_allor, ↓st_box, ↓st_boxr, ↓st_bsl, ↓st_bslr, ↓st_mksl, ↓st_mkslr, astep_some, bstep_some, ↓wp_regd, ↓wp_reg, ↓wp_skip, ↓wp_exit, ↓wp_ret, ↓wp_seq, ↓wp_block, ↓wp_cond, ↓wp_loop, cstep_true, cstep_false, rstep_true, noNxt_nil, noNxt_cons, isNx, forall_const, List.all_cons, List.all_nil, Bool.and_true, Bool.true_and, Bool.and_false, Bool.false_and, Bool.or_true, Bool.true_or, Bool.or_false, Bool.false_or, Bool.and_eq_true, sel_true, sel_false, gP_bt, gP_bf, gP_st, gP_sf, gP_und, gpure_bt, gpure_bf, gpure_st, gpure_sf, gpure_und, gpure_sft, gpure_stf, gcall_sft, gcall_stf, gpure_tf, gpure_ft, gcall_bt, gcall_bf, gcall_st, gcall_sf, gcall_und, gcall_tf, gcall_ft, gcall_tt, gcall_ff, res1, res2, res0, rc1, rc2, ar_loadn, ar_load1, ae_store, ap_iad, ap_fad, fadV_ptr, ap_len, lenV_sl, lenV_nils, ap_pick, pickV_t, pickV_f, pickV_or, pickV_ors, pickV_orn, ar_call, pickV_and, pickV_ands, ap_not, notV_bool, ap_ext, extV_0, extV_1, ap_build, fillP_nil, fillP_cons, aa_bsl1, aa_box, boxV_dot, boxV_nd, fstep_nd, fstep_dot, Option.map_some, push_put, reserve0, reserve1_get, reserve1_get', reserve1_born, reserve1_born', sto_nd, sto_nd0, lod_nd, lod_nd_dot, lod_nd_par, lod1_nd_t, lod1_nd_x, lod_dot, lod1_dot_r, lod1_dot_c, sto_push_lt, lod_reserve, lod1_reserve, sto_nd_x, sto_nd_t, lt_lowed, cstep_bool, kt_refl, kt_push, kt_lowed, lod_push_lt, lod1_push_lt, lod_lowed, lod1_lowed, lod_lowd, lod1_lowd, bin_lss, bin_leq, bin_gtr, bin_geq, bin_eql, bin_neq, bin_add, bin_sub, bin_eqb, bin_neb, bin_eqd, bin_neqd, bin_eqd0, bin_neqd0, bin_eqn, bin_neqn, List.map_cons, List.map_nil, Nat.add_zero, Nat.zero_add, Bool.not_true, Bool.not_eq_true', Bool.not_eq_false', Bool.and_eq_true, Bool.not_false, Bool.not_not, ne_eq, reduceCtorEq, not_false_eq_true, implies_true, true_and, and_true, ↓reduceIte, Nat.reduceEqDiff, Nat.reduceLT, Nat.reduceAdd, Nat.reduceMul, Nat.one_ne_zero, Nat.zero_ne_one, Nat.zero_mul, Nat.one_mul, lowed_next, lt_push, lt_push_same, same_self, same_push, same_lowed, same_lowed', decide_true, decide_false, Int.ofNat_lt, Int.ofNat_le, exists_const]
    refine lwp_inv (fun n e t => t = s.push (.row (Dot.av d) true) ∧ ∃ i : Nat, n + i = l.length ∧ elen e = 20 ∧ E e 0 = v ∧ E e 3 = .ptr s.next 0 ∧ E e 5 = .int .i64 (i : Int) ∧ ∀ k y, k < i → l[k]? = some y → y.d ≠ d) (n := l.length) ⟨rfl, 0, by omega, by simp only [E_pne, E_psame, elen_put, Nat.reduceEqDiff, ne_eq, not_false_eq_true, Nat.reduceLT, hlen], by simp only [E_pne, E_psame, elen_put, Nat.reduceEqDiff, ne_eq, not_false_eq_true, Nat.reduceLT, h0], by simp only [E_pne, E_psame, elen_put, Nat.reduceEqDiff, ne_eq, not_false_eq_true, Nat.reduceLT, hlen], by simp only [E_pne, E_psame, elen_put, Nat.reduceEqDiff, ne_eq, not_false_eq_true, Nat.reduceLT, hlen]; rfl, fun k y hk => by omega⟩ ?_
    · rintro n e t ⟨rfl, i, hn, he, e0, e3, e5, hpre⟩
      by_cases hlt : i < l.length
      · obtain ⟨x, hx⟩ := getsome hlt
        have hw2 := wrap_add1 (n := i) (by unfold lim at hl; omega)
        obtain ⟨_, a2, _, _, _, al⟩ := nd_lods hr (.refl _) hx
        have i1 := nd_idx hr hx .i64
        simp (config := {contextual := true, maxDischargeDepth := 12}) only [tb, e0, e3, e5, he, hL, hlt, hw2, a2, al, i1, E_pne, E_psame, elen_put, aev_t, aev_c, aev_f, pE_none, pstep_some, estep_some, gstep_tt, gstep_ff, gstep_tf, gstep_ft, gstep_und, ↓st_nil, ↓st_mv, ↓sg_mv, ↓st_pick, ↓sg_pick, ↓st_build, ↓sg_build, ↓st_bin, ↓sg_bin, ↓st_un, ↓sg_un, ↓st_conv, ↓sg_conv, ↓st_mkfn, ↓sg_mkfn, ↓st_slc, ↓sg_slc, ↓st_slcs, ↓sg_slcs, ↓st_fad, ↓sg_fad, ↓st_fld, ↓sg_fld, ↓st_iad, ↓sg_iad, ↓st_idxs, ↓sg_idxs, ↓st_ext, ↓sg_ext, ↓st_len, ↓sg_len, ↓st_lens, ↓sg_lens, ↓st_cap, ↓sg_cap, ↓st_mm, ↓sg_mm, ↓st_nchk, ↓sg_nchk, ↓st_load1, ↓sg_load1, ↓st_loadn, ↓sg_loadn, ↓st_b2s, ↓sg_b2s, ↓st_look, ↓sg_look, ↓st_lenm, ↓sg_lenm, ↓st_ent, ↓sg_ent, ↓st_calld, ↓sg_calld, ↓st_callvd, ↓sg_callvd, ↓st_call, ↓sg_call, ↓st_callv, ↓sg_callv, ↓st_store, ↓st_storef, ↓st_app, ↓st_appz, ↓st_copy, ↓st_mkmap, ↓st_mset, ↓st_mdel, ↓st_rng, ↓st_allo, ↓st_allor, ↓st_box, ↓st_boxr, ↓st_bsl, ↓st_bslr, ↓st_mksl, ↓st_mkslr, astep_some, bstep_some, ↓wp_regd, ↓wp_reg, ↓wp_skip, ↓wp_exit, ↓wp_ret, ↓wp_seq, ↓wp_block, ↓wp_cond, ↓wp_loop, cstep_true, cstep_false, rstep_true, noNxt_nil, noNxt_cons, isNx, forall_const, List.all_cons, List.all_nil, Bool.and_true, Bool.true_and, Bool.and_false, Bool.false_and, Bool.or_true, Bool.true_or, Bool.or_false, Bool.false_or, Bool.and_eq_true, sel_true, sel_false, gP_bt, gP_bf, gP_st, gP_sf, gP_und, gpure_bt, gpure_bf, gpure_st, gpure_sf, gpure_und, gpure_sft, gpure_stf, gcall_sft, gcall_stf, gpure_tf, gpure_ft, gcall_bt, gcall_bf, gcall_st, gcall_sf, gcall_und, gcall_tf, gcall_ft, gcall_tt, gcall_ff, res1, res2, res0, rc1, rc2, ar_loadn, ar_load1, ae_store, ap_iad, ap_fad, fadV_ptr, ap_len, lenV_sl, lenV_nils, ap_pick, pickV_t, pickV_f, pickV_or, pickV_ors, pickV_orn, ar_call, pickV_and, pickV_ands, ap_not, notV_bool, ap_ext, extV_0, extV_1, ap_build, fillP_nil, fillP_cons, aa_bsl1, aa_box, boxV_dot, boxV_nd, fstep_nd, fstep_dot, Option.map_some, push_put, reserve0, reserve1_get, reserve1_get', reserve1_born, reserve1_born', sto_nd, sto_nd0, lod_nd, lod_nd_dot, lod_nd_par, lod1_nd_t, lod1_nd_x, lod_dot, lod1_dot_r, lod1_dot_c, sto_push_lt, lod_reserve, lod1_reserve, sto_nd_x, sto_nd_t, lt_lowed, cstep_bool, kt_refl, kt_push, kt_lowed, lod_push_lt, lod1_push_lt, lod_lowed, lod1_lowed, lod_lowd, lod1_lowd, bin_lss, bin_leq, bin_gtr, bin_geq, bin_eql, bin_neq, bin_add, bin_sub, bin_eqb, bin_neb, bin_eqd, bin_neqd, bin_eqd0, bin_neqd0, bin_eqn, bin_neqn, List.map_cons, List.map_nil, Nat.add_zero, Nat.zero_add, Bool.not_true, Bool.not_eq_true', Bool.not_eq_false', Bool.and_eq_true, Bool.not_false, Bool.not_not, ne_eq, reduceCtorEq, not_false_eq_true, implies_true, true_and, and_true, ↓reduceIte, Nat.reduceEqDiff, Nat.reduceLT, Nat.reduceAdd, Nat.reduceMul, Nat.one_ne_zero, Nat.zero_ne_one, Nat.zero_mul, Nat.one_mul, lowed_next, lt_push, lt_push_same, same_self, same_push, same_lowed, same_lowed', decide_true, decide_false, Int.ofNat_lt, Int.ofNat_le, exists_const]
        refine ⟨⟨fun hb => ?_, fun hb => ⟨n - 1, by omega, i + 1, by omega, rfl, ?_⟩⟩, fun hf => hf.elim⟩
        · have hb := of_decide_eq_true hb
          simp only [fFind, findL_hit l d i x hx hb hpre]
        · have hb := of_decide_eq_false hb
          intro k' y' hk' hy'
          by_cases e' : k' = i
          · subst e'
            rw [hx] at hy'; cases hy'
            exact hb
          · exact hpre k' y' (by omega) hy'
      · have : findL l d = -1 := findL_miss l d fun x hx => by
          obtain ⟨k, hk⟩ := List.getElem?_of_mem hx
          exact hpre k x (by have := getlt hk; omega) hk
        simp (config := {contextual := true, maxDischargeDepth := 12}) only [tb, e0, e3, e5, he, hL, hlt, E_pne, E_psame, elen_put, aev_t, aev_c, aev_f, pE_none, pstep_some, estep_some, gstep_tt, gstep_ff, gstep_tf, gstep_ft, gstep_und, ↓st_nil, ↓st_mv, ↓sg_mv, ↓st_pick, ↓sg_pick, ↓st_build, ↓sg_build, ↓st_bin, ↓sg_bin, ↓st_un, ↓sg_un, ↓st_conv, ↓sg_conv, ↓st_mkfn, ↓sg_mkfn, ↓st_slc, ↓sg_slc, ↓st_slcs, ↓sg_slcs, ↓st_fad, ↓sg_fad, ↓st_fld, ↓sg_fld, ↓st_iad, ↓sg_iad, ↓st_idxs, ↓sg_idxs, ↓st_ext, ↓sg_ext, ↓st_len, ↓sg_len, ↓st_lens, ↓sg_lens, ↓st_cap, ↓sg_cap, ↓st_mm, ↓sg_mm, ↓st_nchk, ↓sg_nchk, ↓st_load1, ↓sg_load1, ↓st_loadn, ↓sg_loadn, ↓st_b2s, ↓sg_b2s, ↓st_look, ↓sg_look, ↓st_lenm, ↓sg_lenm, ↓st_ent, ↓sg_ent, ↓st_calld, ↓sg_calld, ↓st_callvd, ↓sg_callvd, ↓st_call, ↓sg_call, ↓st_callv, ↓sg_callv, ↓st_store, ↓st_storef, ↓st_app, ↓st_appz, ↓st_copy, ↓st_mkmap, ↓st_mset, ↓st_mdel, ↓st_rng, ↓st_allo, ↓st_allor, ↓st_box, ↓st_boxr, ↓st_bsl, ↓st_bslr, ↓st_mksl, ↓st_mkslr, astep_some, bstep_some, ↓wp_regd, ↓wp_reg, ↓wp_skip, ↓wp_exit, ↓wp_ret, ↓wp_seq, ↓wp_block, ↓wp_cond, ↓wp_loop, cstep_true, cstep_false, rstep_true, noNxt_nil, noNxt_cons, isNx, forall_const, List.all_cons, List.all_nil, Bool.and_true, Bool.true_and, Bool.and_false, Bool.false_and, Bool.or_true, Bool.true_or, Bool.or_false, Bool.false_or, Bool.and_eq_true, sel_true, sel_false, gP_bt, gP_bf, gP_st, gP_sf, gP_und, gpure_bt, gpure_bf, gpure_st, gpure_sf, gpure_und, gpure_sft, gpure_stf, gcall_sft, gcall_stf, gpure_tf, gpure_ft, gcall_bt, gcall_bf, gcall_st, gcall_sf, gcall_und, gcall_tf, gcall_ft, gcall_tt, gcall_ff, res1, res2, res0, rc1, rc2, ar_loadn, ar_load1, ae_store, ap_iad, ap_fad, fadV_ptr, ap_len, lenV_sl, lenV_nils, ap_pick, pickV_t, pickV_f, pickV_or, pickV_ors, pickV_orn, ar_call, pickV_and, pickV_ands, ap_not, notV_bool, ap_ext, extV_0, extV_1, ap_build, fillP_nil, fillP_cons, aa_bsl1, aa_box, boxV_dot, boxV_nd, fstep_nd, fstep_dot, Option.map_some, push_put, reserve0, reserve1_get, reserve1_get', reserve1_born, reserve1_born', sto_nd, sto_nd0, lod_nd, lod_nd_dot, lod_nd_par, lod1_nd_t, lod1_nd_x, lod_dot, lod1_dot_r, lod1_dot_c, sto_push_lt, lod_reserve, lod1_reserve, sto_nd_x, sto_nd_t, lt_lowed, cstep_bool, kt_refl, kt_push, kt_lowed, lod_push_lt, lod1_push_lt, lod_lowed, lod1_lowed, lod_lowd, lod1_lowd, bin_lss, bin_leq, bin_gtr, bin_geq, bin_eql, bin_neq, bin_add, bin_sub, bin_eqb, bin_neb, bin_eqd, bin_neqd, bin_eqd0, bin_neqd0, bin_eqn, bin_neqn, List.map_cons, List.map_nil, Nat.add_zero, Nat.zero_add, Bool.not_true, Bool.not_eq_true', Bool.not_eq_false', Bool.and_eq_true, Bool.not_false, Bool.not_not, ne_eq, reduceCtorEq, not_false_eq_true, implies_true, true_and, and_true, ↓reduceIte, Nat.reduceEqDiff, Nat.reduceLT, Nat.reduceAdd, Nat.reduceMul, Nat.one_ne_zero, Nat.zero_ne_one, Nat.zero_mul, Nat.one_mul, lowed_next, lt_push, lt_push_same, same_self, same_push, same_lowed, same_lowed', decide_true, decide_false, Int.ofNat_lt, Int.ofNat_le, exists_const]
        simp [fFind, this]
theorem q_Find (cl : Bool) {v : AV} {l : List Nd} {s : St} (h : read ndC s v = some l) (hl : l.length ≤ lim) (d : Dot) : acall (conLD ndC fFind) cl [v, .agg (Dot.av d)] s = some (.int .i64 (findL l d), s) := conLD_call (fun _ _ => rfl) h hl cl d
theorem s_StEqual : SoundAt Try.prog 36 (conLL ndC ndC fSame) :=
  con_keep (tb_sound (l := [(49, conLL ndC ndC fSame)]) (by simpa using s_SEqual)) mixed Try.func36 k36 c36 fun args s r s' h => by
    obtain ⟨v, w, l, m, rfl, hr, hw, hl, hm, rfl, rfl⟩ := conLL_some h
    refine ⟨rfl, rfl, by simp [a36], fun env hlen ha => ?_⟩
    have h0 : E env 0 = _ := ha 0 _ rfl
    have h1 : E env 1 = _ := ha 1 _ rfl
    have hlen : elen env = _ := hlen
    simp only [a36] at hlen
    unfold a36
    have hq := q_SEqual false hr hw hl hm
    simp (config := {contextual := true, maxDischargeDepth := 12}) only [tb, hq, h0, h1, hlen, E_pne, E_psame, elen_put, aev_t, aev_c, aev_f, pE_none, pstep_some, estep_some, gstep_tt, gstep_ff, gstep_tf, gstep_ft, gstep_und, ↓st_nil, ↓st_mv, ↓sg_mv, ↓st_pick, ↓sg_pick, ↓st_build, ↓sg_build, ↓st_bin, ↓sg_bin, ↓st_un, ↓sg_un, ↓st_conv, ↓sg_conv, ↓st_mkfn, ↓sg_mkfn, ↓st_slc, ↓sg_slc, ↓st_slcs, ↓sg_slcs, ↓st_fad, ↓sg_fad, ↓st_fld, ↓sg_fld, ↓st_iad, ↓sg_iad, ↓st_idxs, ↓sg_idxs, ↓st_ext, ↓sg_ext, ↓st_len, ↓sg_len, ↓st_lens, ↓sg_lens, ↓st_cap, ↓sg_cap, ↓st_mm, ↓sg_mm, ↓st_nchk, ↓sg_nchk, ↓st_load1, ↓sg_load1, ↓st_loadn, ↓sg_loadn, ↓st_b2s, ↓sg_b2s, ↓st_look, ↓sg_look, ↓st_lenm, ↓sg_lenm, ↓st_ent, ↓sg_ent, ↓st_calld, ↓sg_calld, ↓st_callvd, ↓sg_callvd, ↓st_call, ↓sg_call, ↓st_callv, ↓sg_callv, ↓st_store, ↓st_storef, ↓st_app, ↓st_appz, ↓st_copy, ↓st_mkmap, ↓st_mset, ↓st_mdel, ↓st_rng, ↓st_allo, ↓st_allor, ↓st_box, ↓st_boxr, ↓st_bsl, ↓st_bslr, ↓st_mksl, ↓st_mkslr, astep_some, bstep_some, ↓wp_regd, ↓wp_reg, ↓wp_skip, ↓wp_exit, ↓wp_ret, ↓wp_seq, ↓wp_block, ↓wp_cond, ↓wp_loop, cstep_true, cstep_false, rstep_true, noNxt_nil, noNxt_cons, isNx, forall_const, List.all_cons, List.all_nil, Bool.and_true, Bool.true_and, Bool.and_false, Bool.false_and, Bool.or_true, Bool.true_or, Bool.or_false, Bool.false_or, Bool.and_eq_true, sel_true, sel_false, gP_bt, gP_bf, gP_st, gP_sf, gP_und, gpure_bt, gpure_bf, gpure_st, gpure_sf, gpure_und, gpure_sft, gpure_stf, gcall_sft, gcall_stf, gpure_tf, gpure_ft, gcall_bt, gcall_bf, gcall_st, gcall_sf, gcall_und, gcall_tf, gcall_ft, gcall_tt, gcall_ff, res1, res2, res0, rc1, rc2, ar_loadn, ar_load1, ae_store, ap_iad, ap_fad, fadV_ptr, ap_len, lenV_sl, lenV_nils, ap_pick, pickV_t, pickV_f, pickV_or, pickV_ors, pickV_orn, ar_call, pickV_and, pickV_ands, ap_not, notV_bool, ap_ext, extV_0, extV_1, ap_build, fillP_nil, fillP_cons, aa_bsl1, aa_box, boxV_dot, boxV_nd, fstep_nd, fstep_dot, Option.map_some, push_put, reserve0, reserve1_get, reserve1_get', reserve1_born, reserve1_born', sto_nd, sto_nd0, lod_nd, lod_nd_dot, lod_nd_par, lod1_nd_t, lod1_nd_x, lod_dot, lod1_dot_r, lod1_dot_c, sto_push_lt, lod_reserve, lod1_reserve, sto_nd_x, sto_nd_t, lt_lowed, cstep_bool, kt_refl, kt_push, kt_lowed, lod_push_lt, lod1_push_lt, lod_lowed, lod1_lowed, lod_lowd, lod1_lowd, bin_lss, bin_leq, bin_gtr, bin_geq, bin_eql, bin_neq, bin_add, bin_sub, bin_eqb, bin_neb, bin_eqd, bin_neqd, bin_eqd0, bin_neqd0, bin_eqn, bin_neqn, List.map_cons, List.map_nil, Nat.add_zero, Nat.zero_add, Bool.not_true, Bool.not_eq_true', Bool.not_eq_false', Bool.and_eq_true, Bool.not_false, Bool.not_not, ne_eq, reduceCtorEq, not_false_eq_true, implies_true, true_and, and_true, ↓reduceIte, Nat.reduceEqDiff, Nat.reduceLT, Nat.reduceAdd, Nat.reduceMul, Nat.one_ne_zero, Nat.zero_ne_one, Nat.zero_mul, Nat.one_mul, lowed_next, lt_push, lt_push_same, same_self, same_push, same_lowed, same_lowed', decide_true, decide_false, Int.ofNat_lt, Int.ofNat_le, exists_const]
    rfl
theorem q_StEqual (cl : Bool) {v w : AV} {l m : List Nd} {s : St} (h : read ndC s v = some l) (k : read ndC s w = some m) (hl : l.length ≤ lim) (hm : m.length ≤ lim) : acall (conLL ndC ndC fSame) cl [v, w] s = some (.bool (decide (l = m)), s) := conLL_call (fun _ _ => rfl) h k hl hm cl
theorem s_JEqual : SoundAt Try.prog 25 (conLL ndC ndC fSame) :=
  con_keep (tb_sound (l := [(36, conLL ndC ndC fSame)]) (by simpa using s_StEqual)) mixed Try.func25 k25 c25 fun args s r s' h => by
    obtain ⟨v, w, l, m, rfl, hr, hw, hl, hm, rfl, rfl⟩ := conLL_some h
    refine ⟨rfl, rfl, by simp [a25], fun env hlen ha => ?_⟩
    have h0 : E env 0 = _ := ha 0 _ rfl
    have h1 : E env 1 = _ := ha 1 _ rfl
    have hlen : elen env = _ := hlen
    simp only [a25] at hlen
    unfold a25
    have hq := q_StEqual false hr hw hl hm
    simp (config := {contextual := true, maxDischargeDepth := 12}) only [tb, hq, h0, h1, hlen, E_pne, E_psame, elen_put, aev_t, aev_c, aev_f, pE_none, pstep_some, estep_some, gstep_tt, gstep_ff, gstep_tf, gstep_ft, gstep_und, ↓st_nil, ↓st_mv, ↓sg_mv, ↓st_pick, ↓sg_pick, ↓st_build, ↓sg_build, ↓st_bin, ↓sg_bin, ↓st_un, ↓sg_un, ↓st_conv, ↓sg_conv, ↓st_mkfn, ↓sg_mkfn, ↓st_slc, ↓sg_slc, ↓st_slcs, ↓sg_slcs, ↓st_fad, ↓sg_fad, ↓st_fld, ↓sg_fld, ↓st_iad, ↓sg_iad, ↓st_idxs, ↓sg_idxs, ↓st_ext, ↓sg_ext, ↓st_len, ↓sg_len, ↓st_lens, ↓sg_lens, ↓st_cap, ↓sg_cap, ↓st_mm, ↓sg_mm, ↓st_nchk, ↓sg_nchk, ↓st_load1, ↓sg_load1, ↓st_loadn, ↓sg_loadn, ↓st_b2s, ↓sg_b2s, ↓st_look, ↓sg_look, ↓st_lenm, ↓sg_lenm, ↓st_ent, ↓sg_ent, ↓st_calld, ↓sg_calld, ↓st_callvd, ↓sg_callvd, ↓st_call, ↓sg_call, ↓st_callv, ↓sg_callv, ↓st_store, ↓st_storef, ↓st_app, ↓st_appz, ↓st_copy, ↓st_mkmap, ↓st_mset, ↓st_mdel, ↓st_rng, ↓st_allo, ↓st_allor, ↓st_box, ↓st_boxr, ↓st_bsl, ↓st_bslr, ↓st_mksl, ↓st_mkslr, astep_some, bstep_some, ↓wp_regd, ↓wp_reg, ↓wp_skip, ↓wp_exit, ↓wp_ret, ↓wp_seq, ↓wp_block, ↓wp_cond, ↓wp_loop, cstep_true, cstep_false, rstep_true, noNxt_nil, noNxt_cons, isNx, forall_const, List.all_cons, List.all_nil, Bool.and_true, Bool.true_and, Bool.and_false, Bool.false_and, Bool.or_true, Bool.true_or, Bool.or_false, Bool.false_or, Bool.and_eq_true, sel_true, sel_false, gP_bt, gP_bf, gP_st, gP_sf, gP_und, gpure_bt, gpure_bf, gpure_st, gpure_sf, gpure_und, gpure_sft, gpure_stf, gcall_sft, gcall_stf, gpure_tf, gpure_ft, gcall_bt, gcall_bf, gcall_st, gcall_sf, gcall_und, gcall_tf, gcall_ft, gcall_tt, gcall_ff, res1, res2, res0, rc1, rc2, ar_loadn, ar_load1, ae_store, ap_iad, ap_fad, fadV_ptr, ap_len, lenV_sl, lenV_nils, ap_pick, pickV_t, pickV_f, pickV_or, pickV_ors, pickV_orn, ar_call, pickV_and, pickV_ands, ap_not, notV_bool, ap_ext, extV_0, extV_1, ap_build, fillP_nil, fillP_cons, aa_bsl1, aa_box, boxV_dot, boxV_nd, fstep_nd, fstep_dot, Option.map_some, push_put, reserve0, reserve1_get, reserve1_get', reserve1_born, reserve1_born', sto_nd, sto_nd0, lod_nd, lod_nd_dot, lod_nd_par, lod1_nd_t, lod1_nd_x, lod_dot, lod1_dot_r, lod1_dot_c, sto_push_lt, lod_reserve, lod1_reserve, sto_nd_x, sto_nd_t, lt_lowed, cstep_bool, kt_refl, kt_push, kt_lowed, lod_push_lt, lod1_push_lt, lod_lowed, lod1_lowed, lod_lowd, lod1_lowd, bin_lss, bin_leq, bin_gtr, bin_geq, bin_eql, bin_neq, bin_add, bin_sub, bin_eqb, bin_neb, bin_eqd, bin_neqd, bin_eqd0, bin_neqd0, bin_eqn, bin_neqn, List.map_cons, List.map_nil, Nat.add_zero, Nat.zero_add, Bool.not_true, Bool.not_eq_true', Bool.not_eq_false', Bool.and_eq_true, Bool.not_false, Bool.not_not, ne_eq, reduceCtorEq, not_false_eq_true, implies_true, true_and, and_true, ↓reduceIte, Nat.reduceEqDiff, Nat.reduceLT, Nat.reduceAdd, Nat.reduceMul, Nat.one_ne_zero, Nat.zero_ne_one, Nat.zero_mul, Nat.one_mul, lowed_next, lt_push, lt_push_same, same_self, same_push, same_lowed, same_lowed', decide_true, decide_false, Int.ofNat_lt, Int.ofNat_le, exists_const]
    rfl
theorem q_JEqual (cl : Bool) {v w : AV} {l m : List Nd} {s : St} (h : read ndC s v = some l) (k : read ndC s w = some m) (hl : l.length ≤ lim) (hm : m.length ≤ lim) : acall (conLL ndC ndC fSame) cl [v, w] s = some (.bool (decide (l = m)), s) := conLL_call (fun _ _ => rfl) h k hl hm cl

/-! ### IndexFunc and ContainsFunc -/
def conLfn (f : List Nd → AV) (g : Nat) : Con := fun xs s => match xs with
  | [v, .fn g' []] => if g' = g then match read ndC s v with
    | some l => if l.length ≤ lim then some (f l, s.lowed) else none
    | none => none
    else none
  | _ => none
theorem conLfn_some {f : List Nd → AV} {g : Nat} {xs : List AV} {s : St} {r : AV} {s' : St} (h : conLfn f g xs s = some (r, s')) : ∃ v l, xs = [v, .fn g []] ∧ read ndC s v = some l ∧ l.length ≤ lim ∧ r = f l ∧ s' = s.lowed := by
  unfold conLfn at h
  split at h
  · split at h
    · rename_i e
      subst e
      split at h
      · split at h
        · rename_i v _ _ l hr hl
          injection h with h
          obtain ⟨rfl, rfl⟩ := Prod.mk.inj h
          exact ⟨v, l, rfl, hr, hl, rfl, rfl⟩
        · cases h
      · cases h
    · cases h
  · cases h
theorem conLfn_call {f : List Nd → AV} (hf : ∀ l, (f l).ground = true) {g : Nat} {s : St} {v : AV} {l : List Nd} (h : read ndC s v = some l) (hl : l.length ≤ lim) (cl : Bool) : acall (conLfn f g) cl [v, .fn g []] s = some (f l, s) :=
  acall_rol (by simp only [conLfn, read_low, h, hl, if_true]) (hf l)
/-- The first node that is not valid, or -1. -/
def badL : List Nd → Int
  | [] => -1
  | x :: r => if x.valid = false then 0 else if badL r < 0 then -1 else badL r + 1
theorem badL_hit : ∀ (l : List Nd) (i : Nat) (x : Nd), l[i]? = some x → x.valid = false → (∀ k y, k < i → l[k]? = some y → y.valid = true) → badL l = i
  | [], i, x, h, _, _ => by simp at h
  | y :: r, 0, x, h, hd, _ => by simp at h; subst h; simp [badL, hd]
  | y :: r, i + 1, x, h, hd, hp => by
    have h1 := hp 0 y (by omega) (by simp)
    have h2 := badL_hit r i x (by simpa using h) hd fun k z hk hz => hp (k + 1) z (by omega) (by simpa using hz)
    simp only [badL, h2, h1]
    rw [if_neg (by simp), if_neg (by omega)]
    omega
theorem badL_miss : ∀ (l : List Nd), (∀ x ∈ l, x.valid = true) → badL l = -1
  | [], _ => rfl
  | y :: r, h => by
    simp [badL, h y (by simp), badL_miss r fun x hx => h x (by simp [hx])]
theorem badL_all (l : List Nd) : (0 ≤ badL l) = (l.all Nd.valid = false) := by
  induction l with
  | nil => simp [badL]
  | cons x r ih =>
    simp only [badL, List.all_cons]
    cases hx : x.valid
    · simp
    · simp only [Bool.true_and, Bool.true_eq_false, if_false]
      rw [← ih]
      split <;> simp <;> omega
def fBad (l : List Nd) : AV := .int .i64 (badL l)
def fHasBad (l : List Nd) : AV := .bool (!l.all Nd.valid)
theorem s_IndexBad : SoundAt Try.prog 56 (conLfn fBad 46) :=
  con_keep (tb_sound (l := [(46, conN fInvalid)]) (by simpa using s_Invalid)) mixed Try.func56 k56 c56 fun args s r s' h => by
    obtain ⟨v, l, rfl, hr, hl, rfl, rfl⟩ := conLfn_some h
    refine ⟨rfl, rfl, by simp [a56], fun env hlen ha => ?_⟩
    have h0 : E env 0 = _ := ha 0 _ rfl
    have h1 : E env 1 = _ := ha 1 _ rfl
    have hlen : elen env = _ := hlen
    simp only [a56] at hlen
    unfold a56
    have hL := lenV_read hr
    simp (config := {contextual := true, maxDischargeDepth := 12}) only [tb, q_Invalid, h0, h1, hlen, hL, E_pne, E_psame, elen_put, aev_t, aev_c, aev_f, pE_none, pstep_some, estep_some, gstep_tt, gstep_ff, gstep_tf, gstep_ft, gstep_und, ↓st_nil, ↓st_mv, ↓sg_mv, ↓st_pick, ↓sg_pick, ↓st_build, ↓sg_build, ↓st_bin, ↓sg_bin, ↓st_un, ↓sg_un, ↓st_conv, ↓sg_conv, ↓st_mkfn, ↓sg_mkfn, ↓st_slc, ↓sg_slc, ↓st_slcs, ↓sg_slcs, ↓st_fad, ↓sg_fad, ↓st_fld, ↓sg_fld, ↓st_iad, ↓sg_iad, ↓st_idxs, ↓sg_idxs, ↓st_ext, ↓sg_ext, ↓st_len, ↓sg_len, ↓st_lens, ↓sg_lens, ↓st_cap, ↓sg_cap, ↓st_mm, ↓sg_mm, ↓st_nchk, ↓sg_nchk, ↓st_load1, ↓sg_load1, ↓st_loadn, ↓sg_loadn, ↓st_b2s, ↓sg_b2s, ↓st_look, ↓sg_look, ↓st_lenm, ↓sg_lenm, ↓st_ent, ↓sg_ent, ↓st_calld, ↓sg_calld, ↓st_callvd, ↓sg_callvd, ↓st_call, ↓sg_call, ↓st_callv, ↓sg_callv, ↓st_store, ↓st_storef, ↓st_app, ↓st_appz, ↓st_copy, ↓st_mkmap, ↓st_mset, ↓st_mdel, ↓st_rng, ↓st_allo, ↓st_allor, ↓st_box, ↓st_boxr, ↓st_bsl, ↓st_bslr, ↓st_mksl, ↓st_mkslr, astep_some, bstep_some, ↓wp_regd, ↓wp_reg, ↓wp_skip, ↓wp_exit, ↓wp_ret, ↓wp_seq, ↓wp_block, ↓wp_cond, ↓wp_loop, cstep_true, cstep_false, rstep_true, noNxt_nil, noNxt_cons, isNx, forall_const, List.all_cons, List.all_nil, Bool.and_true, Bool.true_and, Bool.and_false, Bool.false_and, Bool.or_true, Bool.true_or, Bool.or_false, Bool.false_or, Bool.and_eq_true, sel_true, sel_false, gP_bt, gP_bf, gP_st, gP_sf, gP_und, gpure_bt, gpure_bf, gpure_st, gpure_sf, gpure_und, gpure_sft, gpure_stf, gcall_sft, gcall_stf, gpure_tf, gpure_ft, gcall_bt, gcall_bf, gcall_st, gcall_sf, gcall_und, gcall_tf, gcall_ft, gcall_tt, gcall_ff, res1, res2, res0, rc1, rc2, ar_loadn, ar_load1, ae_store, ap_iad, ap_fad, fadV_ptr, ap_len, lenV_sl, lenV_nils, ap_pick, pickV_t, pickV_f, pickV_or, pickV_ors, pickV_orn, ar_call, pickV_and, pickV_ands, ap_not, notV_bool, ap_ext, extV_0, extV_1, ap_build, fillP_nil, fillP_cons, aa_bsl1, aa_box, boxV_dot, boxV_nd, fstep_nd, fstep_dot, Option.map_some, push_put, reserve0, reserve1_get, reserve1_get', reserve1_born, reserve1_born', sto_nd, sto_nd0, lod_nd, lod_nd_dot, lod_nd_par, lod1_nd_t, lod1_nd_x, lod_dot, lod1_dot_r, lod1_dot_c, sto_push_lt, lod_reserve, lod1_reserve, sto_nd_x, sto_nd_t, lt_lowed, cstep_bool, kt_refl, kt_push, kt_lowed, lod_push_lt, lod1_push_lt, lod_lowed, lod1_lowed, lod_lowd, lod1_lowd, bin_lss, bin_leq, bin_gtr, bin_geq, bin_eql, bin_neq, bin_add, bin_sub, bin_eqb, bin_neb, bin_eqd, bin_neqd, bin_eqd0, bin_neqd0, bin_eqn, bin_neqn, List.map_cons, List.map_nil, Nat.add_zero, Nat.zero_add, Bool.not_true, Bool.not_eq_true', Bool.not_eq_false', Bool.and_eq_true, Bool.not_false, Bool.not_not, ne_eq, reduceCtorEq, not_false_eq_true, implies_true, true_and, and_true, ↓reduceIte, Nat.reduceEqDiff, Nat.reduceLT, Nat.reduceAdd, Nat.reduceMul, Nat.one_ne_zero, Nat.zero_ne_one, Nat.zero_mul, Nat.one_mul, lowed_next, lt_push, lt_push_same, same_self, same_push, same_lowed, same_lowed', decide_true, decide_false, Int.ofNat_lt, Int.ofNat_le, exists_const]
    refine lwp_inv (fun n e t => t = s ∧ ∃ i : Nat, n + i = l.length ∧ elen e = 19 ∧ E e 0 = v ∧ E e 1 = .fn 46 [] ∧ E e 7 = .int .i64 (l.length : Int) ∧ E e 8 = .int .i64 (i : Int) ∧ ∀ k y, k < i → l[k]? = some y → y.valid = true) (n := l.length) ⟨rfl, 0, by omega, by simp only [E_pne, E_psame, elen_put, Nat.reduceEqDiff, ne_eq, not_false_eq_true, Nat.reduceLT, hlen], by simp only [E_pne, E_psame, elen_put, Nat.reduceEqDiff, ne_eq, not_false_eq_true, Nat.reduceLT, h0], by simp only [E_pne, E_psame, elen_put, Nat.reduceEqDiff, ne_eq, not_false_eq_true, Nat.reduceLT, h1], by simp only [E_pne, E_psame, elen_put, Nat.reduceEqDiff, ne_eq, not_false_eq_true, Nat.reduceLT, hlen], by simp only [E_pne, E_psame, elen_put, Nat.reduceEqDiff, ne_eq, not_false_eq_true, Nat.reduceLT, hlen]; rfl, fun k y hk => by omega⟩ ?_
    · rintro n e t ⟨rfl, i, hn, he, e0, e1, e7, e8, hpre⟩
      by_cases hlt : i < l.length
      · obtain ⟨x, hx⟩ := getsome hlt
        have hw2 := wrap_add1 (n := i) (by unfold lim at hl; omega)
        obtain ⟨a1, _⟩ := nd_lods hr (.refl _) hx
        have i1 := nd_idx hr hx .i64
        simp (config := {contextual := true, maxDischargeDepth := 12}) only [tb, q_Invalid, ae_callv, List.append_nil, e0, e1, e7, e8, he, hL, hlt, hw2, a1, i1, E_pne, E_psame, elen_put, aev_t, aev_c, aev_f, pE_none, pstep_some, estep_some, gstep_tt, gstep_ff, gstep_tf, gstep_ft, gstep_und, ↓st_nil, ↓st_mv, ↓sg_mv, ↓st_pick, ↓sg_pick, ↓st_build, ↓sg_build, ↓st_bin, ↓sg_bin, ↓st_un, ↓sg_un, ↓st_conv, ↓sg_conv, ↓st_mkfn, ↓sg_mkfn, ↓st_slc, ↓sg_slc, ↓st_slcs, ↓sg_slcs, ↓st_fad, ↓sg_fad, ↓st_fld, ↓sg_fld, ↓st_iad, ↓sg_iad, ↓st_idxs, ↓sg_idxs, ↓st_ext, ↓sg_ext, ↓st_len, ↓sg_len, ↓st_lens, ↓sg_lens, ↓st_cap, ↓sg_cap, ↓st_mm, ↓sg_mm, ↓st_nchk, ↓sg_nchk, ↓st_load1, ↓sg_load1, ↓st_loadn, ↓sg_loadn, ↓st_b2s, ↓sg_b2s, ↓st_look, ↓sg_look, ↓st_lenm, ↓sg_lenm, ↓st_ent, ↓sg_ent, ↓st_calld, ↓sg_calld, ↓st_callvd, ↓sg_callvd, ↓st_call, ↓sg_call, ↓st_callv, ↓sg_callv, ↓st_store, ↓st_storef, ↓st_app, ↓st_appz, ↓st_copy, ↓st_mkmap, ↓st_mset, ↓st_mdel, ↓st_rng, ↓st_allo, ↓st_allor, ↓st_box, ↓st_boxr, ↓st_bsl, ↓st_bslr, ↓st_mksl, ↓st_mkslr, astep_some, bstep_some, ↓wp_regd, ↓wp_reg, ↓wp_skip, ↓wp_exit, ↓wp_ret, ↓wp_seq, ↓wp_block, ↓wp_cond, ↓wp_loop, cstep_true, cstep_false, rstep_true, noNxt_nil, noNxt_cons, isNx, forall_const, List.all_cons, List.all_nil, Bool.and_true, Bool.true_and, Bool.and_false, Bool.false_and, Bool.or_true, Bool.true_or, Bool.or_false, Bool.false_or, Bool.and_eq_true, sel_true, sel_false, gP_bt, gP_bf, gP_st, gP_sf, gP_und, gpure_bt, gpure_bf, gpure_st, gpure_sf, gpure_und, gpure_sft, gpure_stf, gcall_sft, gcall_stf, gpure_tf, gpure_ft, gcall_bt, gcall_bf, gcall_st, gcall_sf, gcall_und, gcall_tf, gcall_ft, gcall_tt, gcall_ff, res1, res2, res0, rc1, rc2, ar_loadn, ar_load1, ae_store, ap_iad, ap_fad, fadV_ptr, ap_len, lenV_sl, lenV_nils, ap_pick, pickV_t, pickV_f, pickV_or, pickV_ors, pickV_orn, ar_call, pickV_and, pickV_ands, ap_not, notV_bool, ap_ext, extV_0, extV_1, ap_build, fillP_nil, fillP_cons, aa_bsl1, aa_box, boxV_dot, boxV_nd, fstep_nd, fstep_dot, Option.map_some, push_put, reserve0, reserve1_get, reserve1_get', reserve1_born, reserve1_born', sto_nd, sto_nd0, lod_nd, lod_nd_dot, lod_nd_par, lod1_nd_t, lod1_nd_x, lod_dot, lod1_dot_r, lod1_dot_c, sto_push_lt, lod_reserve, lod1_reserve, sto_nd_x, sto_nd_t, lt_lowed, cstep_bool, kt_refl, kt_push, kt_lowed, lod_push_lt, lod1_push_lt, lod_lowed, lod1_lowed, lod_lowd, lod1_lowd, bin_lss, bin_leq, bin_gtr, bin_geq, bin_eql, bin_neq, bin_add, bin_sub, bin_eqb, bin_neb, bin_eqd, bin_neqd, bin_eqd0, bin_neqd0, bin_eqn, bin_neqn, List.map_cons, List.map_nil, Nat.add_zero, Nat.zero_add, Bool.not_true, Bool.not_eq_true', Bool.not_eq_false', Bool.and_eq_true, Bool.not_false, Bool.not_not, ne_eq, reduceCtorEq, not_false_eq_true, implies_true, true_and, and_true, ↓reduceIte, Nat.reduceEqDiff, Nat.reduceLT, Nat.reduceAdd, Nat.reduceMul, Nat.one_ne_zero, Nat.zero_ne_one, Nat.zero_mul, Nat.one_mul, lowed_next, lt_push, lt_push_same, same_self, same_push, same_lowed, same_lowed', decide_true, decide_false, Int.ofNat_lt, Int.ofNat_le, exists_const]
        refine ⟨⟨fun hb => ?_, fun hb => ⟨n - 1, by omega, i + 1, by omega, rfl, ?_⟩⟩, fun hf => hf.elim⟩
        · simp only [fBad, badL_hit l i x hx hb hpre]
        · intro k' y' hk' hy'
          by_cases e' : k' = i
          · subst e'
            rw [hx] at hy'; cases hy'
            exact hb
          · exact hpre k' y' (by omega) hy'
      · have : badL l = -1 := badL_miss l fun x hx => by
          obtain ⟨k, hk⟩ := List.getElem?_of_mem hx
          exact hpre k x (by have := getlt hk; omega) hk
        simp (config := {contextual := true, maxDischargeDepth := 12}) only [tb, e0, e1, e7, e8, he, hL, hlt, E_pne, E_psame, elen_put, aev_t, aev_c, aev_f, pE_none, pstep_some, estep_some, gstep_tt, gstep_ff, gstep_tf, gstep_ft, gstep_und, ↓st_nil, ↓st_mv, ↓sg_mv, ↓st_pick, ↓sg_pick, ↓st_build, ↓sg_build, ↓st_bin, ↓sg_bin, ↓st_un, ↓sg_un, ↓st_conv, ↓sg_conv, ↓st_mkfn, ↓sg_mkfn, ↓st_slc, ↓sg_slc, ↓st_slcs, ↓sg_slcs, ↓st_fad, ↓sg_fad, ↓st_fld, ↓sg_fld, ↓st_iad, ↓sg_iad, ↓st_idxs, ↓sg_idxs, ↓st_ext, ↓sg_ext, ↓st_len, ↓sg_len, ↓st_lens, ↓sg_lens, ↓st_cap, ↓sg_cap, ↓st_mm, ↓sg_mm, ↓st_nchk, ↓sg_nchk, ↓st_load1, ↓sg_load1, ↓st_loadn, ↓sg_loadn, ↓st_b2s, ↓sg_b2s, ↓st_look, ↓sg_look, ↓st_lenm, ↓sg_lenm, ↓st_ent, ↓sg_ent, ↓st_calld, ↓sg_calld, ↓st_callvd, ↓sg_callvd, ↓st_call, ↓sg_call, ↓st_callv, ↓sg_callv, ↓st_store, ↓st_storef, ↓st_app, ↓st_appz, ↓st_copy, ↓st_mkmap, ↓st_mset, ↓st_mdel, ↓st_rng, ↓st_allo, ↓st_allor, ↓st_box, ↓st_boxr, ↓st_bsl, ↓st_bslr, ↓st_mksl, ↓st_mkslr, astep_some, bstep_some, ↓wp_regd, ↓wp_reg, ↓wp_skip, ↓wp_exit, ↓wp_ret, ↓wp_seq, ↓wp_block, ↓wp_cond, ↓wp_loop, cstep_true, cstep_false, rstep_true, noNxt_nil, noNxt_cons, isNx, forall_const, List.all_cons, List.all_nil, Bool.and_true, Bool.true_and, Bool.and_false, Bool.false_and, Bool.or_true, Bool.true_or, Bool.or_false, Bool.false_or, Bool.and_eq_true, sel_true, sel_false, gP_bt, gP_bf, gP_st, gP_sf, gP_und, gpure_bt, gpure_bf, gpure_st, gpure_sf, gpure_und, gpure_sft, gpure_stf, gcall_sft, gcall_stf, gpure_tf, gpure_ft, gcall_bt, gcall_bf, gcall_st, gcall_sf, gcall_und, gcall_tf, gcall_ft, gcall_tt, gcall_ff, res1, res2, res0, rc1, rc2, ar_loadn, ar_load1, ae_store, ap_iad, ap_fad, fadV_ptr, ap_len, lenV_sl, lenV_nils, ap_pick, pickV_t, pickV_f, pickV_or, pickV_ors, pickV_orn, ar_call, pickV_and, pickV_ands, ap_not, notV_bool, ap_ext, extV_0, extV_1, ap_build, fillP_nil, fillP_cons, aa_bsl1, aa_box, boxV_dot, boxV_nd, fstep_nd, fstep_dot, Option.map_some, push_put, reserve0, reserve1_get, reserve1_get', reserve1_born, reserve1_born', sto_nd, sto_nd0, lod_nd, lod_nd_dot, lod_nd_par, lod1_nd_t, lod1_nd_x, lod_dot, lod1_dot_r, lod1_dot_c, sto_push_lt, lod_reserve, lod1_reserve, sto_nd_x, sto_nd_t, lt_lowed, cstep_bool, kt_refl, kt_push, kt_lowed, lod_push_lt, lod1_push_lt, lod_lowed, lod1_lowed, lod_lowd, lod1_lowd, bin_lss, bin_leq, bin_gtr, bin_geq, bin_eql, bin_neq, bin_add, bin_sub, bin_eqb, bin_neb, bin_eqd, bin_neqd, bin_eqd0, bin_neqd0, bin_eqn, bin_neqn, List.map_cons, List.map_nil, Nat.add_zero, Nat.zero_add, Bool.not_true, Bool.not_eq_true', Bool.not_eq_false', Bool.and_eq_true, Bool.not_false, Bool.not_not, ne_eq, reduceCtorEq, not_false_eq_true, implies_true, true_and, and_true, ↓reduceIte, Nat.reduceEqDiff, Nat.reduceLT, Nat.reduceAdd, Nat.reduceMul, Nat.one_ne_zero, Nat.zero_ne_one, Nat.zero_mul, Nat.one_mul, lowed_next, lt_push, lt_push_same, same_self, same_push, same_lowed, same_lowed', decide_true, decide_false, Int.ofNat_lt, Int.ofNat_le, exists_const]
        simp [fBad, this]
theorem q_IndexBad (cl : Bool) {v : AV} {l : List Nd} {s : St} (h : read ndC s v = some l) (hl : l.length ≤ lim) : acall (conLfn fBad 46) cl [v, .fn 46 []] s = some (.int .i64 (badL l), s) := conLfn_call (fun _ => rfl) h hl cl
theorem s_HasBad : SoundAt Try.prog 45 (conLfn fHasBad 46) :=
  con_keep (tb_sound (l := [(56, conLfn fBad 46)]) (by simpa using s_IndexBad)) mixed Try.func45 k45 c45 fun args s r s' h => by
    obtain ⟨v, l, rfl, hr, hl, rfl, rfl⟩ := conLfn_some h
    refine ⟨rfl, rfl, by simp [a45], fun env hlen ha => ?_⟩
    have h0 : E env 0 = _ := ha 0 _ rfl
    have h1 : E env 1 = _ := ha 1 _ rfl
    have hlen : elen env = _ := hlen
    simp only [a45] at hlen
    unfold a45
    have hq := q_IndexBad false hr hl
    simp (config := {contextual := true, maxDischargeDepth := 12}) only [tb, hq, h0, h1, hlen, E_pne, E_psame, elen_put, aev_t, aev_c, aev_f, pE_none, pstep_some, estep_some, gstep_tt, gstep_ff, gstep_tf, gstep_ft, gstep_und, ↓st_nil, ↓st_mv, ↓sg_mv, ↓st_pick, ↓sg_pick, ↓st_build, ↓sg_build, ↓st_bin, ↓sg_bin, ↓st_un, ↓sg_un, ↓st_conv, ↓sg_conv, ↓st_mkfn, ↓sg_mkfn, ↓st_slc, ↓sg_slc, ↓st_slcs, ↓sg_slcs, ↓st_fad, ↓sg_fad, ↓st_fld, ↓sg_fld, ↓st_iad, ↓sg_iad, ↓st_idxs, ↓sg_idxs, ↓st_ext, ↓sg_ext, ↓st_len, ↓sg_len, ↓st_lens, ↓sg_lens, ↓st_cap, ↓sg_cap, ↓st_mm, ↓sg_mm, ↓st_nchk, ↓sg_nchk, ↓st_load1, ↓sg_load1, ↓st_loadn, ↓sg_loadn, ↓st_b2s, ↓sg_b2s, ↓st_look, ↓sg_look, ↓st_lenm, ↓sg_lenm, ↓st_ent, ↓sg_ent, ↓st_calld, ↓sg_calld, ↓st_callvd, ↓sg_callvd, ↓st_call, ↓sg_call, ↓st_callv, ↓sg_callv, ↓st_store, ↓st_storef, ↓st_app, ↓st_appz, ↓st_copy, ↓st_mkmap, ↓st_mset, ↓st_mdel, ↓st_rng, ↓st_allo, ↓st_allor, ↓st_box, ↓st_boxr, ↓st_bsl, ↓st_bslr, ↓st_mksl, ↓st_mkslr, astep_some, bstep_some, ↓wp_regd, ↓wp_reg, ↓wp_skip, ↓wp_exit, ↓wp_ret, ↓wp_seq, ↓wp_block, ↓wp_cond, ↓wp_loop, cstep_true, cstep_false, rstep_true, noNxt_nil, noNxt_cons, isNx, forall_const, List.all_cons, List.all_nil, Bool.and_true, Bool.true_and, Bool.and_false, Bool.false_and, Bool.or_true, Bool.true_or, Bool.or_false, Bool.false_or, Bool.and_eq_true, sel_true, sel_false, gP_bt, gP_bf, gP_st, gP_sf, gP_und, gpure_bt, gpure_bf, gpure_st, gpure_sf, gpure_und, gpure_sft, gpure_stf, gcall_sft, gcall_stf, gpure_tf, gpure_ft, gcall_bt, gcall_bf, gcall_st, gcall_sf, gcall_und, gcall_tf, gcall_ft, gcall_tt, gcall_ff, res1, res2, res0, rc1, rc2, ar_loadn, ar_load1, ae_store, ap_iad, ap_fad, fadV_ptr, ap_len, lenV_sl, lenV_nils, ap_pick, pickV_t, pickV_f, pickV_or, pickV_ors, pickV_orn, ar_call, pickV_and, pickV_ands, ap_not, notV_bool, ap_ext, extV_0, extV_1, ap_build, fillP_nil, fillP_cons, aa_bsl1, aa_box, boxV_dot, boxV_nd, fstep_nd, fstep_dot, Option.map_some, push_put, reserve0, reserve1_get, reserve1_get', reserve1_born, reserve1_born', sto_nd, sto_nd0, lod_nd, lod_nd_dot, lod_nd_par, lod1_nd_t, lod1_nd_x, lod_dot, lod1_dot_r, lod1_dot_c, sto_push_lt, lod_reserve, lod1_reserve, sto_nd_x, sto_nd_t, lt_lowed, cstep_bool, kt_refl, kt_push, kt_lowed, lod_push_lt, lod1_push_lt, lod_lowed, lod1_lowed, lod_lowd, lod1_lowd, bin_lss, bin_leq, bin_gtr, bin_geq, bin_eql, bin_neq, bin_add, bin_sub, bin_eqb, bin_neb, bin_eqd, bin_neqd, bin_eqd0, bin_neqd0, bin_eqn, bin_neqn, List.map_cons, List.map_nil, Nat.add_zero, Nat.zero_add, Bool.not_true, Bool.not_eq_true', Bool.not_eq_false', Bool.and_eq_true, Bool.not_false, Bool.not_not, ne_eq, reduceCtorEq, not_false_eq_true, implies_true, true_and, and_true, ↓reduceIte, Nat.reduceEqDiff, Nat.reduceLT, Nat.reduceAdd, Nat.reduceMul, Nat.one_ne_zero, Nat.zero_ne_one, Nat.zero_mul, Nat.one_mul, lowed_next, lt_push, lt_push_same, same_self, same_push, same_lowed, same_lowed', decide_true, decide_false, Int.ofNat_lt, Int.ofNat_le, exists_const]
    simp only [badL_all, fHasBad]
    cases l.all Nd.valid <;> rfl
theorem q_HasBad (cl : Bool) {v : AV} {l : List Nd} {s : St} (h : read ndC s v = some l) (hl : l.length ≤ lim) : acall (conLfn fHasBad 46) cl [v, .fn 46 []] s = some (.bool (!l.all Nd.valid), s) := conLfn_call (fun _ => rfl) h hl cl

end Go.AM
