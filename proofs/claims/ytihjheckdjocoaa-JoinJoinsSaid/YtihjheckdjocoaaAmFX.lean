/-
  The reference's put and Join. Own work of this project; in part printed by a program of it.
-/
import Derived.Test.YtihjheckdjocoaaAmFW
set_option linter.unusedVariables false
set_option linter.unusedSimpArgs false
set_option maxRecDepth 100000
set_option maxHeartbeats 8000000
namespace Go.AM
open Go Go.Proofs

/-- Where a node goes: behind all that come before it, from the start on. -/
def posL (x : Nd) : List Nd → Nat
  | [] => 0
  | y :: r => if y.d.before x.d = true then posL x r + 1 else 0
def putL (l : List Nd) (x : Nd) : List Nd := l.take (posL x l) ++ x :: l.drop (posL x l)
theorem posL_le (x : Nd) : ∀ l, posL x l ≤ l.length
  | [] => Nat.le_refl _
  | y :: r => by
    have := posL_le x r
    simp only [posL]
    split <;> simp <;> omega
theorem posL_eq (x : Nd) : ∀ (l : List Nd) (i : Nat), i ≤ l.length → (∀ k y, k < i → l[k]? = some y → y.d.before x.d = true) → (∀ y, l[i]? = some y → y.d.before x.d = false) → posL x l = i
  | [], i, h, _, _ => by simp at h; subst h; rfl
  | y :: r, 0, _, _, h => by
    have := h y rfl
    simp [posL, this]
  | y :: r, i + 1, hi, hp, hs => by
    have h1 := hp 0 y (by omega) rfl
    have := posL_eq x r i (by simpa using hi) (fun k z hk hz => hp (k + 1) z (by omega) (by simpa using hz)) fun z hz => hs z (by simpa using hz)
    simp [posL, h1, this]
/-- Appending to a slice of one element without room. -/
theorem app_cap1 {s t : St} {x : Nd} {v : AV} {m : List Nd} (hK : Keep s t) (hr : read ndC t v = some m) (hm : m.length ≤ lim) : ∃ u t', appV (t.push (.row (Nd.av x) true)) 6 48 (.sl t.next 0 1 (some 1) 6) v = some (u, t') ∧ Keep s t' ∧ read ndC t' u = some (x :: m) ∧ Keep t t' := by
  have hr1 : read ndC (t.push (.row (Nd.av x) true)) v = some m := ((Keep.refl t).push _).read hr
  have e1 : shown (t.push (.row (Nd.av x) true)) 6 v = some (ndC.cells m) := read_shown hr1
  have e2 : lenOf v = some m.length := read_len hr1
  have hg := St.get_push_new t (.row (Nd.av x) true)
  by_cases h0 : m = []
  · subst h0
    refine ⟨.sl t.next 0 1 (some 1) 6, t.push (.row (Nd.av x) true), ?_, hK.push _, ?_, (Keep.refl t).push _⟩
    · simp only [appV, e1, e2, aappend, if_true, hg, List.length_nil]
    · exact read_of (C := ndC) (n := 1) rfl hg (by simp [ndC, Nd.av]) rfl
  · have h0' : m.length ≠ 0 := by simpa using h0
    refine ⟨.sl (t.push (.row (Nd.av x) true)).next 0 (1 + m.length) none 6, (t.push (.row (Nd.av x) true)).push (.row (Nd.av x ++ ndC.cells m) true), ?_, (hK.push _).push _, ?_, ((Keep.refl t).push _).push _⟩
    · simp only [appV, e1, e2, aappend, if_true, hg, if_neg h0']
      rw [if_pos ⟨by simp [Nd.av], by unfold lim at hm; simp [roomBytes]; omega⟩, if_neg (by omega)]
      simp [Nd.av]
    · have hc : Nd.av x ++ ndC.cells m = ndC.cells (x :: m) := rfl
      rw [hc]
      refine read_of (C := ndC) (by simp; omega) (St.get_push_new _ _) ?_ ?_
      · rw [cells_len, List.length_cons, Nat.add_comm 1]; omega
      · have : (1 + m.length) * ndC.sz = (ndC.cells (x :: m)).length := by rw [cells_len, List.length_cons, Nat.add_comm]
        rw [this]
        simp
def capNone : AV → Bool
  | .sl _ _ _ (some _) _ => false
  | _ => true
def pPut : List AV → St → Option (List Nd × Option AV) := fun xs s => match xs with
  | [v, .agg cs] => match read ndC s v, ndC.dec cs with
    | some l, some x => if l.length ≤ 100000 ∧ capNone v = true then some (putL l x, none) else none
    | _, _ => none
  | _ => none
theorem capNone_slc {v : AV} (h : capNone v = true) : ∀ id off n c z, v = .sl id off n (some c) z → n ≤ c := by
  rintro id off n c z rfl
  cases h
theorem pPut_some {xs : List AV} {s : St} {r : List Nd × Option AV} (h : pPut xs s = some r) : ∃ v l x, xs = [v, .agg (Nd.av x)] ∧ read ndC s v = some l ∧ l.length ≤ 100000 ∧ capNone v = true ∧ r = (putL l x, none) := by
  unfold pPut at h
  split at h
  · split at h
    · split at h
      · rename_i v _ _ _ l x hr hx hc
        injection h with h
        have := ndC.enc_dec _ _ hx
        exact ⟨v, l, x, by rw [this]; rfl, hr, hc.1, hc.2, h.symm⟩
      · cases h
    · cases h
  · cases h
theorem s_Put : SoundAt Try.prog 32 (conF ndC pPut) :=
  con_fresh (tb_sound (l := [(28, conDD fBefore)]) (by simpa using s_Before)) mixed Try.func32 k32 c32 fun args s r ee h => by
    obtain ⟨v, l, x, rfl, hr, hls, hcap, hres⟩ := pPut_some h
    obtain ⟨rfl, rfl⟩ := Prod.mk.inj hres
    refine ⟨by simp, by simp [a32], fun env hlen ha => ?_⟩
    have h0 : E env 0 = _ := ha 0 _ rfl
    have h1 : E env 1 = _ := ha 1 _ rfl
    have hlen : elen env = _ := hlen
    simp only [a32] at hlen
    unfold a32
    have hl : l.length ≤ lim := by unfold lim; omega
    have hL := lenV_read hr
    simp (config := {contextual := true, maxDischargeDepth := 12}) only [tb, h0, h1, hlen, hL, E_pne, E_psame, elen_put, aev_t, aev_c, aev_f, pE_none, pstep_some, estep_some, gstep_tt, gstep_ff, gstep_tf, gstep_ft, gstep_und, ↓st_nil, ↓st_mv, ↓sg_mv, ↓st_pick, ↓sg_pick, ↓st_build, ↓sg_build, ↓st_bin, ↓sg_bin, ↓st_un, ↓sg_un, ↓st_conv, ↓sg_conv, ↓st_mkfn, ↓sg_mkfn, ↓st_slc, ↓sg_slc, ↓st_slcs, ↓sg_slcs, ↓st_fad, ↓sg_fad, ↓st_fld, ↓sg_fld, ↓st_iad, ↓sg_iad, ↓st_idxs, ↓sg_idxs, ↓st_ext, ↓sg_ext, ↓st_len, ↓sg_len, ↓st_lens, ↓sg_lens, ↓st_cap, ↓sg_cap, ↓st_mm, ↓sg_mm, ↓st_nchk, ↓sg_nchk, ↓st_load1, ↓sg_load1, ↓st_loadn, ↓sg_loadn, ↓st_b2s, ↓sg_b2s, ↓st_look, ↓sg_look, ↓st_lenm, ↓sg_lenm, ↓st_ent, ↓sg_ent, ↓st_calld, ↓sg_calld, ↓st_callvd, ↓sg_callvd, ↓st_call, ↓sg_call, ↓st_callv, ↓sg_callv, ↓st_store, ↓st_storef, ↓st_app, ↓st_appz, ↓st_copy, ↓st_mkmap, ↓st_mset, ↓st_mdel, ↓st_rng, ↓st_allo, ↓st_allor, ↓st_box, ↓st_boxr, ↓st_bsl, ↓st_bslr, ↓st_mksl, ↓st_mkslr, astep_some, bstep_some, ↓wp_regd, ↓wp_reg, ↓wp_skip, ↓wp_exit, ↓wp_ret, ↓wp_seq, ↓wp_block, ↓wp_cond, ↓wp_loop, cstep_true, cstep_false, rstep_true, noNxt_nil, noNxt_cons, isNx, forall_const, List.all_cons, List.all_nil, Bool.and_true, Bool.true_and, Bool.and_false, Bool.false_and, Bool.or_true, Bool.true_or, Bool.or_false, Bool.false_or, Bool.and_eq_true, sel_true, sel_false, gP_bt, gP_bf, gP_st, gP_sf, gP_und, gpure_bt, gpure_bf, gpure_st, gpure_sf, gpure_und, gpure_sft, gpure_stf, gcall_sft, gcall_stf, gpure_tf, gpure_ft, gcall_bt, gcall_bf, gcall_st, gcall_sf, gcall_und, gcall_tf, gcall_ft, gcall_tt, gcall_ff, res1, res2, res0, rc1, rc2, ar_loadn, ar_load1, ae_store, ap_iad, ap_fad, fadV_ptr, ap_len, lenV_sl, lenV_nils, ap_pick, pickV_t, pickV_f, pickV_or, pickV_ors, pickV_orn, ar_call, pickV_and, pickV_ands, ap_not, notV_bool, ap_ext, extV_0, extV_1, ap_build, fillP_nil, fillP_cons, aa_bsl1, aa_box, boxV_dot, boxV_nd, fstep_nd, fstep_dot, Option.map_some, push_put, reserve0, reserve1_get, reserve1_get', reserve1_born, reserve1_born', sto_nd, sto_nd0, lod_nd, lod_nd_dot, lod_nd_par, lod1_nd_t, lod1_nd_x, lod_dot, lod1_dot_r, lod1_dot_c, sto_push_lt, lod_reserve, lod1_reserve, sto_nd_x, sto_nd_t, lt_lowed, cs_dec, cs_not, cs_and, cs_or, cs_valid, eq_self, kt_refl, kt_push, kt_lowed, lod_push_lt, lod1_push_lt, lod_lowed, lod1_lowed, lod_lowd, lod1_lowd, bin_lss, bin_leq, bin_gtr, bin_geq, bin_eql, bin_neq, bin_add, bin_sub, bin_eqb, bin_neb, bin_eqd, bin_neqd, bin_eqd0, bin_neqd0, bin_eqn, bin_neqn, List.map_cons, List.map_nil, Nat.add_zero, Nat.zero_add, Bool.not_true, Bool.not_eq_true', Bool.not_eq_false', Bool.and_eq_true, Bool.not_false, Bool.not_not, ne_eq, reduceCtorEq, not_false_eq_true, implies_true, true_and, and_true, ↓reduceIte, Nat.reduceEqDiff, Nat.reduceLT, Nat.reduceAdd, Nat.reduceMul, Nat.one_ne_zero, Nat.zero_ne_one, Nat.zero_mul, Nat.one_mul, lowed_next, lt_push, lt_push_same, same_self, same_push, same_lowed, same_lowed', decide_true, decide_false, Int.ofNat_lt, Int.ofNat_le, exists_const, ae_app, ap_slc, Option.map_none, mkR_none, mkR_some, ar_look, ae_mset, ae_rng, ae_mkmap0, ar_ent, lookV_push, lookV_lowed, msetV_push, msetV_lowed, lt_put, same_put, sto_over, sto_lowed, cs_dead, Option.map_some, beq_self_eq_true, decide_true, cs_true, cs_false]
    obtain ⟨I, hI⟩ : ∃ I : Nat → Env → St → Prop, ∀ n e t, I n e t = (t = s.push (.row (Nd.av x) true) ∧ ∃ i : Nat, n + i = l.length ∧ elen e = 35 ∧ E e 0 = v ∧ E e 3 = .ptr s.next 0 ∧ E e 5 = .int .i64 (i : Int) ∧ ∀ k y, k < i → l[k]? = some y → y.d.before x.d = true) := ⟨fun n e t => (t = s.push (.row (Nd.av x) true) ∧ ∃ i : Nat, n + i = l.length ∧ elen e = 35 ∧ E e 0 = v ∧ E e 3 = .ptr s.next 0 ∧ E e 5 = .int .i64 (i : Int) ∧ ∀ k y, k < i → l[k]? = some y → y.d.before x.d = true), fun _ _ _ => rfl⟩
    refine lwp_inv I (n := l.length) ?_ ?_
    · rw [hI]
      exact ⟨rfl, 0, by omega, by simp only [E_pne, E_psame, elen_put, Nat.reduceEqDiff, ne_eq, not_false_eq_true, Nat.reduceLT, hlen], by simp only [E_pne, E_psame, elen_put, Nat.reduceEqDiff, ne_eq, not_false_eq_true, Nat.reduceLT, h0], by simp only [E_pne, E_psame, elen_put, Nat.reduceEqDiff, ne_eq, not_false_eq_true, Nat.reduceLT, hlen], by simp only [E_pne, E_psame, elen_put, Nat.reduceEqDiff, ne_eq, not_false_eq_true, Nat.reduceLT, hlen]; rfl, fun k y hk => by omega⟩
    intro n e t hi
    rw [hI] at hi
    obtain ⟨rfl, i, hn, he, e0, e3, e5, hpre⟩ := hi
    by_cases hlt : i < l.length
    · obtain ⟨y, hy⟩ := getsome hlt
      have hw2 := wrap_add1 (n := i) (by omega)
      obtain ⟨a1, a2, _, _, _, al⟩ := nd_lods hr (.refl _) hy
      have i1 := nd_idx hr hy .i64
      cases hb : y.d.before x.d
      · have hpos : posL x l = i := posL_eq x l i (by omega) hpre (fun z hz => by rw [hy] at hz; cases hz; exact hb)
        obtain ⟨v1, hs1, hr1⟩ := slc_lo hr (k := .i64) (i := (i : Int)) (n := i) rfl (by omega)
        obtain ⟨v2, hs2, hr2⟩ := slc_hi hr (capNone_slc hcap) (k := .i64) (i := (i : Int)) (n := i) rfl (by omega)
        have hs1 : slcV 6 v (some (.int .i64 (i : Int))) none = some v1 := hs1
        have hs2 : slcV 6 v none (some (.int .i64 (i : Int))) = some v2 := hs2
        have hKb := (Keep.refl s).push (.row (Nd.av x) true)
        obtain ⟨u, t1, hap1, hK1, hru, hKt⟩ := app_cap1 (x := x) hKb (hr1 _ hKb) (by simp; omega)
        obtain ⟨u2, t2, hap2, hK2, hO2⟩ := appV_list (.refl t1) (.nil ndC t1 t1) (hr2 _ hK1) 48 (by simp [roomBytes]; omega)
        obtain ⟨u3, t3, hap3, hK3, hO3⟩ := appV_list (hK1.trans hK2) (hO2.from hK1.next) (hK2.read hru) 48 (by simp [roomBytes]; omega)
        have hap1 : appV ((s.push (.row (Nd.av x) true)).push (.row (Nd.av x) true)) 6 48 (.sl (s.push (.row (Nd.av x) true)).next 0 1 (some 1) 6) v1 = some (u, t1) := hap1
        have hap2 : appV t1 6 48 .nils v2 = some (u2, t2) := hap2
        have hap3 : appV t2 6 48 u2 u = some (u3, t3) := hap3
        simp (config := {contextual := true, maxDischargeDepth := 12}) only [tb, q_Before, e0, e3, e5, he, hL, hlt, hw2, a2, al, i1, hb, hs1, hs2, hap1, hap2, hap3, E_pne, E_psame, elen_put, aev_t, aev_c, aev_f, pE_none, pstep_some, estep_some, gstep_tt, gstep_ff, gstep_tf, gstep_ft, gstep_und, ↓st_nil, ↓st_mv, ↓sg_mv, ↓st_pick, ↓sg_pick, ↓st_build, ↓sg_build, ↓st_bin, ↓sg_bin, ↓st_un, ↓sg_un, ↓st_conv, ↓sg_conv, ↓st_mkfn, ↓sg_mkfn, ↓st_slc, ↓sg_slc, ↓st_slcs, ↓sg_slcs, ↓st_fad, ↓sg_fad, ↓st_fld, ↓sg_fld, ↓st_iad, ↓sg_iad, ↓st_idxs, ↓sg_idxs, ↓st_ext, ↓sg_ext, ↓st_len, ↓sg_len, ↓st_lens, ↓sg_lens, ↓st_cap, ↓sg_cap, ↓st_mm, ↓sg_mm, ↓st_nchk, ↓sg_nchk, ↓st_load1, ↓sg_load1, ↓st_loadn, ↓sg_loadn, ↓st_b2s, ↓sg_b2s, ↓st_look, ↓sg_look, ↓st_lenm, ↓sg_lenm, ↓st_ent, ↓sg_ent, ↓st_calld, ↓sg_calld, ↓st_callvd, ↓sg_callvd, ↓st_call, ↓sg_call, ↓st_callv, ↓sg_callv, ↓st_store, ↓st_storef, ↓st_app, ↓st_appz, ↓st_copy, ↓st_mkmap, ↓st_mset, ↓st_mdel, ↓st_rng, ↓st_allo, ↓st_allor, ↓st_box, ↓st_boxr, ↓st_bsl, ↓st_bslr, ↓st_mksl, ↓st_mkslr, astep_some, bstep_some, ↓wp_regd, ↓wp_reg, ↓wp_skip, ↓wp_exit, ↓wp_ret, ↓wp_seq, ↓wp_block, ↓wp_cond, ↓wp_loop, cstep_true, cstep_false, rstep_true, noNxt_nil, noNxt_cons, isNx, forall_const, List.all_cons, List.all_nil, Bool.and_true, Bool.true_and, Bool.and_false, Bool.false_and, Bool.or_true, Bool.true_or, Bool.or_false, Bool.false_or, Bool.and_eq_true, sel_true, sel_false, gP_bt, gP_bf, gP_st, gP_sf, gP_und, gpure_bt, gpure_bf, gpure_st, gpure_sf, gpure_und, gpure_sft, gpure_stf, gcall_sft, gcall_stf, gpure_tf, gpure_ft, gcall_bt, gcall_bf, gcall_st, gcall_sf, gcall_und, gcall_tf, gcall_ft, gcall_tt, gcall_ff, res1, res2, res0, rc1, rc2, ar_loadn, ar_load1, ae_store, ap_iad, ap_fad, fadV_ptr, ap_len, lenV_sl, lenV_nils, ap_pick, pickV_t, pickV_f, pickV_or, pickV_ors, pickV_orn, ar_call, pickV_and, pickV_ands, ap_not, notV_bool, ap_ext, extV_0, extV_1, ap_build, fillP_nil, fillP_cons, aa_bsl1, aa_box, boxV_dot, boxV_nd, fstep_nd, fstep_dot, Option.map_some, push_put, reserve0, reserve1_get, reserve1_get', reserve1_born, reserve1_born', sto_nd, sto_nd0, lod_nd, lod_nd_dot, lod_nd_par, lod1_nd_t, lod1_nd_x, lod_dot, lod1_dot_r, lod1_dot_c, sto_push_lt, lod_reserve, lod1_reserve, sto_nd_x, sto_nd_t, lt_lowed, cs_dec, cs_not, cs_and, cs_or, cs_valid, eq_self, kt_refl, kt_push, kt_lowed, lod_push_lt, lod1_push_lt, lod_lowed, lod1_lowed, lod_lowd, lod1_lowd, bin_lss, bin_leq, bin_gtr, bin_geq, bin_eql, bin_neq, bin_add, bin_sub, bin_eqb, bin_neb, bin_eqd, bin_neqd, bin_eqd0, bin_neqd0, bin_eqn, bin_neqn, List.map_cons, List.map_nil, Nat.add_zero, Nat.zero_add, Bool.not_true, Bool.not_eq_true', Bool.not_eq_false', Bool.and_eq_true, Bool.not_false, Bool.not_not, ne_eq, reduceCtorEq, not_false_eq_true, implies_true, true_and, and_true, ↓reduceIte, Nat.reduceEqDiff, Nat.reduceLT, Nat.reduceAdd, Nat.reduceMul, Nat.one_ne_zero, Nat.zero_ne_one, Nat.zero_mul, Nat.one_mul, lowed_next, lt_push, lt_push_same, same_self, same_push, same_lowed, same_lowed', decide_true, decide_false, Int.ofNat_lt, Int.ofNat_le, exists_const, ae_app, ap_slc, Option.map_none, mkR_none, mkR_some, ar_look, ae_mset, ae_rng, ae_mkmap0, ar_ent, lookV_push, lookV_lowed, msetV_push, msetV_lowed, lt_put, same_put, sto_over, sto_lowed, cs_dead, Option.map_some, beq_self_eq_true, decide_true, cs_true, cs_false]
        exact ⟨hK3, _, rfl, by simpa [putL, hpos] using hO3⟩
      · skip
        simp (config := {contextual := true, maxDischargeDepth := 12}) only [tb, q_Before, e0, e3, e5, he, hL, hlt, hw2, a2, al, i1, hb, E_pne, E_psame, elen_put, aev_t, aev_c, aev_f, pE_none, pstep_some, estep_some, gstep_tt, gstep_ff, gstep_tf, gstep_ft, gstep_und, ↓st_nil, ↓st_mv, ↓sg_mv, ↓st_pick, ↓sg_pick, ↓st_build, ↓sg_build, ↓st_bin, ↓sg_bin, ↓st_un, ↓sg_un, ↓st_conv, ↓sg_conv, ↓st_mkfn, ↓sg_mkfn, ↓st_slc, ↓sg_slc, ↓st_slcs, ↓sg_slcs, ↓st_fad, ↓sg_fad, ↓st_fld, ↓sg_fld, ↓st_iad, ↓sg_iad, ↓st_idxs, ↓sg_idxs, ↓st_ext, ↓sg_ext, ↓st_len, ↓sg_len, ↓st_lens, ↓sg_lens, ↓st_cap, ↓sg_cap, ↓st_mm, ↓sg_mm, ↓st_nchk, ↓sg_nchk, ↓st_load1, ↓sg_load1, ↓st_loadn, ↓sg_loadn, ↓st_b2s, ↓sg_b2s, ↓st_look, ↓sg_look, ↓st_lenm, ↓sg_lenm, ↓st_ent, ↓sg_ent, ↓st_calld, ↓sg_calld, ↓st_callvd, ↓sg_callvd, ↓st_call, ↓sg_call, ↓st_callv, ↓sg_callv, ↓st_store, ↓st_storef, ↓st_app, ↓st_appz, ↓st_copy, ↓st_mkmap, ↓st_mset, ↓st_mdel, ↓st_rng, ↓st_allo, ↓st_allor, ↓st_box, ↓st_boxr, ↓st_bsl, ↓st_bslr, ↓st_mksl, ↓st_mkslr, astep_some, bstep_some, ↓wp_regd, ↓wp_reg, ↓wp_skip, ↓wp_exit, ↓wp_ret, ↓wp_seq, ↓wp_block, ↓wp_cond, ↓wp_loop, cstep_true, cstep_false, rstep_true, noNxt_nil, noNxt_cons, isNx, forall_const, List.all_cons, List.all_nil, Bool.and_true, Bool.true_and, Bool.and_false, Bool.false_and, Bool.or_true, Bool.true_or, Bool.or_false, Bool.false_or, Bool.and_eq_true, sel_true, sel_false, gP_bt, gP_bf, gP_st, gP_sf, gP_und, gpure_bt, gpure_bf, gpure_st, gpure_sf, gpure_und, gpure_sft, gpure_stf, gcall_sft, gcall_stf, gpure_tf, gpure_ft, gcall_bt, gcall_bf, gcall_st, gcall_sf, gcall_und, gcall_tf, gcall_ft, gcall_tt, gcall_ff, res1, res2, res0, rc1, rc2, ar_loadn, ar_load1, ae_store, ap_iad, ap_fad, fadV_ptr, ap_len, lenV_sl, lenV_nils, ap_pick, pickV_t, pickV_f, pickV_or, pickV_ors, pickV_orn, ar_call, pickV_and, pickV_ands, ap_not, notV_bool, ap_ext, extV_0, extV_1, ap_build, fillP_nil, fillP_cons, aa_bsl1, aa_box, boxV_dot, boxV_nd, fstep_nd, fstep_dot, Option.map_some, push_put, reserve0, reserve1_get, reserve1_get', reserve1_born, reserve1_born', sto_nd, sto_nd0, lod_nd, lod_nd_dot, lod_nd_par, lod1_nd_t, lod1_nd_x, lod_dot, lod1_dot_r, lod1_dot_c, sto_push_lt, lod_reserve, lod1_reserve, sto_nd_x, sto_nd_t, lt_lowed, cs_dec, cs_not, cs_and, cs_or, cs_valid, eq_self, kt_refl, kt_push, kt_lowed, lod_push_lt, lod1_push_lt, lod_lowed, lod1_lowed, lod_lowd, lod1_lowd, bin_lss, bin_leq, bin_gtr, bin_geq, bin_eql, bin_neq, bin_add, bin_sub, bin_eqb, bin_neb, bin_eqd, bin_neqd, bin_eqd0, bin_neqd0, bin_eqn, bin_neqn, List.map_cons, List.map_nil, Nat.add_zero, Nat.zero_add, Bool.not_true, Bool.not_eq_true', Bool.not_eq_false', Bool.and_eq_true, Bool.not_false, Bool.not_not, ne_eq, reduceCtorEq, not_false_eq_true, implies_true, true_and, and_true, ↓reduceIte, Nat.reduceEqDiff, Nat.reduceLT, Nat.reduceAdd, Nat.reduceMul, Nat.one_ne_zero, Nat.zero_ne_one, Nat.zero_mul, Nat.one_mul, lowed_next, lt_push, lt_push_same, same_self, same_push, same_lowed, same_lowed', decide_true, decide_false, Int.ofNat_lt, Int.ofNat_le, exists_const, ae_app, ap_slc, Option.map_none, mkR_none, mkR_some, ar_look, ae_mset, ae_rng, ae_mkmap0, ar_ent, lookV_push, lookV_lowed, msetV_push, msetV_lowed, lt_put, same_put, sto_over, sto_lowed, cs_dead, Option.map_some, beq_self_eq_true, decide_true, cs_true, cs_false]
        refine ⟨n - 1, by omega, ?_⟩
        rw [hI]
        refine ⟨rfl, i + 1, by omega, by simp only [E_pne, E_psame, elen_put, Nat.reduceEqDiff, ne_eq, not_false_eq_true, Nat.reduceLT, he], by simp only [E_pne, E_psame, elen_put, Nat.reduceEqDiff, ne_eq, not_false_eq_true, Nat.reduceLT, e0], by simp only [E_pne, E_psame, elen_put, Nat.reduceEqDiff, ne_eq, not_false_eq_true, Nat.reduceLT, e3], by simp only [E_pne, E_psame, elen_put, Nat.reduceEqDiff, ne_eq, not_false_eq_true, Nat.reduceLT, he], fun k z hk hz => ?_⟩
        by_cases hki : k = i
        · subst hki
          rw [hy] at hz; cases hz
          exact hb
        · exact hpre k z (by omega) hz
    · have hpos : posL x l = i := posL_eq x l i (by omega) hpre (fun z hz => by have := getlt hz; omega)
      obtain ⟨v1, hs1, hr1⟩ := slc_lo hr (k := .i64) (i := (i : Int)) (n := i) rfl (by omega)
      obtain ⟨v2, hs2, hr2⟩ := slc_hi hr (capNone_slc hcap) (k := .i64) (i := (i : Int)) (n := i) rfl (by omega)
      have hs1 : slcV 6 v (some (.int .i64 (i : Int))) none = some v1 := hs1
      have hs2 : slcV 6 v none (some (.int .i64 (i : Int))) = some v2 := hs2
      have hKb := (Keep.refl s).push (.row (Nd.av x) true)
      obtain ⟨u, t1, hap1, hK1, hru, hKt⟩ := app_cap1 (x := x) hKb (hr1 _ hKb) (by simp; omega)
      obtain ⟨u2, t2, hap2, hK2, hO2⟩ := appV_list (.refl t1) (.nil ndC t1 t1) (hr2 _ hK1) 48 (by simp [roomBytes]; omega)
      obtain ⟨u3, t3, hap3, hK3, hO3⟩ := appV_list (hK1.trans hK2) (hO2.from hK1.next) (hK2.read hru) 48 (by simp [roomBytes]; omega)
      have hap1 : appV ((s.push (.row (Nd.av x) true)).push (.row (Nd.av x) true)) 6 48 (.sl (s.push (.row (Nd.av x) true)).next 0 1 (some 1) 6) v1 = some (u, t1) := hap1
      have hap2 : appV t1 6 48 .nils v2 = some (u2, t2) := hap2
      have hap3 : appV t2 6 48 u2 u = some (u3, t3) := hap3
      simp (config := {contextual := true, maxDischargeDepth := 12}) only [tb, q_Before, e0, e3, e5, he, hL, hlt, hs1, hs2, hap1, hap2, hap3, E_pne, E_psame, elen_put, aev_t, aev_c, aev_f, pE_none, pstep_some, estep_some, gstep_tt, gstep_ff, gstep_tf, gstep_ft, gstep_und, ↓st_nil, ↓st_mv, ↓sg_mv, ↓st_pick, ↓sg_pick, ↓st_build, ↓sg_build, ↓st_bin, ↓sg_bin, ↓st_un, ↓sg_un, ↓st_conv, ↓sg_conv, ↓st_mkfn, ↓sg_mkfn, ↓st_slc, ↓sg_slc, ↓st_slcs, ↓sg_slcs, ↓st_fad, ↓sg_fad, ↓st_fld, ↓sg_fld, ↓st_iad, ↓sg_iad, ↓st_idxs, ↓sg_idxs, ↓st_ext, ↓sg_ext, ↓st_len, ↓sg_len, ↓st_lens, ↓sg_lens, ↓st_cap, ↓sg_cap, ↓st_mm, ↓sg_mm, ↓st_nchk, ↓sg_nchk, ↓st_load1, ↓sg_load1, ↓st_loadn, ↓sg_loadn, ↓st_b2s, ↓sg_b2s, ↓st_look, ↓sg_look, ↓st_lenm, ↓sg_lenm, ↓st_ent, ↓sg_ent, ↓st_calld, ↓sg_calld, ↓st_callvd, ↓sg_callvd, ↓st_call, ↓sg_call, ↓st_callv, ↓sg_callv, ↓st_store, ↓st_storef, ↓st_app, ↓st_appz, ↓st_copy, ↓st_mkmap, ↓st_mset, ↓st_mdel, ↓st_rng, ↓st_allo, ↓st_allor, ↓st_box, ↓st_boxr, ↓st_bsl, ↓st_bslr, ↓st_mksl, ↓st_mkslr, astep_some, bstep_some, ↓wp_regd, ↓wp_reg, ↓wp_skip, ↓wp_exit, ↓wp_ret, ↓wp_seq, ↓wp_block, ↓wp_cond, ↓wp_loop, cstep_true, cstep_false, rstep_true, noNxt_nil, noNxt_cons, isNx, forall_const, List.all_cons, List.all_nil, Bool.and_true, Bool.true_and, Bool.and_false, Bool.false_and, Bool.or_true, Bool.true_or, Bool.or_false, Bool.false_or, Bool.and_eq_true, sel_true, sel_false, gP_bt, gP_bf, gP_st, gP_sf, gP_und, gpure_bt, gpure_bf, gpure_st, gpure_sf, gpure_und, gpure_sft, gpure_stf, gcall_sft, gcall_stf, gpure_tf, gpure_ft, gcall_bt, gcall_bf, gcall_st, gcall_sf, gcall_und, gcall_tf, gcall_ft, gcall_tt, gcall_ff, res1, res2, res0, rc1, rc2, ar_loadn, ar_load1, ae_store, ap_iad, ap_fad, fadV_ptr, ap_len, lenV_sl, lenV_nils, ap_pick, pickV_t, pickV_f, pickV_or, pickV_ors, pickV_orn, ar_call, pickV_and, pickV_ands, ap_not, notV_bool, ap_ext, extV_0, extV_1, ap_build, fillP_nil, fillP_cons, aa_bsl1, aa_box, boxV_dot, boxV_nd, fstep_nd, fstep_dot, Option.map_some, push_put, reserve0, reserve1_get, reserve1_get', reserve1_born, reserve1_born', sto_nd, sto_nd0, lod_nd, lod_nd_dot, lod_nd_par, lod1_nd_t, lod1_nd_x, lod_dot, lod1_dot_r, lod1_dot_c, sto_push_lt, lod_reserve, lod1_reserve, sto_nd_x, sto_nd_t, lt_lowed, cs_dec, cs_not, cs_and, cs_or, cs_valid, eq_self, kt_refl, kt_push, kt_lowed, lod_push_lt, lod1_push_lt, lod_lowed, lod1_lowed, lod_lowd, lod1_lowd, bin_lss, bin_leq, bin_gtr, bin_geq, bin_eql, bin_neq, bin_add, bin_sub, bin_eqb, bin_neb, bin_eqd, bin_neqd, bin_eqd0, bin_neqd0, bin_eqn, bin_neqn, List.map_cons, List.map_nil, Nat.add_zero, Nat.zero_add, Bool.not_true, Bool.not_eq_true', Bool.not_eq_false', Bool.and_eq_true, Bool.not_false, Bool.not_not, ne_eq, reduceCtorEq, not_false_eq_true, implies_true, true_and, and_true, ↓reduceIte, Nat.reduceEqDiff, Nat.reduceLT, Nat.reduceAdd, Nat.reduceMul, Nat.one_ne_zero, Nat.zero_ne_one, Nat.zero_mul, Nat.one_mul, lowed_next, lt_push, lt_push_same, same_self, same_push, same_lowed, same_lowed', decide_true, decide_false, Int.ofNat_lt, Int.ofNat_le, exists_const, ae_app, ap_slc, Option.map_none, mkR_none, mkR_some, ar_look, ae_mset, ae_rng, ae_mkmap0, ar_ent, lookV_push, lookV_lowed, msetV_push, msetV_lowed, lt_put, same_put, sto_over, sto_lowed, cs_dead, Option.map_some, beq_self_eq_true, decide_true, cs_true, cs_false]
      exact ⟨hK3, _, rfl, by simpa [putL, hpos] using hO3⟩

/-! ### The reference's Join -/
def rmerge (x y : Nd) : Nd := if x.clash y = true then nd0 else x.merge y
def jstep (out : List Nd) (y : Nd) : List Nd := match lookN out y.d with
  | some (k, x) => out.set k (rmerge x y)
  | none => putL out y
def refJ (l m : List Nd) : List Nd := m.foldl jstep l
theorem putL_len (l : List Nd) (x : Nd) : (putL l x).length = l.length + 1 := by
  have := posL_le x l
  simp [putL]
  omega
theorem jstep_len (l : List Nd) (x : Nd) : (jstep l x).length ≤ l.length + 1 := by
  unfold jstep
  split
  · simp
  · rw [putL_len]; exact Nat.le_refl _
theorem cells_take (l : List Nd) (k : Nat) (hk : k ≤ l.length) : (ndC.cells l).take (k * 6) = ndC.cells (l.take k) := by
  conv => lhs; rw [← List.take_append_drop k l, cells_append]
  have : k * 6 = (ndC.cells (l.take k)).length := by rw [cells_len, List.length_take, Nat.min_eq_left (by omega)]; rfl
  rw [this, List.take_left]
theorem cells_drop (l : List Nd) (k : Nat) (hk : k ≤ l.length) : (ndC.cells l).drop (k * 6) = ndC.cells (l.drop k) := by
  conv => lhs; rw [← List.take_append_drop k l, cells_append]
  have : k * 6 = (ndC.cells (l.take k)).length := by rw [cells_len, List.length_take, Nat.min_eq_left (by omega)]; rfl
  rw [this, List.drop_left]
theorem cells_setAt {l : List Nd} {k : Nat} (hk : k < l.length) (z : Nd) : setAt (ndC.cells l) (k * 6) (Nd.av z) = ndC.cells (l.set k z) := by
  have e : k * 6 + (Nd.av z).length = (k + 1) * 6 := by
    have : (Nd.av z).length = 6 := rfl
    omega
  rw [setAt, e, cells_take l k (by omega), cells_drop l (k + 1) (by omega), List.set_eq_take_append_cons_drop, if_pos hk, cells_append, cells_cons, List.append_assoc]
  rfl
theorem own_set {s t : St} {v : AV} {out : List Nd} (hK : Keep s t) (hO : Own ndC s t v out) {k : Nat} (hk : k < out.length) (z : Nd) : ∃ t', sto t 6 (.ptr (bid v) (boff v + k * 6)) (.agg (Nd.av z)) = some (.und, t') ∧ Keep s t' ∧ Own ndC s t' v (out.set k z) := by
  rcases hO with ⟨rfl, rfl⟩ | ⟨j, rfl, h0, h1, h⟩
  · simp at hk
  · refine ⟨t.put j (.row (ndC.cells (out.set k z)) true), ?_, hK.put _ h1 (St.get_lt h), .inr ⟨j, by simp, by intro e; exact h0 (by have := congrArg List.length e; simpa using this), h1, St.get_put_same h⟩⟩
    have hcl : (ndC.cells out).length = out.length * 6 := cells_len ndC out
    have h6 : (Nd.av z).length = 6 := rfl
    have ho : (Nd.av z).all AV.one = true := rfl
    simp only [bid, boff, Nat.zero_add, sto, h, AV.cells, h6, ho, true_and]
    rw [if_pos (by omega), cells_setAt hk]
theorem own_capNone {s t : St} {v : AV} {out : List Nd} (hO : Own ndC s t v out) : capNone v = true := by
  rcases hO with ⟨rfl, rfl⟩ | ⟨j, rfl, _⟩ <;> rfl
def gRJoin (l m : List Nd) : Option (List Nd × Option AV) := if l.length ≤ 10000 ∧ m.length ≤ 10000 then some (refJ l m, none) else none
theorem s_RJoin : SoundAt Try.prog 16 (conF ndC (pLL ndC ndC gRJoin)) :=
  con_fresh (tb_sound (l := [(22, conLD ndC fFind), (29, conNN fRefMerge), (32, conF ndC pPut)]) (by simpa using ⟨s_Find, s_RefMerge, s_Put⟩)) mixed Try.func16 k16 c16 fun args s r ee h => by
    obtain ⟨v, w, l, m, rfl, hr, hw, hl, hm, hp⟩ := pLL_some h
    unfold gRJoin at hp
    split at hp
    rotate_left
    · cases hp
    rename_i hs
    injection hp with hp
    obtain ⟨rfl, rfl⟩ := Prod.mk.inj hp
    refine ⟨by simp, by simp [a16], fun env hlen ha => ?_⟩
    have h0 : E env 0 = _ := ha 0 _ rfl
    have h1 : E env 1 = _ := ha 1 _ rfl
    have hlen : elen env = _ := hlen
    simp only [a16] at hlen
    unfold a16
    have hL := lenV_read hr
    have hM := lenV_read hw
    obtain ⟨u0, t0, hap0, hK0, hO0⟩ := appV_list (.refl s) (.nil ndC s s) hr 48 (by unfold lim at hl; simp [roomBytes]; omega)
    have hap0 : appV s 6 48 .nils v = _ := hap0
    simp (config := {contextual := true, maxDischargeDepth := 12}) only [tb, h0, h1, hlen, hL, hap0, E_pne, E_psame, elen_put, aev_t, aev_c, aev_f, pE_none, pstep_some, estep_some, gstep_tt, gstep_ff, gstep_tf, gstep_ft, gstep_und, ↓st_nil, ↓st_mv, ↓sg_mv, ↓st_pick, ↓sg_pick, ↓st_build, ↓sg_build, ↓st_bin, ↓sg_bin, ↓st_un, ↓sg_un, ↓st_conv, ↓sg_conv, ↓st_mkfn, ↓sg_mkfn, ↓st_slc, ↓sg_slc, ↓st_slcs, ↓sg_slcs, ↓st_fad, ↓sg_fad, ↓st_fld, ↓sg_fld, ↓st_iad, ↓sg_iad, ↓st_idxs, ↓sg_idxs, ↓st_ext, ↓sg_ext, ↓st_len, ↓sg_len, ↓st_lens, ↓sg_lens, ↓st_cap, ↓sg_cap, ↓st_mm, ↓sg_mm, ↓st_nchk, ↓sg_nchk, ↓st_load1, ↓sg_load1, ↓st_loadn, ↓sg_loadn, ↓st_b2s, ↓sg_b2s, ↓st_look, ↓sg_look, ↓st_lenm, ↓sg_lenm, ↓st_ent, ↓sg_ent, ↓st_calld, ↓sg_calld, ↓st_callvd, ↓sg_callvd, ↓st_call, ↓sg_call, ↓st_callv, ↓sg_callv, ↓st_store, ↓st_storef, ↓st_app, ↓st_appz, ↓st_copy, ↓st_mkmap, ↓st_mset, ↓st_mdel, ↓st_rng, ↓st_allo, ↓st_allor, ↓st_box, ↓st_boxr, ↓st_bsl, ↓st_bslr, ↓st_mksl, ↓st_mkslr, astep_some, bstep_some, ↓wp_regd, ↓wp_reg, ↓wp_skip, ↓wp_exit, ↓wp_ret, ↓wp_seq, ↓wp_block, ↓wp_cond, ↓wp_loop, cstep_true, cstep_false, rstep_true, noNxt_nil, noNxt_cons, isNx, forall_const, List.all_cons, List.all_nil, Bool.and_true, Bool.true_and, Bool.and_false, Bool.false_and, Bool.or_true, Bool.true_or, Bool.or_false, Bool.false_or, Bool.and_eq_true, sel_true, sel_false, gP_bt, gP_bf, gP_st, gP_sf, gP_und, gpure_bt, gpure_bf, gpure_st, gpure_sf, gpure_und, gpure_sft, gpure_stf, gcall_sft, gcall_stf, gpure_tf, gpure_ft, gcall_bt, gcall_bf, gcall_st, gcall_sf, gcall_und, gcall_tf, gcall_ft, gcall_tt, gcall_ff, res1, res2, res0, rc1, rc2, ar_loadn, ar_load1, ae_store, ap_iad, ap_fad, fadV_ptr, ap_len, lenV_sl, lenV_nils, ap_pick, pickV_t, pickV_f, pickV_or, pickV_ors, pickV_orn, ar_call, pickV_and, pickV_ands, ap_not, notV_bool, ap_ext, extV_0, extV_1, ap_build, fillP_nil, fillP_cons, aa_bsl1, aa_box, boxV_dot, boxV_nd, fstep_nd, fstep_dot, Option.map_some, push_put, reserve0, reserve1_get, reserve1_get', reserve1_born, reserve1_born', sto_nd, sto_nd0, lod_nd, lod_nd_dot, lod_nd_par, lod1_nd_t, lod1_nd_x, lod_dot, lod1_dot_r, lod1_dot_c, sto_push_lt, lod_reserve, lod1_reserve, sto_nd_x, sto_nd_t, lt_lowed, cs_dec, cs_not, cs_and, cs_or, cs_valid, eq_self, kt_refl, kt_push, kt_lowed, lod_push_lt, lod1_push_lt, lod_lowed, lod1_lowed, lod_lowd, lod1_lowd, bin_lss, bin_leq, bin_gtr, bin_geq, bin_eql, bin_neq, bin_add, bin_sub, bin_eqb, bin_neb, bin_eqd, bin_neqd, bin_eqd0, bin_neqd0, bin_eqn, bin_neqn, List.map_cons, List.map_nil, Nat.add_zero, Nat.zero_add, Bool.not_true, Bool.not_eq_true', Bool.not_eq_false', Bool.and_eq_true, Bool.not_false, Bool.not_not, ne_eq, reduceCtorEq, not_false_eq_true, implies_true, true_and, and_true, ↓reduceIte, Nat.reduceEqDiff, Nat.reduceLT, Nat.reduceAdd, Nat.reduceMul, Nat.one_ne_zero, Nat.zero_ne_one, Nat.zero_mul, Nat.one_mul, lowed_next, lt_push, lt_push_same, same_self, same_push, same_lowed, same_lowed', decide_true, decide_false, Int.ofNat_lt, Int.ofNat_le, exists_const, ae_app, ap_slc, Option.map_none, mkR_none, mkR_some, ar_look, ae_mset, ae_rng, ae_mkmap0, ar_ent, lookV_push, lookV_lowed, msetV_push, msetV_lowed, lt_put, same_put, sto_over, sto_lowed, cs_dead, Option.map_some, beq_self_eq_true, decide_true, cs_true, cs_false]
    obtain ⟨I, hI⟩ : ∃ I : Nat → Env → St → Prop, ∀ n e t, I n e t = (Keep s t ∧ ∃ (i : Nat) (out : List Nd), n + i = m.length ∧ elen e = 47 ∧ E e 1 = w ∧ E e 6 = .int .i64 (i : Int) ∧ Own ndC s t (E e 5) out ∧ out.length ≤ l.length + i ∧ refJ out (m.drop i) = refJ l m) := ⟨fun n e t => (Keep s t ∧ ∃ (i : Nat) (out : List Nd), n + i = m.length ∧ elen e = 47 ∧ E e 1 = w ∧ E e 6 = .int .i64 (i : Int) ∧ Own ndC s t (E e 5) out ∧ out.length ≤ l.length + i ∧ refJ out (m.drop i) = refJ l m), fun _ _ _ => rfl⟩
    refine lwp_inv I (n := m.length) ?_ ?_
    · rw [hI]
      exact ⟨hK0, 0, l, by omega, by simp only [E_pne, E_psame, elen_put, Nat.reduceEqDiff, ne_eq, not_false_eq_true, Nat.reduceLT, hlen], by simp only [E_pne, E_psame, elen_put, Nat.reduceEqDiff, ne_eq, not_false_eq_true, Nat.reduceLT, h1], by simp only [E_pne, E_psame, elen_put, Nat.reduceEqDiff, ne_eq, not_false_eq_true, Nat.reduceLT, hlen]; rfl, by simp only [E_pne, E_psame, elen_put, Nat.reduceEqDiff, ne_eq, not_false_eq_true, Nat.reduceLT, hlen]; simpa using hO0, by omega, rfl⟩
    intro n e t hi
    rw [hI] at hi
    obtain ⟨hK, i, out, hn, he, e1, e6, hO, hol, hrj⟩ := hi
    by_cases hlt : i < m.length
    · obtain ⟨y, hy⟩ := getsome hlt
      have hw2 := wrap_add1 (n := i) (by omega)
      obtain ⟨a1, a2, _, _, _, al⟩ := nd_lods hw hK hy
      have i1 := nd_idx hw hy .i64
      have hdr : m.drop i = y :: m.drop (i + 1) := by
        rw [List.drop_eq_getElem_cons hlt]
        congr 1
        exact (List.getElem?_eq_some_iff.1 hy).2
      rw [hdr] at hrj
      have hrj : refJ (jstep out y) (m.drop (i + 1)) = refJ l m := hrj
      have hro := hO.read
      have qf := q_Find false hro (by unfold lim; omega) y.d
      rw [findL_look] at qf
      cases hf : lookN out y.d with
      | none =>
        rw [hf] at qf
        simp only at qf
        have hz : ((0 : Int) ≤ -1) = False := by decide
        have hj : jstep out y = putL out y := by unfold jstep; rw [hf]
        rw [hj] at hrj
        obtain ⟨u, t1, hc, hK1, hO1⟩ := acall_fresh (D := ndC) (p := pPut) (xs := [E e 5, .agg (Nd.av y)]) (s := t) (l := putL out y) (e := none) (by
          have e1 : read ndC { heap := t.heap, next := t.next, low := t.next } (E e 5) = some out := hro
          have e2 : ndC.dec (Nd.av y) = some y := rfl
          simp only [pPut, e1, e2, own_capNone hO]
          rw [if_pos ⟨by omega, trivial⟩]) (by simp)
        rw [mkR_none] at hc
        simp (config := {contextual := true, maxDischargeDepth := 12}) only [tb, e1, e6, he, hL, hM, hlt, hw2, a1, a2, al, i1, qf, hz, hc, E_pne, E_psame, elen_put, aev_t, aev_c, aev_f, pE_none, pstep_some, estep_some, gstep_tt, gstep_ff, gstep_tf, gstep_ft, gstep_und, ↓st_nil, ↓st_mv, ↓sg_mv, ↓st_pick, ↓sg_pick, ↓st_build, ↓sg_build, ↓st_bin, ↓sg_bin, ↓st_un, ↓sg_un, ↓st_conv, ↓sg_conv, ↓st_mkfn, ↓sg_mkfn, ↓st_slc, ↓sg_slc, ↓st_slcs, ↓sg_slcs, ↓st_fad, ↓sg_fad, ↓st_fld, ↓sg_fld, ↓st_iad, ↓sg_iad, ↓st_idxs, ↓sg_idxs, ↓st_ext, ↓sg_ext, ↓st_len, ↓sg_len, ↓st_lens, ↓sg_lens, ↓st_cap, ↓sg_cap, ↓st_mm, ↓sg_mm, ↓st_nchk, ↓sg_nchk, ↓st_load1, ↓sg_load1, ↓st_loadn, ↓sg_loadn, ↓st_b2s, ↓sg_b2s, ↓st_look, ↓sg_look, ↓st_lenm, ↓sg_lenm, ↓st_ent, ↓sg_ent, ↓st_calld, ↓sg_calld, ↓st_callvd, ↓sg_callvd, ↓st_call, ↓sg_call, ↓st_callv, ↓sg_callv, ↓st_store, ↓st_storef, ↓st_app, ↓st_appz, ↓st_copy, ↓st_mkmap, ↓st_mset, ↓st_mdel, ↓st_rng, ↓st_allo, ↓st_allor, ↓st_box, ↓st_boxr, ↓st_bsl, ↓st_bslr, ↓st_mksl, ↓st_mkslr, astep_some, bstep_some, ↓wp_regd, ↓wp_reg, ↓wp_skip, ↓wp_exit, ↓wp_ret, ↓wp_seq, ↓wp_block, ↓wp_cond, ↓wp_loop, cstep_true, cstep_false, rstep_true, noNxt_nil, noNxt_cons, isNx, forall_const, List.all_cons, List.all_nil, Bool.and_true, Bool.true_and, Bool.and_false, Bool.false_and, Bool.or_true, Bool.true_or, Bool.or_false, Bool.false_or, Bool.and_eq_true, sel_true, sel_false, gP_bt, gP_bf, gP_st, gP_sf, gP_und, gpure_bt, gpure_bf, gpure_st, gpure_sf, gpure_und, gpure_sft, gpure_stf, gcall_sft, gcall_stf, gpure_tf, gpure_ft, gcall_bt, gcall_bf, gcall_st, gcall_sf, gcall_und, gcall_tf, gcall_ft, gcall_tt, gcall_ff, res1, res2, res0, rc1, rc2, ar_loadn, ar_load1, ae_store, ap_iad, ap_fad, fadV_ptr, ap_len, lenV_sl, lenV_nils, ap_pick, pickV_t, pickV_f, pickV_or, pickV_ors, pickV_orn, ar_call, pickV_and, pickV_ands, ap_not, notV_bool, ap_ext, extV_0, extV_1, ap_build, fillP_nil, fillP_cons, aa_bsl1, aa_box, boxV_dot, boxV_nd, fstep_nd, fstep_dot, Option.map_some, push_put, reserve0, reserve1_get, reserve1_get', reserve1_born, reserve1_born', sto_nd, sto_nd0, lod_nd, lod_nd_dot, lod_nd_par, lod1_nd_t, lod1_nd_x, lod_dot, lod1_dot_r, lod1_dot_c, sto_push_lt, lod_reserve, lod1_reserve, sto_nd_x, sto_nd_t, lt_lowed, cs_dec, cs_not, cs_and, cs_or, cs_valid, eq_self, kt_refl, kt_push, kt_lowed, lod_push_lt, lod1_push_lt, lod_lowed, lod1_lowed, lod_lowd, lod1_lowd, bin_lss, bin_leq, bin_gtr, bin_geq, bin_eql, bin_neq, bin_add, bin_sub, bin_eqb, bin_neb, bin_eqd, bin_neqd, bin_eqd0, bin_neqd0, bin_eqn, bin_neqn, List.map_cons, List.map_nil, Nat.add_zero, Nat.zero_add, Bool.not_true, Bool.not_eq_true', Bool.not_eq_false', Bool.and_eq_true, Bool.not_false, Bool.not_not, ne_eq, reduceCtorEq, not_false_eq_true, implies_true, true_and, and_true, ↓reduceIte, Nat.reduceEqDiff, Nat.reduceLT, Nat.reduceAdd, Nat.reduceMul, Nat.one_ne_zero, Nat.zero_ne_one, Nat.zero_mul, Nat.one_mul, lowed_next, lt_push, lt_push_same, same_self, same_push, same_lowed, same_lowed', decide_true, decide_false, Int.ofNat_lt, Int.ofNat_le, exists_const, ae_app, ap_slc, Option.map_none, mkR_none, mkR_some, ar_look, ae_mset, ae_rng, ae_mkmap0, ar_ent, lookV_push, lookV_lowed, msetV_push, msetV_lowed, lt_put, same_put, sto_over, sto_lowed, cs_dead, Option.map_some, beq_self_eq_true, decide_true, cs_true, cs_false]
        refine ⟨n - 1, by omega, ?_⟩
        rw [hI]
        exact ⟨hK.trans hK1, i + 1, putL out y, by omega, by simp only [E_pne, E_psame, elen_put, Nat.reduceEqDiff, ne_eq, not_false_eq_true, Nat.reduceLT, he], by simp only [E_pne, E_psame, elen_put, Nat.reduceEqDiff, ne_eq, not_false_eq_true, Nat.reduceLT, e1], by simp only [E_pne, E_psame, elen_put, Nat.reduceEqDiff, ne_eq, not_false_eq_true, Nat.reduceLT, he], by simp only [E_pne, E_psame, elen_put, Nat.reduceEqDiff, ne_eq, not_false_eq_true, Nat.reduceLT, he]; exact hO1.from hK.next, by rw [putL_len]; omega, hrj⟩
      | some p =>
        obtain ⟨k, x⟩ := p
        obtain ⟨hx, hxd⟩ := lookN_some hf
        rw [hf] at qf
        simp only at qf
        have hz : ((0 : Int) ≤ (k : Int)) = True := eq_true (by omega)
        obtain ⟨b1, _, _, _, _, bl⟩ := nd_lods hro (.refl _) hx
        have i2 := nd_idx hro hx .i64
        have hj : jstep out y = out.set k (rmerge x y) := by unfold jstep; rw [hf]
        rw [hj] at hrj
        obtain ⟨b, hMg⟩ : ∃ b, refMergeV x y = .tup [.agg (Nd.av (rmerge x y)), .bool b] := by
          unfold refMergeV rmerge
          split
          · exact ⟨_, rfl⟩
          · exact ⟨_, rfl⟩
        obtain ⟨t1, hst, hK1, hO1⟩ := own_set hK hO (getlt hx) (rmerge x y)
        simp (config := {contextual := true, maxDischargeDepth := 12}) only [tb, q_RefMerge, e1, e6, he, hL, hM, hlt, hw2, a1, a2, al, i1, qf, hz, b1, bl, i2, hMg, hst, E_pne, E_psame, elen_put, aev_t, aev_c, aev_f, pE_none, pstep_some, estep_some, gstep_tt, gstep_ff, gstep_tf, gstep_ft, gstep_und, ↓st_nil, ↓st_mv, ↓sg_mv, ↓st_pick, ↓sg_pick, ↓st_build, ↓sg_build, ↓st_bin, ↓sg_bin, ↓st_un, ↓sg_un, ↓st_conv, ↓sg_conv, ↓st_mkfn, ↓sg_mkfn, ↓st_slc, ↓sg_slc, ↓st_slcs, ↓sg_slcs, ↓st_fad, ↓sg_fad, ↓st_fld, ↓sg_fld, ↓st_iad, ↓sg_iad, ↓st_idxs, ↓sg_idxs, ↓st_ext, ↓sg_ext, ↓st_len, ↓sg_len, ↓st_lens, ↓sg_lens, ↓st_cap, ↓sg_cap, ↓st_mm, ↓sg_mm, ↓st_nchk, ↓sg_nchk, ↓st_load1, ↓sg_load1, ↓st_loadn, ↓sg_loadn, ↓st_b2s, ↓sg_b2s, ↓st_look, ↓sg_look, ↓st_lenm, ↓sg_lenm, ↓st_ent, ↓sg_ent, ↓st_calld, ↓sg_calld, ↓st_callvd, ↓sg_callvd, ↓st_call, ↓sg_call, ↓st_callv, ↓sg_callv, ↓st_store, ↓st_storef, ↓st_app, ↓st_appz, ↓st_copy, ↓st_mkmap, ↓st_mset, ↓st_mdel, ↓st_rng, ↓st_allo, ↓st_allor, ↓st_box, ↓st_boxr, ↓st_bsl, ↓st_bslr, ↓st_mksl, ↓st_mkslr, astep_some, bstep_some, ↓wp_regd, ↓wp_reg, ↓wp_skip, ↓wp_exit, ↓wp_ret, ↓wp_seq, ↓wp_block, ↓wp_cond, ↓wp_loop, cstep_true, cstep_false, rstep_true, noNxt_nil, noNxt_cons, isNx, forall_const, List.all_cons, List.all_nil, Bool.and_true, Bool.true_and, Bool.and_false, Bool.false_and, Bool.or_true, Bool.true_or, Bool.or_false, Bool.false_or, Bool.and_eq_true, sel_true, sel_false, gP_bt, gP_bf, gP_st, gP_sf, gP_und, gpure_bt, gpure_bf, gpure_st, gpure_sf, gpure_und, gpure_sft, gpure_stf, gcall_sft, gcall_stf, gpure_tf, gpure_ft, gcall_bt, gcall_bf, gcall_st, gcall_sf, gcall_und, gcall_tf, gcall_ft, gcall_tt, gcall_ff, res1, res2, res0, rc1, rc2, ar_loadn, ar_load1, ae_store, ap_iad, ap_fad, fadV_ptr, ap_len, lenV_sl, lenV_nils, ap_pick, pickV_t, pickV_f, pickV_or, pickV_ors, pickV_orn, ar_call, pickV_and, pickV_ands, ap_not, notV_bool, ap_ext, extV_0, extV_1, ap_build, fillP_nil, fillP_cons, aa_bsl1, aa_box, boxV_dot, boxV_nd, fstep_nd, fstep_dot, Option.map_some, push_put, reserve0, reserve1_get, reserve1_get', reserve1_born, reserve1_born', sto_nd, sto_nd0, lod_nd, lod_nd_dot, lod_nd_par, lod1_nd_t, lod1_nd_x, lod_dot, lod1_dot_r, lod1_dot_c, sto_push_lt, lod_reserve, lod1_reserve, sto_nd_x, sto_nd_t, lt_lowed, cs_dec, cs_not, cs_and, cs_or, cs_valid, eq_self, kt_refl, kt_push, kt_lowed, lod_push_lt, lod1_push_lt, lod_lowed, lod1_lowed, lod_lowd, lod1_lowd, bin_lss, bin_leq, bin_gtr, bin_geq, bin_eql, bin_neq, bin_add, bin_sub, bin_eqb, bin_neb, bin_eqd, bin_neqd, bin_eqd0, bin_neqd0, bin_eqn, bin_neqn, List.map_cons, List.map_nil, Nat.add_zero, Nat.zero_add, Bool.not_true, Bool.not_eq_true', Bool.not_eq_false', Bool.and_eq_true, Bool.not_false, Bool.not_not, ne_eq, reduceCtorEq, not_false_eq_true, implies_true, true_and, and_true, ↓reduceIte, Nat.reduceEqDiff, Nat.reduceLT, Nat.reduceAdd, Nat.reduceMul, Nat.one_ne_zero, Nat.zero_ne_one, Nat.zero_mul, Nat.one_mul, lowed_next, lt_push, lt_push_same, same_self, same_push, same_lowed, same_lowed', decide_true, decide_false, Int.ofNat_lt, Int.ofNat_le, exists_const, ae_app, ap_slc, Option.map_none, mkR_none, mkR_some, ar_look, ae_mset, ae_rng, ae_mkmap0, ar_ent, lookV_push, lookV_lowed, msetV_push, msetV_lowed, lt_put, same_put, sto_over, sto_lowed, cs_dead, Option.map_some, beq_self_eq_true, decide_true, cs_true, cs_false]
        refine ⟨n - 1, by omega, ?_⟩
        rw [hI]
        exact ⟨hK1, i + 1, out.set k (rmerge x y), by omega, by simp only [E_pne, E_psame, elen_put, Nat.reduceEqDiff, ne_eq, not_false_eq_true, Nat.reduceLT, he], by simp only [E_pne, E_psame, elen_put, Nat.reduceEqDiff, ne_eq, not_false_eq_true, Nat.reduceLT, e1], by simp only [E_pne, E_psame, elen_put, Nat.reduceEqDiff, ne_eq, not_false_eq_true, Nat.reduceLT, he], by simp only [E_pne, E_psame, elen_put, Nat.reduceEqDiff, ne_eq, not_false_eq_true, Nat.reduceLT, he]; exact hO1, by simp; omega, hrj⟩
    · obtain rfl : i = m.length := by omega
      rw [List.drop_length] at hrj
      have hrj : out = refJ l m := hrj
      simp (config := {contextual := true, maxDischargeDepth := 12}) only [tb, e1, e6, he, hL, hM, hlt, E_pne, E_psame, elen_put, aev_t, aev_c, aev_f, pE_none, pstep_some, estep_some, gstep_tt, gstep_ff, gstep_tf, gstep_ft, gstep_und, ↓st_nil, ↓st_mv, ↓sg_mv, ↓st_pick, ↓sg_pick, ↓st_build, ↓sg_build, ↓st_bin, ↓sg_bin, ↓st_un, ↓sg_un, ↓st_conv, ↓sg_conv, ↓st_mkfn, ↓sg_mkfn, ↓st_slc, ↓sg_slc, ↓st_slcs, ↓sg_slcs, ↓st_fad, ↓sg_fad, ↓st_fld, ↓sg_fld, ↓st_iad, ↓sg_iad, ↓st_idxs, ↓sg_idxs, ↓st_ext, ↓sg_ext, ↓st_len, ↓sg_len, ↓st_lens, ↓sg_lens, ↓st_cap, ↓sg_cap, ↓st_mm, ↓sg_mm, ↓st_nchk, ↓sg_nchk, ↓st_load1, ↓sg_load1, ↓st_loadn, ↓sg_loadn, ↓st_b2s, ↓sg_b2s, ↓st_look, ↓sg_look, ↓st_lenm, ↓sg_lenm, ↓st_ent, ↓sg_ent, ↓st_calld, ↓sg_calld, ↓st_callvd, ↓sg_callvd, ↓st_call, ↓sg_call, ↓st_callv, ↓sg_callv, ↓st_store, ↓st_storef, ↓st_app, ↓st_appz, ↓st_copy, ↓st_mkmap, ↓st_mset, ↓st_mdel, ↓st_rng, ↓st_allo, ↓st_allor, ↓st_box, ↓st_boxr, ↓st_bsl, ↓st_bslr, ↓st_mksl, ↓st_mkslr, astep_some, bstep_some, ↓wp_regd, ↓wp_reg, ↓wp_skip, ↓wp_exit, ↓wp_ret, ↓wp_seq, ↓wp_block, ↓wp_cond, ↓wp_loop, cstep_true, cstep_false, rstep_true, noNxt_nil, noNxt_cons, isNx, forall_const, List.all_cons, List.all_nil, Bool.and_true, Bool.true_and, Bool.and_false, Bool.false_and, Bool.or_true, Bool.true_or, Bool.or_false, Bool.false_or, Bool.and_eq_true, sel_true, sel_false, gP_bt, gP_bf, gP_st, gP_sf, gP_und, gpure_bt, gpure_bf, gpure_st, gpure_sf, gpure_und, gpure_sft, gpure_stf, gcall_sft, gcall_stf, gpure_tf, gpure_ft, gcall_bt, gcall_bf, gcall_st, gcall_sf, gcall_und, gcall_tf, gcall_ft, gcall_tt, gcall_ff, res1, res2, res0, rc1, rc2, ar_loadn, ar_load1, ae_store, ap_iad, ap_fad, fadV_ptr, ap_len, lenV_sl, lenV_nils, ap_pick, pickV_t, pickV_f, pickV_or, pickV_ors, pickV_orn, ar_call, pickV_and, pickV_ands, ap_not, notV_bool, ap_ext, extV_0, extV_1, ap_build, fillP_nil, fillP_cons, aa_bsl1, aa_box, boxV_dot, boxV_nd, fstep_nd, fstep_dot, Option.map_some, push_put, reserve0, reserve1_get, reserve1_get', reserve1_born, reserve1_born', sto_nd, sto_nd0, lod_nd, lod_nd_dot, lod_nd_par, lod1_nd_t, lod1_nd_x, lod_dot, lod1_dot_r, lod1_dot_c, sto_push_lt, lod_reserve, lod1_reserve, sto_nd_x, sto_nd_t, lt_lowed, cs_dec, cs_not, cs_and, cs_or, cs_valid, eq_self, kt_refl, kt_push, kt_lowed, lod_push_lt, lod1_push_lt, lod_lowed, lod1_lowed, lod_lowd, lod1_lowd, bin_lss, bin_leq, bin_gtr, bin_geq, bin_eql, bin_neq, bin_add, bin_sub, bin_eqb, bin_neb, bin_eqd, bin_neqd, bin_eqd0, bin_neqd0, bin_eqn, bin_neqn, List.map_cons, List.map_nil, Nat.add_zero, Nat.zero_add, Bool.not_true, Bool.not_eq_true', Bool.not_eq_false', Bool.and_eq_true, Bool.not_false, Bool.not_not, ne_eq, reduceCtorEq, not_false_eq_true, implies_true, true_and, and_true, ↓reduceIte, Nat.reduceEqDiff, Nat.reduceLT, Nat.reduceAdd, Nat.reduceMul, Nat.one_ne_zero, Nat.zero_ne_one, Nat.zero_mul, Nat.one_mul, lowed_next, lt_push, lt_push_same, same_self, same_push, same_lowed, same_lowed', decide_true, decide_false, Int.ofNat_lt, Int.ofNat_le, exists_const, ae_app, ap_slc, Option.map_none, mkR_none, mkR_some, ar_look, ae_mset, ae_rng, ae_mkmap0, ar_ent, lookV_push, lookV_lowed, msetV_push, msetV_lowed, lt_put, same_put, sto_over, sto_lowed, cs_dead, Option.map_some, beq_self_eq_true, decide_true, cs_true, cs_false]
      exact ⟨hK, _, rfl, by rw [← hrj]; exact hO⟩

end Go.AM
