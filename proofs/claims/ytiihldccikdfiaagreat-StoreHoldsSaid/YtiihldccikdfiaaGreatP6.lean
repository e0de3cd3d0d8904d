/-
  StoreHolds. Own work of this project; in part printed by a program of it.
-/
import Derived.Test.YtiihldccikdfiaaGreatP5
section
set_option linter.unusedVariables false
set_option linter.unusedSimpArgs false
set_option maxRecDepth 100000
set_option maxHeartbeats 8000000
namespace Go.AM
open Go Go.Proofs

variable {s t u : St}

theorem awp_tail5 {call : Nat → List AV → St → Option (AV × St)} {A B C D E X : AC} {Q : AEx → Env → St → Prop} {env : Env} (M : Env → St → Prop) (h : ∀ e t, M e t → awp call X Q e t) (k : ∀ Y, (∀ e t, M e t → awp call Y Q e t) → awp call (.seq A (.seq B (.seq C (.seq D (.seq E Y))))) Q env s) : awp call (.seq A (.seq B (.seq C (.seq D (.seq E X))))) Q env s := k X h
theorem killS_err {l : List Nd} {ds : List Dot} (h : (killS l ds).2 ≠ 0) : (killS l ds).1 = [] := by
  unfold killS at h ⊢
  split
  · rename_i hc
    rw [if_pos hc] at h
    unfold killP at h ⊢
    split
    · rename_i hh
      rw [if_pos hh] at h
      exact absurd rfl h
    · rfl
  · rfl
theorem killS_fine {l : List Nd} {ds : List Dot} (h : (killS l ds).2 = 0) : killS l ds = (killL l ds, 0) ∧ ds.all Dot.valid = true ∧ ds.all (hasN l) = true := by
  unfold killS at h ⊢
  split
  · rename_i hc
    rw [if_pos hc] at h
    unfold killP at h ⊢
    split
    · rename_i hh
      exact ⟨rfl, hc.2, hh⟩
    · rename_i hh
      rw [if_neg hh] at h
      cases h
  · rename_i hc
    rw [if_neg hc] at h
    cases h
theorem sto_nbox {n : Nat} {s : St} (h : sameN n s) (x : Nd) : sto (s.push (.row (Nd.av x) true)) 1 (.ptr n 5) (.int .i32 0) = some (.und, s.lowed.push (.row (Nd.av (kill1 x)) true)) := by
  unfold sameN at h
  subst h
  simp [sto, St.get_push_new, push_put, AV.cells, AV.one, setAt, Nd.av, kill1]
theorem s_StoreHolds : SoundAt Tryz.prog 8 (lawC Tryz.prog 8 [22, 26, 39]) :=
  con_keep (tb_sound (l := [(9, closed [] (.bool true)), (31, conL ndC fValid), (35, R_made), (30, R_SPut), (36, R_SFind), (15, R_puts), (37, R_SKill), (38, R_SDead), (39, R_CMiss), (40, R_RHas)]) (by simpa using ⟨s_known, s_StValid, s_made, s_SPut, s_SFind, s_puts, s_SKill, s_SDead, s_CMiss, s_RHas⟩)) mixed Tryz.func8 k8 c8 fun args s r s' h => by
    obtain ⟨hh, rfl, rfl⟩ := lawC_some h
    obtain ⟨vl, w0, vd, rfl, hv0, hw0, hu0⟩ := rdas_3 hh
    obtain ⟨l, hr, ho, hc⟩ := rda_nodes hv0
    obtain ⟨nn, rfl, hx⟩ := rda_node hw0
    obtain ⟨ds, hrd⟩ := rda_dots hu0
    refine ⟨rfl, rfl, by simp [a8], fun env hlen ha => ?_⟩
    have h0 : E env 0 = _ := ha 0 _ rfl
    have h1 : E env 1 = _ := ha 1 _ rfl
    have h2 : E env 2 = _ := ha 2 _ rfl
    have hlen : elen env = _ := hlen
    simp only [a8] at hlen
    unfold a8
    try dsimp only [oO, oG]
    have hL := lenV_read hr
    have hLd := lenV_read hrd
    have hKs : Keep s (s.push (.row (Nd.av nn) true)) := (Keep.refl s).push _
    have hbx : boxV 6 (.agg (Nd.av nn)) = some (fun id => .ptr id 0, .row (Nd.av nn) true) := by simp [boxV, AV.cells, AV.one, Nd.av]
    by_cases hlz : 60 < l.length
    · have hz := eq_true (show (60 : Int) < (l.length : Int) by omega)
      simp (config := {contextual := true, maxDischargeDepth := 12}) only [tb_at, h0, h1, h2, hlen, hbx, hL, hz, ↓bD, bU, forall_const, bS, implies_true, isNx, eq_self, ↓wp_cond, ↓wp_loop, ↓reduceIte, reduceCtorEq, Nat.reduceEqDiff, Nat.reduceLT, Nat.reduceAdd, Nat.reduceMul, bT, ↓sg_bsl, ↓st_callf, bX, List.cons_append, List.nil_append, ↓st_appf, bY, slcV_nils0N, slcV_sl0N, bslV_0N, bin_shr1, bsl_nd, q_known]
      all_goals first | exact hKs | skip
    have hz := eq_false (show ¬ (60 : Int) < (l.length : Int) by omega)
    by_cases hld : 40 < ds.length
    · have hz2 := eq_true (show (40 : Int) < (ds.length : Int) by omega)
      simp (config := {contextual := true, maxDischargeDepth := 12}) only [tb_at, h0, h1, h2, hlen, hbx, hL, hLd, hz, hz2, ↓bD, bU, forall_const, bS, implies_true, isNx, eq_self, ↓wp_cond, ↓wp_loop, ↓reduceIte, reduceCtorEq, Nat.reduceEqDiff, Nat.reduceLT, Nat.reduceAdd, Nat.reduceMul, bT, ↓sg_bsl, ↓st_callf, bX, List.cons_append, List.nil_append, ↓st_appf, bY, slcV_nils0N, slcV_sl0N, bslV_0N, bin_shr1, bsl_nd, q_known]
      all_goals first | exact hKs | skip
    have hz2 := eq_false (show ¬ (40 : Int) < (ds.length : Int) by omega)
    have hlm : l.length ≤ lim := by unfold lim; omega
    have hdm : ds.length ≤ lim := by unfold lim; omega
    have hl2 : l.length ≤ 200000 := by omega
    have hr2 := hKs.read hr
    have qv := q_StValid false hr2 hlm
    cases hst : storeL l
    · rw [hst] at qv
      simp (config := {contextual := true, maxDischargeDepth := 12}) only [tb_at, h0, h1, h2, hlen, hbx, hL, hLd, hz, hz2, qv, notV_bool, Bool.not_false, ↓bD, bU, forall_const, bS, implies_true, isNx, eq_self, ↓wp_cond, ↓wp_loop, ↓reduceIte, reduceCtorEq, Nat.reduceEqDiff, Nat.reduceLT, Nat.reduceAdd, Nat.reduceMul, bT, ↓sg_bsl, ↓st_callf, bX, List.cons_append, List.nil_append, ↓st_appf, bY, slcV_nils0N, slcV_sl0N, bslV_0N, bin_shr1, bsl_nd, q_known]
      all_goals first | exact hKs | skip
    rw [hst] at qv
    have qm := q_made false hr2 hl2 hr2 hlm 0
    rw [of_self hst, decide_eq_true rfl, decide_eq_true rfl] at qm
    obtain ⟨bn1, bn2, bn3, bn4, bn5, bn6⟩ := box_nd s nn (.refl _)
    obtain ⟨w, t1, qp, hO1, hK1⟩ := q_SPut hr2 hl2 nn
    obtain ⟨cn1, cn2, cn3, cn4, cn5, cn6⟩ := box_nd s nn hK1
    have hKt1 := hKs.trans hK1
    refine awp_tail5 (fun e t => Keep s t ∧ elen e = 162 ∧ E e 0 = vl ∧ E e 2 = vd) ?_ ?_
    rotate_left
    · intro Y hY
      by_cases he : (putP l nn).2 = 0
      · obtain ⟨hsx, hdv, hpp, hlx, now, hfx, hnw, hwas⟩ := put_facts hst he
        rw [he] at qp
        have h00 : ((0 : Int) = 0) = True := eq_true rfl
        have f1 := q_SFind false (hKt1.read hr) hlm nn.d
        generalize hX : (putP l nn).1 = x at *
        have hLx := lenV_read hO1.read
        have hxm : x.length ≤ lim := by unfold lim; omega
        rcases hwas with ⟨was, hfl, hww, hlq⟩ | ⟨hfl, hlq⟩
        · rw [hfl] at f1
          have hK2 : Keep t1 (t1.push (.row (Nd.av was) true)) := (Keep.refl t1).push _
          have hK2l : Keep t1 (t1.lowed.push (.row (Nd.av was) true)) := (Keep.refl t1).lowed.push _
          have f2 := q_SFind false (hK2l.read hO1.read) hxm nn.d
          rw [hfx] at f2
          have hK3 : Keep t1 ((t1.lowed.push (.row (Nd.av was) true)).lowed.push (.row (Nd.av now) true)) := hK2l.lowed.push _
          have hK3b : Keep (t1.lowed.push (.row (Nd.av was) true)) ((t1.lowed.push (.row (Nd.av was) true)).lowed.push (.row (Nd.av now) true)) := (Keep.refl _).lowed.push _
          have hKt3 := hKt1.trans hK3
          obtain ⟨dn1, dn2, dn3, dn4, dn5, dn6⟩ := box_nd s nn (hK1.trans hK2l)
          obtain ⟨en1, en2, en3, en4, en5, en6⟩ := box_nd s nn (hK1.trans hK3)
          obtain ⟨wn1, wn2, wn3, wn4, wn5, wn6⟩ := box_nd t1.lowed was hK3b
          obtain ⟨xn1, xn2, xn3, xn4, xn5, xn6⟩ := box_nd (t1.lowed.push (.row (Nd.av was) true)).lowed now (.refl _)
          have qx := q_StValid false (hK3.read hO1.read) hxm
          rw [hsx] at qx
          have qq := q_puts false (hK3.read hO1.read) (by omega) nn (hK3.read hO1.read) hxm 0
          rw [hpp, decide_eq_true rfl, decide_eq_true rfl] at qq
          have hlq2 := eq_true (show (x.length : Int) = (l.length : Int) by omega)
          by_cases hx0 : now.x = 0
          · have hxz := eq_true hx0
            simp (config := {contextual := true, maxDischargeDepth := 12}) only [tb_at, h0, h1, h2, hlen, hbx, hL, hLd, hz, hz2, qv, qm, notV_bool, Bool.not_true, Bool.not_false, bin_eqE, decide_true, decide_false, bn1, bn2, bn6, cn1, cn2, cn6, dn1, dn2, dn5, dn6, en1, en2, en5, en6, wn5, wn6, xn5, xn6, qp, f1, f2, qx, qq, hL, hLx, h00, hlq2, hxz, ↓bD, bU, forall_const, bS, implies_true, isNx, eq_self, ↓wp_cond, ↓wp_loop, ↓reduceIte, reduceCtorEq, Nat.reduceEqDiff, Nat.reduceLT, Nat.reduceAdd, Nat.reduceMul, bT, ↓sg_bsl, ↓st_callf, bX, List.cons_append, List.nil_append, ↓st_appf, bY, slcV_nils0N, slcV_sl0N, bslV_0N, bin_shr1, bsl_nd, q_known]
            all_goals first | (refine awp_mono _ (fun x e t q => ?_) (hY _ _ ⟨hKt3, ?_, ?_, ?_⟩) <;> (first | (simpa [aresults, aresult, E] using q) | (simp only [bE, Nat.reduceEqDiff, bN, Nat.reduceLT, hlen, h0, h2]; try rfl) | skip)) | skip
          · have hxz := eq_false hx0
            have hnz := eq_false (hnw hx0)
            have hwz := eq_false (hww hx0)
            simp (config := {contextual := true, maxDischargeDepth := 12}) only [tb_at, h0, h1, h2, hlen, hbx, hL, hLd, hz, hz2, qv, qm, notV_bool, Bool.not_true, Bool.not_false, bin_eqE, decide_true, decide_false, bn1, bn2, bn6, cn1, cn2, cn6, dn1, dn2, dn5, dn6, en1, en2, en5, en6, wn5, wn6, xn5, xn6, qp, f1, f2, qx, qq, hL, hLx, h00, hlq2, hxz, hnz, hwz, ↓bD, bU, forall_const, bS, implies_true, isNx, eq_self, ↓wp_cond, ↓wp_loop, ↓reduceIte, reduceCtorEq, Nat.reduceEqDiff, Nat.reduceLT, Nat.reduceAdd, Nat.reduceMul, bT, ↓sg_bsl, ↓st_callf, bX, List.cons_append, List.nil_append, ↓st_appf, bY, slcV_nils0N, slcV_sl0N, bslV_0N, bin_shr1, bsl_nd, q_known]
            all_goals first | (refine awp_mono _ (fun x e t q => ?_) (hY _ _ ⟨hKt3, ?_, ?_, ?_⟩) <;> (first | (simpa [aresults, aresult, E] using q) | (simp only [bE, Nat.reduceEqDiff, bN, Nat.reduceLT, hlen, h0, h2]; try rfl) | skip)) | skip
        · rw [hfl] at f1
          have hK2 : Keep t1 (t1.push (.row (Nd.av nd0) true)) := (Keep.refl t1).push _
          have hK2l : Keep t1 (t1.lowed.push (.row (Nd.av nd0) true)) := (Keep.refl t1).lowed.push _
          have f2 := q_SFind false (hK2l.read hO1.read) hxm nn.d
          rw [hfx] at f2
          have hK3 : Keep t1 ((t1.lowed.push (.row (Nd.av nd0) true)).lowed.push (.row (Nd.av now) true)) := hK2l.lowed.push _
          have hK3b : Keep (t1.lowed.push (.row (Nd.av nd0) true)) ((t1.lowed.push (.row (Nd.av nd0) true)).lowed.push (.row (Nd.av now) true)) := (Keep.refl _).lowed.push _
          have hKt3 := hKt1.trans hK3
          obtain ⟨dn1, dn2, dn3, dn4, dn5, dn6⟩ := box_nd s nn (hK1.trans hK2l)
          obtain ⟨en1, en2, en3, en4, en5, en6⟩ := box_nd s nn (hK1.trans hK3)
          obtain ⟨wn1, wn2, wn3, wn4, wn5, wn6⟩ := box_nd t1.lowed nd0 hK3b
          obtain ⟨xn1, xn2, xn3, xn4, xn5, xn6⟩ := box_nd (t1.lowed.push (.row (Nd.av nd0) true)).lowed now (.refl _)
          have qx := q_StValid false (hK3.read hO1.read) hxm
          rw [hsx] at qx
          have qq := q_puts false (hK3.read hO1.read) (by omega) nn (hK3.read hO1.read) hxm 0
          rw [hpp, decide_eq_true rfl, decide_eq_true rfl] at qq
          have hlq2 := eq_false (show ¬ (x.length : Int) = (l.length : Int) by omega)
          have h90 : ((9 : Int) = 0) = False := eq_false (by decide)
          by_cases hx0 : now.x = 0
          · have hxz := eq_true hx0
            simp (config := {contextual := true, maxDischargeDepth := 12}) only [tb_at, h0, h1, h2, hlen, hbx, hL, hLd, hz, hz2, qv, qm, notV_bool, Bool.not_true, Bool.not_false, bin_eqE, decide_true, decide_false, bn1, bn2, bn6, cn1, cn2, cn6, dn1, dn2, dn5, dn6, en1, en2, en5, en6, wn5, wn6, xn5, xn6, qp, f1, f2, qx, qq, hL, hLx, h00, h90, hlq2, hxz, ↓bD, bU, forall_const, bS, implies_true, isNx, eq_self, ↓wp_cond, ↓wp_loop, ↓reduceIte, reduceCtorEq, Nat.reduceEqDiff, Nat.reduceLT, Nat.reduceAdd, Nat.reduceMul, bT, ↓sg_bsl, ↓st_callf, bX, List.cons_append, List.nil_append, ↓st_appf, bY, slcV_nils0N, slcV_sl0N, bslV_0N, bin_shr1, bsl_nd, q_known]
            all_goals first | (refine awp_mono _ (fun x e t q => ?_) (hY _ _ ⟨hKt3, ?_, ?_, ?_⟩) <;> (first | (simpa [aresults, aresult, E] using q) | (simp only [bE, Nat.reduceEqDiff, bN, Nat.reduceLT, hlen, h0, h2]; try rfl) | skip)) | skip
          · have hxz := eq_false hx0
            have hnz := eq_false (hnw hx0)
            simp (config := {contextual := true, maxDischargeDepth := 12}) only [tb_at, h0, h1, h2, hlen, hbx, hL, hLd, hz, hz2, qv, qm, notV_bool, Bool.not_true, Bool.not_false, bin_eqE, decide_true, decide_false, bn1, bn2, bn6, cn1, cn2, cn6, dn1, dn2, dn5, dn6, en1, en2, en5, en6, wn5, wn6, xn5, xn6, qp, f1, f2, qx, qq, hL, hLx, h00, h90, hlq2, hxz, hnz, ↓bD, bU, forall_const, bS, implies_true, isNx, eq_self, ↓wp_cond, ↓wp_loop, ↓reduceIte, reduceCtorEq, Nat.reduceEqDiff, Nat.reduceLT, Nat.reduceAdd, Nat.reduceMul, bT, ↓sg_bsl, ↓st_callf, bX, List.cons_append, List.nil_append, ↓st_appf, bY, slcV_nils0N, slcV_sl0N, bslV_0N, bin_shr1, bsl_nd, q_known]
            all_goals first | (refine awp_mono _ (fun x e t q => ?_) (hY _ _ ⟨hKt3, ?_, ?_, ?_⟩) <;> (first | (simpa [aresults, aresult, E] using q) | (simp only [bE, Nat.reduceEqDiff, bN, Nat.reduceLT, hlen, h0, h2]; try rfl) | skip)) | skip
      · have hez := eq_false he
        simp (config := {contextual := true, maxDischargeDepth := 12}) only [tb_at, h0, h1, h2, hlen, hbx, hL, hLd, hz, hz2, qv, qm, bn1, bn6, qp, hez, notV_bool, Bool.not_true, Bool.not_false, ↓bD, bU, forall_const, bS, implies_true, isNx, eq_self, ↓wp_cond, ↓wp_loop, ↓reduceIte, reduceCtorEq, Nat.reduceEqDiff, Nat.reduceLT, Nat.reduceAdd, Nat.reduceMul, bT, ↓sg_bsl, ↓st_callf, bX, List.cons_append, List.nil_append, ↓st_appf, bY, slcV_nils0N, slcV_sl0N, bslV_0N, bin_shr1, bsl_nd, q_known]
        all_goals first | (refine awp_mono _ (fun x e t q => ?_) (hY _ _ ⟨hKt1, ?_, ?_, ?_⟩) <;> (first | (simpa [aresults, aresult, E] using q) | (simp only [bE, Nat.reduceEqDiff, bN, Nat.reduceLT, hlen, h0, h2]; try rfl) | skip)) | skip
    clear h0 h1 h2 hlen ha qv qm bn1 bn2 bn3 bn4 bn5 bn6 qp cn1 cn2 cn3 cn4 cn5 cn6 hO1 hK1 hKt1
    rintro e t ⟨hK, he, e0, e2⟩
    obtain ⟨y, t2, qk, hN, hKk⟩ := q_SKill (hK.read hr) hl2 (hK.read hrd) (by omega)
    have hKt2 := hK.trans hKk
    by_cases hk0 : (killS l ds).2 = 0
    rotate_left
    · have hkz := eq_false hk0
      have hLy := lenV_read hN.read
      rw [killS_err hk0] at hLy
      have hLy : lenV y = some (.int .i64 0) := hLy
      have h00 : ((0 : Int) = 0) = True := eq_true rfl
      simp (config := {contextual := true, maxDischargeDepth := 12}) only [tb_at, e0, e2, he, qk, hkz, hLy, h00, bin_eqE, decide_true, ↓bD, bU, forall_const, bS, implies_true, isNx, eq_self, ↓wp_cond, ↓wp_loop, ↓reduceIte, reduceCtorEq, Nat.reduceEqDiff, Nat.reduceLT, Nat.reduceAdd, Nat.reduceMul, bT, ↓sg_bsl, ↓st_callf, bX, List.cons_append, List.nil_append, ↓st_appf, bY, slcV_nils0N, slcV_sl0N, bslV_0N, bin_shr1, bsl_nd, q_known]
      all_goals first | exact hKt2 | skip
    obtain ⟨hke, hdv, hds⟩ := killS_fine hk0
    rw [hke] at qk hN
    have hN : NewX ndC t t2 y (killL l ds) := hN
    have qk : acall R_SKill false [vl, vd] t = some (.tup [y, .int .i64 0], t2) := qk
    have hsy := killL_store hst ds
    have hly := killL_len l ds
    have hLy := lenV_read hN.read
    rw [hly] at hLy
    have h00 : ((0 : Int) = 0) = True := eq_true rfl
    obtain ⟨vv, cc, t3, qd, hR3, hK3⟩ := q_SDead hN.read (by omega) hsy
    have hlc := add_len ⟨[], []⟩ ((deadL (killL l ds)).map Nd.d)
    have hdl : (deadL (killL l ds)).length ≤ 60 := Nat.le_trans (List.length_filter_le _ _) (by omega)
    simp only [List.length_nil, Nat.zero_add, List.length_map] at hlc
    have hst2 := sto_ctx (show sameN t3.next t3 from rfl) (read_oneD hR3.1).2 (read_oneD hR3.2).2
    have hK4 : Keep t3 (t3.lowed.push (.row [vv, cc] true)) := (Keep.refl t3).lowed.push _
    have hKt4 := hKt2.trans (hK3.trans hK4)
    have hR4 := hR3.keep hK4
    have qy := q_StValid false ((hK3.trans hK4).read hN.read) (by unfold lim; omega)
    rw [hsy] at qy
    obtain ⟨w3, t4, qc, hN3, hK5⟩ := q_CMiss hR4.1 hR4.2 (by unfold lim; omega) (by unfold lim; omega) (hKt4.read hrd) hdm
    rw [kill_dead hst hds hdv] at hN3
    have hL3 : lenV w3 = some (.int .i64 0) := lenV_read hN3.read
    have hg3 := St.get_push_new t3.lowed (.row [vv, cc] true)
    have d1 := lod_row2 hg3
    have d2 : ltN t3.lowed.next (t3.lowed.push (.row [vv, cc] true)) := St.get_lt hg3
    have hKt5 := hKt4.trans hK5
    have hry : AM.read ndC t4 y = some (killL l ds) := ((hK3.trans hK4).trans hK5).read hN.read
    have hbne : ((l.length : Int) = (l.length : Int)) = True := eq_true rfl
    simp (config := {contextual := true, maxDischargeDepth := 12}) only [tb_at, e0, e2, he, qk, h00, hLy, hL, qd, hst2, qy, qc, d1, d2, hL3, hbne, notV_bool, Bool.not_true, Bool.not_false, decide_true, decide_false, ↓bD, bU, forall_const, bS, implies_true, isNx, eq_self, ↓wp_cond, ↓wp_loop, ↓reduceIte, reduceCtorEq, Nat.reduceEqDiff, Nat.reduceLT, Nat.reduceAdd, Nat.reduceMul, bT, ↓sg_bsl, ↓st_callf, bX, List.cons_append, List.nil_append, ↓st_appf, bY, slcV_nils0N, slcV_sl0N, bslV_0N, bin_shr1, bsl_nd, q_known]
    obtain ⟨I, hI⟩ : ∃ I : Nat → Env → St → Prop, ∀ n e t, I n e t = (Keep t4 t ∧ ∃ i : Nat, n + i = l.length ∧ elen e = 162 ∧ E e 0 = vl ∧ E e 2 = vd ∧ E e 13 = y ∧ E e 141 = .int .i64 (l.length : Int) ∧ E e 142 = .int .i64 (i : Int)) := ⟨fun n e t => (Keep t4 t ∧ ∃ i : Nat, n + i = l.length ∧ elen e = 162 ∧ E e 0 = vl ∧ E e 2 = vd ∧ E e 13 = y ∧ E e 141 = .int .i64 (l.length : Int) ∧ E e 142 = .int .i64 (i : Int)), fun _ _ _ => rfl⟩
    refine lwp_inv I (n := l.length) ?_ ?_
    · rw [hI]
      exact ⟨.refl _, 0, by omega, (by simp only [bE, Nat.reduceEqDiff, bN, Nat.reduceLT, he]; try rfl), (by simp only [bE, Nat.reduceEqDiff, bN, Nat.reduceLT, he, e0]; try rfl), (by simp only [bE, Nat.reduceEqDiff, bN, Nat.reduceLT, he, e2]; try rfl), (by simp only [bE, Nat.reduceEqDiff, bN, Nat.reduceLT, he]; try rfl), (by simp only [bE, Nat.reduceEqDiff, bN, Nat.reduceLT, he, hLy]; try rfl), (by simp only [bE, Nat.reduceEqDiff, bN, Nat.reduceLT, he]; try rfl)⟩
    clear he e0 e2 qk
    intro n e t hi
    rw [hI] at hi
    obtain ⟨hK, i, hni, he, e0, e2, e13, e141, e142⟩ := hi
    by_cases hlt : i < l.length
    · obtain ⟨x, hx⟩ := getsome hlt
      have hw2 := wrap_add1 (n := i) (by omega)
      have hKn := hKt5.trans hK
      obtain ⟨a1, a2, a3, a5, a6, a4⟩ := nd_lods hr hKn hx
      have i1 := nd_idx hr hx .i64
      have hKx : Keep t (t.lowed.push (.row (Nd.av x) true)) := (Keep.refl t).lowed.push _
      obtain ⟨bx1, bx2, bx3, bx4, bx5, bx6⟩ := box_nd t.lowed x (.refl _)
      have qh := q_RHas false ((hKn.trans hKx).read hrd) hdm x.d
      have hyx : (killL l ds)[i]? = some (if x.d ∈ ds then kill1 x else x) := by rw [killL_at, hx]; rfl
      have i2 := nd_idx hry hyx .i64
      by_cases hin : x.d ∈ ds
      · have hiz := eq_true hin
        rw [if_pos hin] at hyx
        have st1 := sto_nbox (show sameN t.lowed.next t.lowed from rfl) x
        rw [show kill1 x = (⟨x.d, x.p, x.t, 0⟩ : Nd) from rfl] at hyx st1
        obtain ⟨c1, c2, c3, c5, c6, c4⟩ := nd_lods hry ((hK.lowed).lowed.push (.row (Nd.av (⟨x.d, x.p, x.t, 0⟩ : Nd)) true)) hyx
        obtain ⟨kx1, kx2, kx3, kx4, kx5, kx6⟩ := box_nd t.lowed.lowed (⟨x.d, x.p, x.t, 0⟩ : Nd) (.refl _)
        have hnn : decide ((⟨x.d, x.p, x.t, 0⟩ : Nd) = (⟨x.d, x.p, x.t, 0⟩ : Nd)) = true := decide_eq_true rfl
        simp (config := {contextual := true, maxDischargeDepth := 12}) only [tb_at, he, e0, e2, e13, e141, e142, hlt, hw2, a1, a4, i1, bx1, bx2, bx6, qh, hiz, st1, c1, c4, i2, kx1, kx6, bin_neqn, hnn, Bool.not_true, decide_true, ↓bD, bU, forall_const, bS, implies_true, isNx, eq_self, ↓wp_cond, ↓wp_loop, ↓reduceIte, reduceCtorEq, Nat.reduceEqDiff, Nat.reduceLT, Nat.reduceAdd, Nat.reduceMul, bT, ↓sg_bsl, ↓st_callf, bX, List.cons_append, List.nil_append, ↓st_appf, bY, slcV_nils0N, slcV_sl0N, bslV_0N, bin_shr1, bsl_nd, q_known]
        refine ⟨n - 1, by omega, ?_⟩
        rw [hI]
        exact ⟨(hK.lowed).lowed.push _, i + 1, by omega, (by simp only [bE, Nat.reduceEqDiff, bN, Nat.reduceLT, he, e0, e2, e13, e141, e142]; try rfl), (by simp only [bE, Nat.reduceEqDiff, bN, Nat.reduceLT, he, e0, e2, e13, e141, e142]; try rfl), (by simp only [bE, Nat.reduceEqDiff, bN, Nat.reduceLT, he, e0, e2, e13, e141, e142]; try rfl), (by simp only [bE, Nat.reduceEqDiff, bN, Nat.reduceLT, he, e0, e2, e13, e141, e142]; try rfl), (by simp only [bE, Nat.reduceEqDiff, bN, Nat.reduceLT, he, e0, e2, e13, e141, e142]; try rfl), (by simp only [bE, Nat.reduceEqDiff, bN, Nat.reduceLT, he, e0, e2, e13, e141, e142]; try rfl)⟩
      · have hiz := eq_false hin
        rw [if_neg hin] at hyx
        obtain ⟨c1, c2, c3, c5, c6, c4⟩ := nd_lods hry ((hK.lowed).push (.row (Nd.av x) true)) hyx
        have hnn : decide (x = x) = true := decide_eq_true rfl
        simp (config := {contextual := true, maxDischargeDepth := 12}) only [tb_at, he, e0, e2, e13, e141, e142, hlt, hw2, a1, a4, i1, bx1, bx2, bx6, qh, hiz, c1, c4, i2, bin_neqn, hnn, Bool.not_true, decide_false, ↓bD, bU, forall_const, bS, implies_true, isNx, eq_self, ↓wp_cond, ↓wp_loop, ↓reduceIte, reduceCtorEq, Nat.reduceEqDiff, Nat.reduceLT, Nat.reduceAdd, Nat.reduceMul, bT, ↓sg_bsl, ↓st_callf, bX, List.cons_append, List.nil_append, ↓st_appf, bY, slcV_nils0N, slcV_sl0N, bslV_0N, bin_shr1, bsl_nd, q_known]
        refine ⟨n - 1, by omega, ?_⟩
        rw [hI]
        exact ⟨(hK.lowed).push _, i + 1, by omega, (by simp only [bE, Nat.reduceEqDiff, bN, Nat.reduceLT, he, e0, e2, e13, e141, e142]; try rfl), (by simp only [bE, Nat.reduceEqDiff, bN, Nat.reduceLT, he, e0, e2, e13, e141, e142]; try rfl), (by simp only [bE, Nat.reduceEqDiff, bN, Nat.reduceLT, he, e0, e2, e13, e141, e142]; try rfl), (by simp only [bE, Nat.reduceEqDiff, bN, Nat.reduceLT, he, e0, e2, e13, e141, e142]; try rfl), (by simp only [bE, Nat.reduceEqDiff, bN, Nat.reduceLT, he, e0, e2, e13, e141, e142]; try rfl), (by simp only [bE, Nat.reduceEqDiff, bN, Nat.reduceLT, he, e0, e2, e13, e141, e142]; try rfl)⟩
    · obtain rfl : i = l.length := by omega
      simp (config := {contextual := true, maxDischargeDepth := 12}) only [tb_at, he, e0, e2, e13, e141, e142, hlt, ↓bD, bU, forall_const, bS, implies_true, isNx, eq_self, ↓wp_cond, ↓wp_loop, ↓reduceIte, reduceCtorEq, Nat.reduceEqDiff, Nat.reduceLT, Nat.reduceAdd, Nat.reduceMul, bT, ↓sg_bsl, ↓st_callf, bX, List.cons_append, List.nil_append, ↓st_appf, bY, slcV_nils0N, slcV_sl0N, bslV_0N, bin_shr1, bsl_nd, q_known]
      all_goals first | exact hKt5.trans hK | skip

end Go.AM
end
