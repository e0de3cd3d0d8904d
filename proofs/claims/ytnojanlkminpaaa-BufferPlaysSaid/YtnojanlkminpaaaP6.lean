/-
  BufferPlays in the abstract machine. Own work of this project; in part printed by a program of it.
-/
import Derived.Test.YtnojanlkminpaaaP5
section
set_option linter.unusedVariables false
set_option linter.unusedSimpArgs false
set_option maxRecDepth 100000
set_option maxHeartbeats 16000000
namespace Go.AM
open Go Go.Proofs

variable {s t u : St}
section
variable {P : Program}
def RdTs (P : Program) (s : St) (d : Nat) : List TypeId → List AV → Prop
  | [], vs => vs = []
  | t :: r, vs => ∃ a b, vs = a ++ b ∧ RdT P s d t a ∧ RdTs P s d r b
theorem rd_fields {d : Nat} : ∀ (fs : List Field) (vs : List AV), RdF (RdT P s d) fs vs → RdTs P s d (fs.map (·.type)) vs
  | [], _, h => h
  | f :: r, vs, h => by
    obtain ⟨a, b, rfl, h1, h2⟩ := h
    exact ⟨a, b, rfl, h1, rd_fields r b h2⟩
def fieldsT (P : Program) (t : TypeId) : Option (List TypeId) := match P.underlying t with
  | some (.struct fs) => some (fs.toList.map (·.type))
  | _ => none
theorem rd_struct {d : Nat} {t : TypeId} {ts : List TypeId} {vs : List AV} (hu : fieldsT P t = some ts) (h : RdT P s (d + 1) t vs) : RdTs P s d ts vs := by
  unfold fieldsT at hu
  split at hu
  · rename_i fs hq
    injection hu with hu
    subst hu
    simp only [RdT, hq] at h
    exact rd_fields _ _ h
  · cases hu
end
theorem act_under : Try.prog.underlying 52 = some (.slice 54) := by kernel_rfl
theorem act_fields : fieldsT Try.prog 54 = some [3, 3, 3, 31] := by kernel_rfl
theorem act_cells : Try.prog.cellsOf 54 = 4 := by kernel_rfl
theorem rd_act {d : Nat} (hd : cks Try.prog d 64 = some ndKs) {r : List AV} (h : RdT Try.prog s (d + 2) 54 r) : ∃ w a b st l, r = [.int .i64 w, .int .i64 a, .int .i64 b, st] ∧ read ndC s st = some l := by
  obtain ⟨r1, x1, rfl, h1, r2, x2, rfl, h2, r3, x3, rfl, h3, r4, x4, rfl, h4, rfl⟩ := rd_struct act_fields h
  obtain ⟨w, rfl, _⟩ := rd_int int_under h1
  obtain ⟨a, rfl, _⟩ := rd_int int_under h2
  obtain ⟨b, rfl, _⟩ := rd_int int_under h3
  obtain ⟨st, l, rfl, hr⟩ := rd_state hd h4
  exact ⟨w, a, b, st, l, rfl, hr⟩
theorem rows_at : ∀ {rows : List (List AV)} {i : Nat} {r : List AV}, (∀ x ∈ rows, x.length = 4) → rows[i]? = some r → (rows.flatten.drop (i * 4)).take 4 = r ∧ i * 4 + 4 ≤ rows.flatten.length
  | [], i, r, _, h => by simp at h
  | x :: rows, 0, r, h, hi => by
    simp at hi
    subst hi
    have := h x (by simp)
    rw [List.flatten_cons, Nat.zero_mul, List.drop_zero, ← this, List.take_left']
    · exact ⟨rfl, by simp⟩
    · rfl
  | x :: rows, i + 1, r, h, hi => by
    have hx := h x (by simp)
    obtain ⟨h1, h2⟩ := rows_at (rows := rows) (i := i) (r := r) (fun y hy => h y (by simp [hy])) (by simpa using hi)
    rw [List.flatten_cons]
    refine ⟨?_, by rw [List.length_append]; omega⟩
    rw [List.drop_append, List.drop_eq_nil_of_le (by omega), List.nil_append, hx, show (i + 1) * 4 - 4 = i * 4 by omega]
    exact h1
theorem rda_acts {v : AV} (h : RdA Try.prog s 8 52 v) : ∃ n : Nat, lenV v = some (.int .i64 (n : Int)) ∧ ∀ i, i < n → ∃ w a b st l p, iadV 4 v (.int .i64 (i : Int)) = some p ∧ (∀ t, Keep s t → lod t 4 p = some (.agg [.int .i64 w, .int .i64 a, .int .i64 b, st])) ∧ (∀ t, Keep s t → ltN (bid v) t) ∧ read ndC s st = some l ∧ p = .ptr (bid v) (i * 4) ∧ st.one = true := by
  obtain ⟨vs, h1, rfl⟩ := h
  rcases rd_slice act_under h1 with rfl | ⟨id, n, cap, rows, rfl, h1, _, h3, h4, h5⟩
  · exact ⟨0, by simp [argAV, act_under]; rfl, fun i hi => by omega⟩
  · refine ⟨n, by simp [argAV, act_under]; rfl, fun i hi => ?_⟩
    obtain ⟨r, hr⟩ := getsome (show i < rows.length by omega)
    obtain ⟨w, a, b, st, l, rfl, hl⟩ := rd_act (d := 5) nd_cks5 (h5 r (List.mem_of_getElem? hr)).1
    obtain ⟨g1, g2⟩ := rows_at (fun x hx => by have := (h5 x hx).2; rw [act_cells] at this; exact this) hr
    refine ⟨w, a, b, st, l, .ptr id (i * 4), ?_, fun t hK => ?_, fun t hK => ?_, hl, ?_, ?_⟩
    · simp only [argAV, act_under, List.headD_cons, act_cells]
      rw [iadV_nat hi, Nat.zero_add]
    · simp only [lod, hK.blk h4]
      rw [if_pos g2, g1]
    · simp only [argAV, act_under, List.headD_cons]
      exact Nat.lt_of_lt_of_le (St.get_lt h4) hK.next
    · simp only [argAV, act_under, List.headD_cons]
      rfl
    · cases st <;> first | rfl | simp [read] at hl
theorem row4_lod {id : Nat} {a b c d : AV} {own : Bool} (h : t.get id = some (.row [a, b, c, d] own)) : lod1 t (.ptr id 0) = some a ∧ lod1 t (.ptr id 1) = some b ∧ lod1 t (.ptr id 2) = some c ∧ lod1 t (.ptr id 3) = some d ∧ ltN id t := by
  refine ⟨?_, ?_, ?_, ?_, St.get_lt h⟩ <;> simp [lod1, h]
theorem one_int (k : IntKind) (n : Int) : (AV.int k n).one = true := rfl
theorem sto4 {t : St} {w a b : Int} {st : AV} (h : st.one = true) (hc : st.cells = [st]) : sto (t.push (.row [.int .i64 0, .int .i64 0, .int .i64 0, .nils] true)) 4 (.ptr t.next 0) (.agg [.int .i64 w, .int .i64 a, .int .i64 b, st]) = some (.und, t.lowed.push (.row [.int .i64 w, .int .i64 a, .int .i64 b, st] true)) := by
  simp only [sto, St.get_push_new, push_put]
  rw [if_pos ⟨rfl, by simp only [AV.cells, List.all_cons, one_int, h, List.all_nil, Bool.and_self], by simp⟩]
  rfl

theorem s_BufferPlays : SoundAt Try.prog 6 (lawC Try.prog 8 [52]) :=
  con_keep (tb_sound (l := [(8, closed [] (.bool true)), (27, conF ndC (pL ndC gCopy)), (9, R_RPut), (10, R_puts), (24, conLL ndC ndC fSame), (28, stainC), (13, R_RFrom), (14, R_froms), (11, R_RBetween), (12, R_betweens), (22, R_Between), (15, R_RForget), (16, R_forgets), (29, R_BCopy), (17, R_one), (18, R_BPut), (21, R_BLast), (26, R_Forget), (30, R_alike)]) (by simpa using ⟨s_known, s_RCopy, s_RPut, s_puts, s_Same, s_stain, s_RFrom, s_froms, s_RBetween, s_betweens, s_Between, s_RForget, s_forgets, s_BCopy, s_one, s_BPut, s_BLast, s_Forget, s_alike⟩)) mixed Try.func6 k6 c6 fun args s r s' h => by
    obtain ⟨hh, rfl, rfl⟩ := lawC_some h
    obtain ⟨v, rfl, hv⟩ := rdas_1 hh
    obtain ⟨N, hL, hat⟩ := rda_acts hv
    refine ⟨rfl, rfl, by simp [a6], fun env hlen ha => ?_⟩
    have h0 : E env 0 = _ := ha 0 _ rfl
    have hlen : elen env = _ := hlen
    simp only [a6] at hlen
    unfold a6
    try dsimp only [oO, oG]
    by_cases hzz : (30 : Int) < (N : Int)
    · have hz1 := eq_true hzz
      simp (config := {maxSteps := 3000000, contextual := true, maxDischargeDepth := 12}) only [tb_at, h0, hlen, hL, hz1, ↓bD, bU, forall_const, List.all_cons, List.all_nil, Option.map_some, List.map_cons, List.map_nil, ne_eq, implies_true, isNx, cs_dec, cs_not, cs_and, cs_or, cs_valid, eq_self, ↓wp_cond, ↓wp_loop, ↓reduceIte, reduceCtorEq, Nat.reduceEqDiff, Nat.reduceLT, Nat.reduceAdd, Nat.reduceMul, Int.ofNat_lt, Int.ofNat_le, exists_const, ae_app, ap_slc, Option.map_none, mkR_none, mkR_some, ar_look, ae_mset, ae_rng, ae_mkmap0, ar_ent, lookV_push, lookV_lowed, msetV_push, msetV_lowed, lt_put, same_put, sto_over, sto_lowed, cs_dead, Option.map_some, beq_self_eq_true, decide_true, cs_true, cs_false, aa_bsl, ↓sg_bsl, ap_nchk, nchkV_ptr, bin_np, bin_npn, bin_npx, bin_npnx, ap_mm, mmV_max, mmV_min, res3, ↓st_callf, aa_mksl, ae_copy, ap_slc3, slc3V_all, bin_nss, bin_nsn, aa_bsl, extV_2, q_known, beq_self_eq_true, fstep_d0, fstep_d1, fstep_nd2, fstep_ndt, fstep_ndx, bsl_nd, ap_conv, convV_int]
    have hz1 := eq_false hzz
    have hn30 : N ≤ 30 := by omega
    have hbx := boxV_2 (a := .int .i64 0) (b := .nils) rfl rfl
    have hbx2 := boxV_2 (a := .nils) (b := .int .i64 0) rfl rfl
    have hB0 := both_new s
    simp (config := {maxSteps := 3000000, contextual := true, maxDischargeDepth := 12}) only [tb_at, h0, hlen, hL, hz1, hbx, hbx2, ↓bD, bU, forall_const, List.all_cons, List.all_nil, Option.map_some, List.map_cons, List.map_nil, ne_eq, implies_true, isNx, cs_dec, cs_not, cs_and, cs_or, cs_valid, eq_self, ↓wp_cond, ↓wp_loop, ↓reduceIte, reduceCtorEq, Nat.reduceEqDiff, Nat.reduceLT, Nat.reduceAdd, Nat.reduceMul, Int.ofNat_lt, Int.ofNat_le, exists_const, ae_app, ap_slc, Option.map_none, mkR_none, mkR_some, ar_look, ae_mset, ae_rng, ae_mkmap0, ar_ent, lookV_push, lookV_lowed, msetV_push, msetV_lowed, lt_put, same_put, sto_over, sto_lowed, cs_dead, Option.map_some, beq_self_eq_true, decide_true, cs_true, cs_false, aa_bsl, ↓sg_bsl, ap_nchk, nchkV_ptr, bin_np, bin_npn, bin_npx, bin_npnx, ap_mm, mmV_max, mmV_min, res3, ↓st_callf, aa_mksl, ae_copy, ap_slc3, slc3V_all, bin_nss, bin_nsn, aa_bsl, extV_2, q_known, beq_self_eq_true, fstep_d0, fstep_d1, fstep_nd2, fstep_ndt, fstep_ndx, bsl_nd, ap_conv, convV_int]
    obtain ⟨I1, hI1⟩ : ∃ I1 : Nat → Env → St → Prop, ∀ n e t, I1 n e t = (∃ i ib g all, i + n = N ∧ elen e = 160 ∧ E e 0 = v ∧ E e 3 = .ptr ib 0 ∧ E e 4 = .ptr (s.next + 1) 0 ∧ E e 5 = .int .i64 (i : Int) ∧ Both s t ib (s.next + 1) all g ∧ all.length ≤ i) := ⟨fun n e t => (∃ i ib g all, i + n = N ∧ elen e = 160 ∧ E e 0 = v ∧ E e 3 = .ptr ib 0 ∧ E e 4 = .ptr (s.next + 1) 0 ∧ E e 5 = .int .i64 (i : Int) ∧ Both s t ib (s.next + 1) all g ∧ all.length ≤ i), fun _ _ _ => rfl⟩
    refine lwp_inv I1 (n := N) ?_ ?_
    · rw [hI1]
      exact ⟨0, s.next, 0, [], by omega, by simp only [E_pne, E_psame, elen_put, Nat.reduceEqDiff, ne_eq, not_false_eq_true, Nat.reduceLT, hlen], by simp only [E_pne, E_psame, elen_put, Nat.reduceEqDiff, ne_eq, not_false_eq_true, Nat.reduceLT, h0], (by first | (simp only [E_pne, E_psame, elen_put, Nat.reduceEqDiff, ne_eq, not_false_eq_true, Nat.reduceLT, hlen]; done) | (simp only [E_pne, E_psame, elen_put, Nat.reduceEqDiff, ne_eq, not_false_eq_true, Nat.reduceLT, hlen]; rfl)), (by first | (simp only [E_pne, E_psame, elen_put, Nat.reduceEqDiff, ne_eq, not_false_eq_true, Nat.reduceLT, hlen]; done) | (simp only [E_pne, E_psame, elen_put, Nat.reduceEqDiff, ne_eq, not_false_eq_true, Nat.reduceLT, hlen]; rfl)), (by first | (simp only [E_pne, E_psame, elen_put, Nat.reduceEqDiff, ne_eq, not_false_eq_true, Nat.reduceLT, hlen]; done) | (simp only [E_pne, E_psame, elen_put, Nat.reduceEqDiff, ne_eq, not_false_eq_true, Nat.reduceLT, hlen]; rfl)), hB0, by simp⟩
    clear h0 hlen ha hbx hbx2 hB0
    intro n e t hi
    rw [hI1] at hi
    obtain ⟨i, ib, g, all, hni, he, e0, e3, e4, e5, hB, hal⟩ := hi
    by_cases hlt : i < N
    rotate_left
    · have hz2 : ((i : Int) < (N : Int)) = False := eq_false (by omega)
      simp (config := {maxSteps := 3000000, contextual := true, maxDischargeDepth := 12}) only [tb_at, he, e0, e3, e4, e5, hL, hz2, ↓bD, bU, forall_const, List.all_cons, List.all_nil, Option.map_some, List.map_cons, List.map_nil, ne_eq, implies_true, isNx, cs_dec, cs_not, cs_and, cs_or, cs_valid, eq_self, ↓wp_cond, ↓wp_loop, ↓reduceIte, reduceCtorEq, Nat.reduceEqDiff, Nat.reduceLT, Nat.reduceAdd, Nat.reduceMul, Int.ofNat_lt, Int.ofNat_le, exists_const, ae_app, ap_slc, Option.map_none, mkR_none, mkR_some, ar_look, ae_mset, ae_rng, ae_mkmap0, ar_ent, lookV_push, lookV_lowed, msetV_push, msetV_lowed, lt_put, same_put, sto_over, sto_lowed, cs_dead, Option.map_some, beq_self_eq_true, decide_true, cs_true, cs_false, aa_bsl, ↓sg_bsl, ap_nchk, nchkV_ptr, bin_np, bin_npn, bin_npx, bin_npnx, ap_mm, mmV_max, mmV_min, res3, ↓st_callf, aa_mksl, ae_copy, ap_slc3, slc3V_all, bin_nss, bin_nsn, aa_bsl, extV_2, q_known, beq_self_eq_true, fstep_d0, fstep_d1, fstep_nd2, fstep_ndt, fstep_ndx, bsl_nd, ap_conv, convV_int]
      exact hB.keep
    have hz2 : ((i : Int) < (N : Int)) = True := eq_true (by omega)
    have hw := wrap_add1 (n := i) (by omega)
    have hl99 : all.length < 100 := by omega
    obtain ⟨w, a, b, st, l, p, i1, a1, al, hrs, hp, hone⟩ := hat i hlt
    have a1 := a1 t hB.keep
    have al := al t hB.keep
    subst hp
    have hst := sto4 (t := t) (w := w) (a := a) (b := b) hone (by cases st <;> first | rfl | simp [read] at hrs)
    obtain ⟨u, hu⟩ : ∃ u, u = t.lowed.push (.row [.int .i64 w, .int .i64 a, .int .i64 b, st] true) := ⟨_, rfl⟩
    have hku : Keep t u := by rw [hu]; exact (keep_lowed t).push _
    have hgu : u.get t.next = some (.row [.int .i64 w, .int .i64 a, .int .i64 b, st] true) := by rw [hu]; exact St.get_push_new t.lowed _
    have hBu := hB.on hku
    rw [← hu] at hst
    obtain ⟨x0, x1, x2, x3, xl⟩ := row4_lod hgu
    have hLx := lenV_read hrs
    by_cases h15 : (15 : Int) < (l.length : Int)
    · have hz3 := eq_true h15
      simp (config := {maxSteps := 3000000, contextual := true, maxDischargeDepth := 12}) only [tb_at, he, e0, e3, e4, e5, hL, hz2, hw, i1, a1, al, hst, x0, x3, xl, hLx, hz3, ↓bD, bU, forall_const, List.all_cons, List.all_nil, Option.map_some, List.map_cons, List.map_nil, ne_eq, implies_true, isNx, cs_dec, cs_not, cs_and, cs_or, cs_valid, eq_self, ↓wp_cond, ↓wp_loop, ↓reduceIte, reduceCtorEq, Nat.reduceEqDiff, Nat.reduceLT, Nat.reduceAdd, Nat.reduceMul, Int.ofNat_lt, Int.ofNat_le, exists_const, ae_app, ap_slc, Option.map_none, mkR_none, mkR_some, ar_look, ae_mset, ae_rng, ae_mkmap0, ar_ent, lookV_push, lookV_lowed, msetV_push, msetV_lowed, lt_put, same_put, sto_over, sto_lowed, cs_dead, Option.map_some, beq_self_eq_true, decide_true, cs_true, cs_false, aa_bsl, ↓sg_bsl, ap_nchk, nchkV_ptr, bin_np, bin_npn, bin_npx, bin_npnx, ap_mm, mmV_max, mmV_min, res3, ↓st_callf, aa_mksl, ae_copy, ap_slc3, slc3V_all, bin_nss, bin_nsn, aa_bsl, extV_2, q_known, beq_self_eq_true, fstep_d0, fstep_d1, fstep_nd2, fstep_ndt, fstep_ndx, bsl_nd, ap_conv, convV_int]
      exact hBu.keep
    have hz3 := eq_false h15
    have hl15 : l.length ≤ 15 := by omega
    -- what 'alike' says at the end
    by_cases c0 : w = 0
    · have d0 := eq_true c0
      obtain ⟨own, t2, q1, k2, hO⟩ := fresh_L (D := ndC) (f := gCopy) (hBu.keep.read hrs) (by unfold lim; omega) rfl (fun x hx => by cases hx)
      rw [mkR_none] at q1
      obtain ⟨nn, ee, t3, t4, all', q2, q3, hB4, hall, hnd4, hN4, b23, b34, ks3, hst4⟩ := both_puto hBu k2 hl99 ((hBu.on k2).keep.read hrs) (own_NdR hO) hl15
      have g2 := k2.blk hgu
      have g3 := b23 _ _ _ _ _ _ _ g2
      have g4 := b34 _ _ _ _ _ _ _ g3
      obtain ⟨_, _, _, y3, yl⟩ := row4_lod g2
      obtain ⟨_, _, _, z3, zl⟩ := row4_lod g4
      have q4 := q_Same false hnd4.read (hB4.keep.read hrs) (by unfold lim; omega) (by unfold lim; omega)
      simp only [decide_true] at q4
      obtain ⟨t5, q5, hor⟩ := stain_chg hO hN4 (by unfold lim; omega)
      have hB5 : Both s t5 ib (s.next + 1) all' g := by
        rcases hor with rfl | ⟨j, j1, j2, j3, _⟩
        · exact hB4
        · exact hst4 j t5 j1 j2 j3
      have q6 := q_alike false hB5
      simp (config := {maxSteps := 3000000, contextual := true, maxDischargeDepth := 12}) only [tb_at, he, e0, e3, e4, e5, hL, hz2, hw, i1, a1, al, hst, x0, x3, xl, hLx, hz3, d0, q1, y3, yl, q2, q3, z3, zl, q4, q5, q6, ↓bD, bU, forall_const, List.all_cons, List.all_nil, Option.map_some, List.map_cons, List.map_nil, ne_eq, implies_true, isNx, cs_dec, cs_not, cs_and, cs_or, cs_valid, eq_self, ↓wp_cond, ↓wp_loop, ↓reduceIte, reduceCtorEq, Nat.reduceEqDiff, Nat.reduceLT, Nat.reduceAdd, Nat.reduceMul, Int.ofNat_lt, Int.ofNat_le, exists_const, ae_app, ap_slc, Option.map_none, mkR_none, mkR_some, ar_look, ae_mset, ae_rng, ae_mkmap0, ar_ent, lookV_push, lookV_lowed, msetV_push, msetV_lowed, lt_put, same_put, sto_over, sto_lowed, cs_dead, Option.map_some, beq_self_eq_true, decide_true, cs_true, cs_false, aa_bsl, ↓sg_bsl, ap_nchk, nchkV_ptr, bin_np, bin_npn, bin_npx, bin_npnx, ap_mm, mmV_max, mmV_min, res3, ↓st_callf, aa_mksl, ae_copy, ap_slc3, slc3V_all, bin_nss, bin_nsn, aa_bsl, extV_2, q_known, beq_self_eq_true, fstep_d0, fstep_d1, fstep_nd2, fstep_ndt, fstep_ndx, bsl_nd, ap_conv, convV_int]
      refine ⟨n - 1, by omega, ?_⟩
      rw [hI1]
      refine ⟨i + 1, ib, g, all', by omega, by simp only [E_pne, E_psame, elen_put, Nat.reduceEqDiff, ne_eq, not_false_eq_true, Nat.reduceLT, he], by simp only [E_pne, E_psame, elen_put, Nat.reduceEqDiff, ne_eq, not_false_eq_true, Nat.reduceLT, e0], by simp only [E_pne, E_psame, elen_put, Nat.reduceEqDiff, ne_eq, not_false_eq_true, Nat.reduceLT, e3], by simp only [E_pne, E_psame, elen_put, Nat.reduceEqDiff, ne_eq, not_false_eq_true, Nat.reduceLT, e4], by simp only [E_pne, E_psame, elen_put, Nat.reduceEqDiff, ne_eq, not_false_eq_true, Nat.reduceLT, he], hB5, ?_⟩
      rcases hall with rfl | rfl
      · omega
      · simp
        omega
    have d0 := eq_false c0
    by_cases c1 : w = 1
    · have d1 := eq_true c1
      obtain ⟨vv, t2, q1, hO, k2, _, qf⟩ := both_from hBu a
      have hB5 := hBu.on k2
      have q2 := qf t2 hB5 hO.read
      obtain ⟨_, y1, y2, y3, yl⟩ := row4_lod (k2.blk hgu)
      have q6 := q_alike false hB5
      simp (config := {maxSteps := 3000000, contextual := true, maxDischargeDepth := 12}) only [tb_at, he, e0, e3, e4, e5, hL, hz2, hw, i1, a1, al, hst, x0, x1, x3, xl, hLx, hz3, d0, d1, q1, y1, yl, q2, q6, ↓bD, bU, forall_const, List.all_cons, List.all_nil, Option.map_some, List.map_cons, List.map_nil, ne_eq, implies_true, isNx, cs_dec, cs_not, cs_and, cs_or, cs_valid, eq_self, ↓wp_cond, ↓wp_loop, ↓reduceIte, reduceCtorEq, Nat.reduceEqDiff, Nat.reduceLT, Nat.reduceAdd, Nat.reduceMul, Int.ofNat_lt, Int.ofNat_le, exists_const, ae_app, ap_slc, Option.map_none, mkR_none, mkR_some, ar_look, ae_mset, ae_rng, ae_mkmap0, ar_ent, lookV_push, lookV_lowed, msetV_push, msetV_lowed, lt_put, same_put, sto_over, sto_lowed, cs_dead, Option.map_some, beq_self_eq_true, decide_true, cs_true, cs_false, aa_bsl, ↓sg_bsl, ap_nchk, nchkV_ptr, bin_np, bin_npn, bin_npx, bin_npnx, ap_mm, mmV_max, mmV_min, res3, ↓st_callf, aa_mksl, ae_copy, ap_slc3, slc3V_all, bin_nss, bin_nsn, aa_bsl, extV_2, q_known, beq_self_eq_true, fstep_d0, fstep_d1, fstep_nd2, fstep_ndt, fstep_ndx, bsl_nd, ap_conv, convV_int]
      refine ⟨n - 1, by omega, ?_⟩
      rw [hI1]
      exact ⟨i + 1, ib, g, all, by omega, by simp only [E_pne, E_psame, elen_put, Nat.reduceEqDiff, ne_eq, not_false_eq_true, Nat.reduceLT, he], by simp only [E_pne, E_psame, elen_put, Nat.reduceEqDiff, ne_eq, not_false_eq_true, Nat.reduceLT, e0], by simp only [E_pne, E_psame, elen_put, Nat.reduceEqDiff, ne_eq, not_false_eq_true, Nat.reduceLT, e3], by simp only [E_pne, E_psame, elen_put, Nat.reduceEqDiff, ne_eq, not_false_eq_true, Nat.reduceLT, e4], by simp only [E_pne, E_psame, elen_put, Nat.reduceEqDiff, ne_eq, not_false_eq_true, Nat.reduceLT, he], hB5, by omega⟩
    have d1 := eq_false c1
    by_cases c2 : w = 2
    · have d2 := eq_true c2
      obtain ⟨vv, t2, q1, q2, hO, k2⟩ := both_between hBu a b
      obtain ⟨_, y1, y2, y3, yl⟩ := row4_lod (k2.blk hgu)
      obtain ⟨v2, l2, bb, t3, q3, hO2, k3, hl2⟩ := both_bbet (hBu.on k2) a b
      obtain ⟨t4, q4, k4⟩ := stain_keep hO2 k3 hl2
      have hB5 := (hBu.on k2).on k4
      have q6 := q_alike false hB5
      simp (config := {maxSteps := 3000000, contextual := true, maxDischargeDepth := 12}) only [tb_at, he, e0, e3, e4, e5, hL, hz2, hw, i1, a1, al, hst, x0, x1, x2, x3, xl, hLx, hz3, d0, d1, d2, q1, y1, y2, yl, q2, q3, q4, q6, ↓bD, bU, forall_const, List.all_cons, List.all_nil, Option.map_some, List.map_cons, List.map_nil, ne_eq, implies_true, isNx, cs_dec, cs_not, cs_and, cs_or, cs_valid, eq_self, ↓wp_cond, ↓wp_loop, ↓reduceIte, reduceCtorEq, Nat.reduceEqDiff, Nat.reduceLT, Nat.reduceAdd, Nat.reduceMul, Int.ofNat_lt, Int.ofNat_le, exists_const, ae_app, ap_slc, Option.map_none, mkR_none, mkR_some, ar_look, ae_mset, ae_rng, ae_mkmap0, ar_ent, lookV_push, lookV_lowed, msetV_push, msetV_lowed, lt_put, same_put, sto_over, sto_lowed, cs_dead, Option.map_some, beq_self_eq_true, decide_true, cs_true, cs_false, aa_bsl, ↓sg_bsl, ap_nchk, nchkV_ptr, bin_np, bin_npn, bin_npx, bin_npnx, ap_mm, mmV_max, mmV_min, res3, ↓st_callf, aa_mksl, ae_copy, ap_slc3, slc3V_all, bin_nss, bin_nsn, aa_bsl, extV_2, q_known, beq_self_eq_true, fstep_d0, fstep_d1, fstep_nd2, fstep_ndt, fstep_ndx, bsl_nd, ap_conv, convV_int]
      refine ⟨n - 1, by omega, ?_⟩
      rw [hI1]
      exact ⟨i + 1, ib, g, all, by omega, by simp only [E_pne, E_psame, elen_put, Nat.reduceEqDiff, ne_eq, not_false_eq_true, Nat.reduceLT, he], by simp only [E_pne, E_psame, elen_put, Nat.reduceEqDiff, ne_eq, not_false_eq_true, Nat.reduceLT, e0], by simp only [E_pne, E_psame, elen_put, Nat.reduceEqDiff, ne_eq, not_false_eq_true, Nat.reduceLT, e3], by simp only [E_pne, E_psame, elen_put, Nat.reduceEqDiff, ne_eq, not_false_eq_true, Nat.reduceLT, e4], by simp only [E_pne, E_psame, elen_put, Nat.reduceEqDiff, ne_eq, not_false_eq_true, Nat.reduceLT, he], hB5, by omega⟩
    have d2 := eq_false c2
    by_cases c3 : w = 3
    · have d3 := eq_true c3
      obtain ⟨nn, ee, t2, t3, g', q1, _, _, q2, hB5, b2, b3⟩ := both_forget hBu a
      obtain ⟨_, y1, y2, y3, yl⟩ := row4_lod (b2 _ _ _ _ _ _ _ hgu)
      have q6 := q_alike false hB5
      simp (config := {maxSteps := 3000000, contextual := true, maxDischargeDepth := 12}) only [tb_at, he, e0, e3, e4, e5, hL, hz2, hw, i1, a1, al, hst, x0, x1, x2, x3, xl, hLx, hz3, d0, d1, d2, d3, q1, y1, yl, q2, q6, ↓bD, bU, forall_const, List.all_cons, List.all_nil, Option.map_some, List.map_cons, List.map_nil, ne_eq, implies_true, isNx, cs_dec, cs_not, cs_and, cs_or, cs_valid, eq_self, ↓wp_cond, ↓wp_loop, ↓reduceIte, reduceCtorEq, Nat.reduceEqDiff, Nat.reduceLT, Nat.reduceAdd, Nat.reduceMul, Int.ofNat_lt, Int.ofNat_le, exists_const, ae_app, ap_slc, Option.map_none, mkR_none, mkR_some, ar_look, ae_mset, ae_rng, ae_mkmap0, ar_ent, lookV_push, lookV_lowed, msetV_push, msetV_lowed, lt_put, same_put, sto_over, sto_lowed, cs_dead, Option.map_some, beq_self_eq_true, decide_true, cs_true, cs_false, aa_bsl, ↓sg_bsl, ap_nchk, nchkV_ptr, bin_np, bin_npn, bin_npx, bin_npnx, ap_mm, mmV_max, mmV_min, res3, ↓st_callf, aa_mksl, ae_copy, ap_slc3, slc3V_all, bin_nss, bin_nsn, aa_bsl, extV_2, q_known, beq_self_eq_true, fstep_d0, fstep_d1, fstep_nd2, fstep_ndt, fstep_ndx, bsl_nd, ap_conv, convV_int]
      refine ⟨n - 1, by omega, ?_⟩
      rw [hI1]
      exact ⟨i + 1, ib, g', all, by omega, by simp only [E_pne, E_psame, elen_put, Nat.reduceEqDiff, ne_eq, not_false_eq_true, Nat.reduceLT, he], by simp only [E_pne, E_psame, elen_put, Nat.reduceEqDiff, ne_eq, not_false_eq_true, Nat.reduceLT, e0], by simp only [E_pne, E_psame, elen_put, Nat.reduceEqDiff, ne_eq, not_false_eq_true, Nat.reduceLT, e3], by simp only [E_pne, E_psame, elen_put, Nat.reduceEqDiff, ne_eq, not_false_eq_true, Nat.reduceLT, e4], by simp only [E_pne, E_psame, elen_put, Nat.reduceEqDiff, ne_eq, not_false_eq_true, Nat.reduceLT, he], hB5, by omega⟩
    have d3 := eq_false c3
    obtain ⟨ic, t2, q1, hB2, k2, hgo⟩ := both_copy hBu hl99
    obtain ⟨vo, t3, q2, hno, k3⟩ := q_one (s := t2) 64 119
    obtain ⟨r1, t4, nl, r3, t5, q3, q4, q5, hB5, _⟩ := hgo t3 vo _ k3 hno.read (by simp)
    have q6 := q_alike false hB5
    simp (config := {maxSteps := 3000000, contextual := true, maxDischargeDepth := 12}) only [tb_at, he, e0, e3, e4, e5, hL, hz2, hw, i1, a1, al, hst, x0, x3, xl, hLx, hz3, d0, d1, d2, d3, q1, q2, q3, q4, q5, q6, ↓bD, bU, forall_const, List.all_cons, List.all_nil, Option.map_some, List.map_cons, List.map_nil, ne_eq, implies_true, isNx, cs_dec, cs_not, cs_and, cs_or, cs_valid, eq_self, ↓wp_cond, ↓wp_loop, ↓reduceIte, reduceCtorEq, Nat.reduceEqDiff, Nat.reduceLT, Nat.reduceAdd, Nat.reduceMul, Int.ofNat_lt, Int.ofNat_le, exists_const, ae_app, ap_slc, Option.map_none, mkR_none, mkR_some, ar_look, ae_mset, ae_rng, ae_mkmap0, ar_ent, lookV_push, lookV_lowed, msetV_push, msetV_lowed, lt_put, same_put, sto_over, sto_lowed, cs_dead, Option.map_some, beq_self_eq_true, decide_true, cs_true, cs_false, aa_bsl, ↓sg_bsl, ap_nchk, nchkV_ptr, bin_np, bin_npn, bin_npx, bin_npnx, ap_mm, mmV_max, mmV_min, res3, ↓st_callf, aa_mksl, ae_copy, ap_slc3, slc3V_all, bin_nss, bin_nsn, aa_bsl, extV_2, q_known, beq_self_eq_true, fstep_d0, fstep_d1, fstep_nd2, fstep_ndt, fstep_ndx, bsl_nd, ap_conv, convV_int]
    refine ⟨n - 1, by omega, ?_⟩
    rw [hI1]
    exact ⟨i + 1, ic, g, all, by omega, by simp only [E_pne, E_psame, elen_put, Nat.reduceEqDiff, ne_eq, not_false_eq_true, Nat.reduceLT, he], by simp only [E_pne, E_psame, elen_put, Nat.reduceEqDiff, ne_eq, not_false_eq_true, Nat.reduceLT, e0], by simp only [E_pne, E_psame, elen_put, Nat.reduceEqDiff, ne_eq, not_false_eq_true, Nat.reduceLT, he], by simp only [E_pne, E_psame, elen_put, Nat.reduceEqDiff, ne_eq, not_false_eq_true, Nat.reduceLT, e4], by simp only [E_pne, E_psame, elen_put, Nat.reduceEqDiff, ne_eq, not_false_eq_true, Nat.reduceLT, he], hB5, by omega⟩

end Go.AM
end
