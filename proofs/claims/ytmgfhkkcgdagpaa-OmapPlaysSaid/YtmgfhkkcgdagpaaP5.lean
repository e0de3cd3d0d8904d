/-
  OmapPlays. Own work of this project; in part printed by a program of it.
-/
import Derived.Test.YtmgfhkkcgdagpaaP4
set_option linter.unusedVariables false
set_option linter.unusedSimpArgs false
section
set_option maxRecDepth 100000
set_option maxHeartbeats 8000000
namespace Go.AM
open Go Go.Proofs

variable {s t u : St}

theorem act_unders : Try.prog.underlying 22 = some (.slice 31) := by kernel_rfl
theorem act_cells : Try.prog.cellsOf 31 = 3 := by kernel_rfl
theorem act_fields : fieldsT Try.prog 31 = some [3, 3, 9] := by kernel_rfl
theorem int_underK : Try.prog.underlying 3 = some (.int .i64) := by kernel_rfl
theorem str_underK : Try.prog.underlying 9 = some .string := by kernel_rfl
theorem bool_underK : Try.prog.underlying 4 = some .bool := by kernel_rfl
theorem rd_strK {P : Program} {d : Nat} {t : TypeId} {vs : List AV} (hu : P.underlying t = some .string) (h : RdT P s (d + 1) t vs) : ∃ n, vs = [.str n] := by
  simp only [RdT, hu] at h
  exact h
theorem rda_boolK {P : Program} {d : Nat} {t : TypeId} {v : AV} (hu : P.underlying t = some .bool) (h : RdA P s (d + 1) t v) : ∃ b, v = .bool b := by
  obtain ⟨vs, h1, rfl⟩ := h
  simp only [RdT, hu] at h1
  obtain ⟨b, rfl⟩ := h1
  exact ⟨b, by simp [argAV, hu]⟩
theorem acts_of_rows {d : Nat} : ∀ {rows : List (List AV)}, (∀ r ∈ rows, RdT Try.prog s (d + 2) 31 r) → ∃ l : List AcT, rows.flatten = acC.cells l ∧ l.length = rows.length
  | [], _ => ⟨[], rfl, rfl⟩
  | r :: rows, h => by
    obtain ⟨r1, x1, rfl, k1, r2, x2, rfl, k2, r3, x3, rfl, k3, rfl⟩ := rd_struct act_fields (h r (by simp))
    obtain ⟨a, rfl, _⟩ := rd_int int_underK k1
    obtain ⟨b, rfl, _⟩ := rd_int int_underK k2
    obtain ⟨c, rfl⟩ := rd_strK str_underK k3
    obtain ⟨l, h1, h2⟩ := acts_of_rows (rows := rows) fun r' hr' => h r' (by simp [hr'])
    exact ⟨(a, b, c) :: l, by rw [List.flatten_cons, h1, cells_cons]; rfl, by simp [h2]⟩
theorem rda_acts08 {v : AV} (h : RdA Try.prog s 8 22 v) : ∃ l, AM.read acC s v = some l := by
  obtain ⟨vs, h1, rfl⟩ := h
  rcases rd_slice act_unders h1 with rfl | ⟨id, n, cap, rows, rfl, h1, _, h3, h4, h5⟩
  · exact ⟨[], by simp [argAV, act_unders]; rfl⟩
  · obtain ⟨l, e1, e2⟩ := acts_of_rows (d := 5) fun r hr => (h5 r hr).1
    have e : argAV Try.prog 22 [.sl id 0 n (some cap) (Try.prog.cellsOf 31)] = .sl id 0 n (some cap) 3 := by simp [argAV, act_unders, act_cells]
    rw [e]
    refine ⟨l.take n, ?_⟩
    have hall : AM.read acC s (.sl id 0 cap (some cap) 3) = some l := by
      have hcl : (acC.cells l).length = l.length * 3 := cells_len acC l
      refine read_of (C := acC) (by omega) h4 ?_ ?_
      · rw [e1, hcl]
        show 0 + cap * 3 ≤ _
        omega
      · rw [e1, List.drop_zero, show cap * acC.sz = (acC.cells l).length by rw [hcl]; show cap * 3 = _; omega, List.take_length]
    exact read_take hall n h1
theorem sto_z3 {m : Nat} {t : St} (h : sameN m t) {a b c : AV} (ha : a.one = true) (hb : b.one = true) (hc : c.one = true) (cs : List AV) (hcs : cs.length = 3) : AM.sto (t.push (.row cs true)) 3 (.ptr m 0) (.agg [a, b, c]) = some (.und, t.lowed.push (.row [a, b, c] true)) := by
  unfold sameN at h
  subst h
  have hg : (t.push (.row cs true)).get t.next = some (.row cs true) := St.get_push_new t _
  simp only [AM.sto, hg]
  rw [if_pos ⟨rfl, by simp [AV.cells, ha, hb, hc], by omega⟩]
  simp [setAt, AV.cells, hcs, St.push, St.put, St.lowed]
theorem row3_lod {id : Nat} {a b c : AV} {own : Bool} (h : t.get id = some (.row [a, b, c] own)) : lod1 t (.ptr id 0) = some a ∧ lod1 t (.ptr id 1) = some b ∧ lod1 t (.ptr id 2) = some c ∧ ltN id t := by
  refine ⟨?_, ?_, ?_, St.get_lt h⟩ <;> simp [lod1, h]
theorem MpR.nb {id : Nat} {q : Option Nat} {d : Bool} {L : List PrS} (h : MpR t id q d L) {b : Nat} {x : Bool} {w : AV} {own : Bool} (hg : t.get b = some (.row [.bool x, w] own)) : b ∉ id :: q.toList := by
  have h1 : b ≠ id := by
    rintro rfl
    have := h.box
    rw [hg] at this
    injection this with this
    injection this with this _
    injection this with this _
    cases d <;> cases this
  cases q with
  | none => simp [h1]
  | some j =>
    have h2 : b ≠ j := by
      rintro rfl
      have := (h.dat b rfl).2
      rw [hg] at this
      injection this with this
      injection this with this _
      cases L with
      | nil => cases this
      | cons y r =>
        rw [pr_cells2] at this
        injection this with this _
        cases this
    simp [h1, h2]
theorem MpR.n3 {id : Nat} {q : Option Nat} {d : Bool} {L : List PrS} (h : MpR t id q d L) {b : Nat} {cs : List AV} {own : Bool} (hg : t.get b = some (.row cs own)) (hc : cs.length = 3 ∨ cs.length = 1) : b ∉ id :: q.toList := by
  have h1 : b ≠ id := by
    rintro rfl
    have := h.box
    rw [hg] at this
    injection this with this
    injection this with this _
    rw [this] at hc
    simp at hc
  cases q with
  | none => simp [h1]
  | some j =>
    have h2 : b ≠ j := by
      rintro rfl
      have := (h.dat b rfl).2
      rw [hg] at this
      injection this with this
      injection this with this _
      have hl := congrArg List.length this
      rw [cells_len, prC_sz] at hl
      omega
    simp [h1, h2]
/-- A map and the reference's: the same pairs. -/
structure PlM (s t : St) (rb id : Nat) (q : Option Nat) (d : Bool) (L : List PrS) (rv : AV) : Prop where
  mp : MpR t id q d L
  hid : s.next ≤ id
  hq : ∀ j, q = some j → s.next ≤ j
  rb : t.get rb = some (.row [.bool d, rv] true)
  own : Own prC s t rv L
  sep : ∀ j, q = some j → ∀ o n c z, rv ≠ .sl j o n c z
  srt : SrtD d L
variable {rb id : Nat} {q : Option Nat} {d : Bool} {L : List PrS} {rv : AV}
theorem PlM.keep (h : PlM s t rb id q d L rv) (hK : Keep t u) : PlM s u rb id q d L rv := ⟨h.mp.keep hK, h.hid, h.hq, hK.blk h.rb, h.own.mono fun _ _ => hK.blk, h.sep, h.srt⟩
/-- Behind a change of the map. -/
theorem PlM.chg (h : PlM s t rb id q d L rv) (hC : Chg (id :: q.toList) t u) {q' : Option Nat} (hq' : ∀ j, q' = some j → q = some j ∨ t.next ≤ j) :
    u.get rb = some (.row [.bool d, rv] true) ∧ Own prC s u rv L ∧ (∀ j, q' = some j → ∀ o n c z, rv ≠ .sl j o n c z) ∧ (∀ j, q' = some j → s.next ≤ j ∧ (j < t.next ∨ t.next ≤ j)) := by
  have hO : Own prC s u rv L := by
    have h0 := h.own
    rcases h0 with e | ⟨j, e, h1, h2, h3⟩
    · exact .inl e
    · refine .inr ⟨j, e, h1, h2, hC.blk h3 fun hm => ?_⟩
      rcases List.mem_cons.1 hm with rfl | hm
      · have := h.mp.box
        rw [h3] at this
        injection this with this
        injection this with this _
        cases L with
        | nil => exact h1 rfl
        | cons y r =>
          rw [pr_cells2] at this
          injection this with this _
          cases d <;> cases this
      · cases hq : q with
        | none => rw [hq] at hm; simp at hm
        | some j0 =>
          rw [hq] at hm
          simp at hm
          subst hm
          exact h.sep j hq 0 _ none _ e
  refine ⟨hC.blk h.rb (h.mp.nb h.rb), hO, fun j hj o n c z e => ?_, fun j hj => ?_⟩
  · rcases hq' j hj with e' | e'
    · exact h.sep j e' o n c z e
    · rcases h.own with ⟨e2, _⟩ | ⟨j2, e2, _, _, h3⟩
      · rw [e2] at e; cases e
      · rw [e2] at e
        injection e with e
        have := St.get_lt h3
        omega
  · rcases hq' j hj with e' | e'
    · exact ⟨h.hq j e', by omega⟩
    · have h1 := h.hid
      have := St.get_lt h.mp.box
      exact ⟨by omega, by omega⟩
/-- The reference has made a new list. -/
theorem PlM.next {t0 t1 u : St} {rv' : AV} {L' : List PrS} {q' : Option Nat} (hm : MpR t1 id q' d L') (hid : s.next ≤ id) (hq : ∀ j, q' = some j → s.next ≤ j) (hb : t1.get rb = some (.row [.bool d, rv] true)) (hs : s.next ≤ t1.next) (hO : Own prC t1 t0 rv' L') (hK : Keep t1 t0) (hsr : SrtD d L') (hu : u = t0.put rb (.row [.bool d, rv'] true)) (hrb : s.next ≤ rb) (hKs : Keep s t0) :
    PlM s u rb id q' d L' rv' ∧ Keep s u := by
  have hb0 := hK.blk hb
  have hlt := St.get_lt hb0
  have hrbl := St.get_lt hb
  have hnb := hm.nb hb
  have hne : ∀ j, q' = some j → j ≠ rb := fun j e => by
    rintro rfl
    apply hnb
    rw [e]
    simp
  have hni : id ≠ rb := fun e => hnb (by rw [e]; simp)
  subst hu
  refine ⟨⟨⟨?_, hm.nol, fun j e => ⟨(hm.dat j e).1, ?_⟩, hm.hn⟩, hid, hq, St.get_put_same hb0, ?_, fun j e o n c z e2 => ?_, hsr⟩, hKs.put _ hrb hlt⟩
  · rw [St.get_put_ne _ _ hlt hni]
    exact hK.blk hm.box
  · rw [St.get_put_ne _ _ hlt (hne j e)]
    exact hK.blk (hm.dat j e).2
  · rcases hO with e | ⟨j, e, h1, h2, h3⟩
    · exact .inl e
    · refine .inr ⟨j, e, h1, by omega, ?_⟩
      rw [St.get_put_ne _ _ hlt (by omega)]
      exact h3
  · rcases hO with ⟨e3, _⟩ | ⟨j2, e3, _, h2, _⟩
    · rw [e3] at e2; cases e2
    · rw [e3] at e2
      injection e2 with e2
      have := St.get_lt (hm.dat j e).2
      omega
theorem s_OmapPlays : SoundAt Try.prog 6 (lawC Try.prog 8 [4, 22]) :=
  con_keep (tb_sound (l := [(9, closed [] (.bool true)), (8, R_light), (10, R_made), (29, R_RGet), (30, R_sets), (12, R_RSet), (17, R_Delete), (31, R_RDelete), (32, cCopy), (11, R_Set), (33, R_looks)]) (by simpa using ⟨s_known, s_light, s_made, s_RGet, s_sets, s_RSet, s_Delete, s_RDelete, s_Copy, s_Set, s_looks⟩)) mixed Try.func6 k6 c6 fun args s r s' h => by
    obtain ⟨hh, rfl, rfl⟩ := lawC_some h
    obtain ⟨y1, vl, rfl, k1, k2⟩ := rdas_2 hh
    obtain ⟨d, rfl⟩ := rda_boolK bool_underK k1
    obtain ⟨M, hV⟩ := rda_acts08 k2
    refine ⟨rfl, rfl, by simp [a6], fun env hlen ha => ?_⟩
    have h0 : E env 0 = _ := ha 0 _ rfl
    have h1 : E env 1 = _ := ha 1 _ rfl
    have hlen : elen env = _ := hlen
    simp only [a6] at hlen
    unfold a6
    try dsimp only [oO, oG]
    have hM := lenV_read hV
    have qli := q_light false hV
    rcases Bool.eq_false_or_eq_true (ltA M) with hlt | hlt
    rotate_left
    · rw [hlt] at qli
      simp (config := {contextual := true, maxDischargeDepth := 12, maxSteps := 4000000}) only [tb_at, h0, h1, hlen, qli, notV_bool, Bool.not_true, Bool.not_false, pickV_t, pickV_f, bin_eql, bin_neq, bin_neb, bin_npn, bin_np, bin_npnx, gcall_tt, gpure_tf, beq_self_eq_true, Bool.true_and, Bool.and_true, decide_true, decide_false, ↓bD, bU, forall_const, bS, implies_true, isNx, eq_self, ↓wp_cond, ↓wp_loop, ↓reduceIte, reduceCtorEq, Nat.reduceEqDiff, Nat.reduceLT, Nat.reduceAdd, Nat.reduceMul, bT, ↓sg_bsl, ↓st_callf, bX, ap_mkfn, ap_conv, ↓wi_seq, ↓wi_base, ↓wi_block, ↓wi_cond, ↓wi_loop, ↓wi_rf, ↓wy_seq, ↓wy_base, ↓wy_block, ↓wy_cond, ↓wy_loop, ↓wy_yld, ae_callvV, callvV_fn, List.append_nil, List.cons_append, List.nil_append, bin_nff, bin_nfn, bin_nffx, bin_nfnx, bin_streq, bin_bo_same, lstep_some, ↓st_load1nf, ↓st_loadnf, ↓st_appr, ↓st_appf0, bin_nfls, ap_lens, lensV_str, ↓sg_callf3, gcall_ff, gpure_ff0, q_known]
      all_goals first | exact .refl s | skip
    rw [hlt] at qli
    obtain ⟨hM60, hMk⟩ := ltA_true hlt
    obtain ⟨id0, t1, qm, hi0, hm0, hK1⟩ := q_made (s := s) d
    have fs0 := fstep_bw0' (x := .bool d) ⟨rfl, rfl⟩ (.bool false) .nils
    have st1 := sto_z2 (m := t1.next) (t := t1) rfl (a := .bool d) (b := .nils) rfl rfl [.bool false, .nils] rfl
    obtain ⟨t2, ht2⟩ : ∃ t2, t2 = t1.lowed.push (.row [.bool d, .nils] true) := ⟨_, rfl⟩
    have hK12 : Keep t1 t2 := by rw [ht2]; exact (keep_lowed t1).push _
    have g2 : t2.get t1.next = some (.row [.bool d, .nils] true) := by rw [ht2]; exact St.get_push_new t1.lowed _
    rw [← ht2] at st1
    obtain ⟨rb, hrb⟩ : ∃ rb, rb = t1.next := ⟨_, rfl⟩
    rw [← hrb] at g2 st1
    have hsrb : s.next ≤ rb := by rw [hrb]; exact hK1.next
    have hP0 : PlM s t2 rb id0 none d [] .nils := ⟨hm0.keep hK12, hi0, (fun j e => by cases e), g2, .nil _ _ _, (fun j e => by cases e), List.Pairwise.nil⟩
    have hKs2 := hK1.trans hK12
    have lrb : ltN rb (t1.push (.row [.bool false, .nils] true)) := by rw [hrb]; show t1.next < t1.next + 1; omega
    simp (config := {contextual := true, maxDischargeDepth := 12, maxSteps := 4000000}) only [tb_at, h0, h1, hlen, qli, qm, bin_np, ap_build, fillP_nil, fillP_cons, fs0, ← hrb, st1, lrb, hM, notV_bool, Bool.not_true, Bool.not_false, pickV_t, pickV_f, bin_eql, bin_neq, bin_neb, bin_npn, bin_np, bin_npnx, gcall_tt, gpure_tf, beq_self_eq_true, Bool.true_and, Bool.and_true, decide_true, decide_false, ↓bD, bU, forall_const, bS, implies_true, isNx, eq_self, ↓wp_cond, ↓wp_loop, ↓reduceIte, reduceCtorEq, Nat.reduceEqDiff, Nat.reduceLT, Nat.reduceAdd, Nat.reduceMul, bT, ↓sg_bsl, ↓st_callf, bX, ap_mkfn, ap_conv, ↓wi_seq, ↓wi_base, ↓wi_block, ↓wi_cond, ↓wi_loop, ↓wi_rf, ↓wy_seq, ↓wy_base, ↓wy_block, ↓wy_cond, ↓wy_loop, ↓wy_yld, ae_callvV, callvV_fn, List.append_nil, List.cons_append, List.nil_append, bin_nff, bin_nfn, bin_nffx, bin_nfnx, bin_streq, bin_bo_same, lstep_some, ↓st_load1nf, ↓st_loadnf, ↓st_appr, ↓st_appf0, bin_nfls, ap_lens, lensV_str, ↓sg_callf3, gcall_ff, gpure_ff0, q_known]
    obtain ⟨I, hI⟩ : ∃ I : Nat → Env → St → Prop, ∀ n e t, I n e t = (Keep s t ∧ ∃ (i : Nat) (id : Nat) (q : Option Nat) (L : List PrS) (rv : AV), n + i = M.length ∧ elen e = 87 ∧ E e 5 = .ptr id 0 ∧ E e 6 = .ptr rb 0 ∧ E e 22 = vl ∧ E e 23 = .int .i64 (M.length : Int) ∧ E e 24 = .int .i64 (i : Int) ∧ PlM s t rb id q d L rv ∧ L.length ≤ i) := ⟨fun n e t => (Keep s t ∧ ∃ (i : Nat) (id : Nat) (q : Option Nat) (L : List PrS) (rv : AV), n + i = M.length ∧ elen e = 87 ∧ E e 5 = .ptr id 0 ∧ E e 6 = .ptr rb 0 ∧ E e 22 = vl ∧ E e 23 = .int .i64 (M.length : Int) ∧ E e 24 = .int .i64 (i : Int) ∧ PlM s t rb id q d L rv ∧ L.length ≤ i), fun _ _ _ => rfl⟩
    refine lwp_inv I (n := M.length) ?_ ?_
    · rw [hI]
      exact ⟨hKs2, 0, id0, none, [], .nils, by omega, (by simp only [bE, Nat.reduceEqDiff, bN, Nat.reduceLT, hlen]; try rfl), (by simp only [bE, Nat.reduceEqDiff, bN, Nat.reduceLT, hlen]; try rfl), (by simp only [bE, Nat.reduceEqDiff, bN, Nat.reduceLT, hlen, ← hrb]; try rfl), (by simp only [bE, Nat.reduceEqDiff, bN, Nat.reduceLT, hlen, h1]; try rfl), (by simp only [bE, Nat.reduceEqDiff, bN, Nat.reduceLT, hlen]; try rfl), (by simp only [bE, Nat.reduceEqDiff, bN, Nat.reduceLT, hlen]; try rfl), hP0, Nat.le_refl _⟩
    clear h0 h1 hlen ha qli qm hP0
    intro n e t hi
    rw [hI] at hi
    obtain ⟨hK, i, id, q, L, rv, hni, he, e5, e6, e22, e23, e24, hP, hLi⟩ := hi
    by_cases hlt : i < M.length
    rotate_left
    · have y1 := eq_false (show ¬ (i : Int) < (M.length : Int) by omega)
      simp (config := {contextual := true, maxDischargeDepth := 12, maxSteps := 4000000}) only [tb_at, he, e5, e6, e22, e23, e24, hM, y1, notV_bool, Bool.not_true, Bool.not_false, pickV_t, pickV_f, bin_eql, bin_neq, bin_neb, bin_npn, bin_np, bin_npnx, gcall_tt, gpure_tf, beq_self_eq_true, Bool.true_and, Bool.and_true, decide_true, decide_false, ↓bD, bU, forall_const, bS, implies_true, isNx, eq_self, ↓wp_cond, ↓wp_loop, ↓reduceIte, reduceCtorEq, Nat.reduceEqDiff, Nat.reduceLT, Nat.reduceAdd, Nat.reduceMul, bT, ↓sg_bsl, ↓st_callf, bX, ap_mkfn, ap_conv, ↓wi_seq, ↓wi_base, ↓wi_block, ↓wi_cond, ↓wi_loop, ↓wi_rf, ↓wy_seq, ↓wy_base, ↓wy_block, ↓wy_cond, ↓wy_loop, ↓wy_yld, ae_callvV, callvV_fn, List.append_nil, List.cons_append, List.nil_append, bin_nff, bin_nfn, bin_nffx, bin_nfnx, bin_streq, bin_bo_same, lstep_some, ↓st_load1nf, ↓st_loadnf, ↓st_appr, ↓st_appf0, bin_nfls, ap_lens, lensV_str, ↓sg_callf3, gcall_ff, gpure_ff0, q_known]
      all_goals first | exact hK | skip
    have y1 := eq_true (show (i : Int) < (M.length : Int) by omega)
    have hw2 := wrap_add1 (n := i) (by omega)
    obtain ⟨ac, hac⟩ := getsome hlt
    obtain ⟨ka, kb, ks⟩ := hMk ac (List.mem_of_getElem? hac)
    obtain ⟨i1, i2, _, _, _, i3⟩ := ac_lods (hK.read hV) hac
    have st3 := sto_z3 (m := t.next) (t := t) rfl (a := .int .i64 ac.1) (b := .int .i64 ac.2.1) (c := .str ac.2.2) rfl rfl rfl [.int .i64 0, .int .i64 0, .str ⟨#[]⟩] rfl
    obtain ⟨tb, htb⟩ : ∃ tb, tb = t.lowed.push (.row [.int .i64 ac.1, .int .i64 ac.2.1, .str ac.2.2] true) := ⟨_, rfl⟩
    have hKb : Keep t tb := by rw [htb]; exact (keep_lowed t).push _
    have gb : tb.get t.next = some (.row [.int .i64 ac.1, .int .i64 ac.2.1, .str ac.2.2] true) := by rw [htb]; exact St.get_push_new t.lowed _
    rw [← htb] at st3
    obtain ⟨bx, hbx⟩ : ∃ bx, bx = t.next := ⟨_, rfl⟩
    rw [← hbx] at gb st3
    have lbx : ltN bx (t.push (.row [.int .i64 0, .int .i64 0, .str ⟨#[]⟩] true)) := by rw [hbx]; show t.next < t.next + 1; omega
    obtain ⟨a0, a1, a2, alt⟩ := row3_lod gb
    have hKsb := hK.trans hKb
    have hPb := hP.keep hKb
    have hrR := hPb.own.read
    have r2 := row2_lod2 hPb.rb
    have rlt := St.get_lt hPb.rb
    have qg := q_RGet false hrR (by omega) d ac.2.1
    rw [getV_eq] at qg
    by_cases c0 : ac.1 = 0
    · have z0 := eq_true c0
      obtain ⟨tc, qs, ⟨q', hm', hq'⟩, hC, _⟩ := q_sets hPb.mp hPb.srt ac.2.1 ac.2.2 (by omega)
      obtain ⟨grb, hOc, hsep, hqs⟩ := hPb.chg hC hq'
      have hsr' := put_srt hPb.srt ac.2.1 ac.2.2
      have hKsc : Keep s tc := hKsb.chgn hC fun k hk => by
        rcases List.mem_cons.1 hk with rfl | hk
        · exact hPb.hid
        · cases q with
          | none => simp at hk
          | some j => simp at hk; subst hk; exact hPb.hq k rfl
      have gbc := hC.blk gb (hPb.mp.n3 gb (.inl rfl))
      obtain ⟨b0, b1, b2, blt⟩ := row3_lod gbc
      have r3 := row2_lod2 grb
      have rlt3 := St.get_lt grb
      obtain ⟨rv', td, qrs, hOd, hKd⟩ := q_RSet hOc.read (by omega) d ac.2.1 ac.2.2
      rw [putR_put hPb.srt] at hOd
      have st4 := row2_sto2 (hKd.blk grb) (x := .bool d) (y := rv') rfl (own_one1 hOd).2
      have lt4 := St.get_lt (hKd.blk grb)
      obtain ⟨te, hte⟩ : ∃ te, te = td.put rb (.row [.bool d, rv'] true) := ⟨_, rfl⟩
      obtain ⟨hPe, hKe⟩ := PlM.next (s := s) hm' hPb.hid (fun j e => (hqs j e).1) grb hKsc.next hOd hKd hsr' hte hsrb (hKsc.trans hKd)
      rw [← hte] at st4
      have hle := put_len d L ac.2.1 ac.2.2
      have r5 := row2_lod2 hPe.rb
      have rlt5 := St.get_lt hPe.rb
      have gbe : te.get bx = some (.row [.int .i64 ac.1, .int .i64 ac.2.1, .str ac.2.2] true) := by
        rw [hte, St.get_put_ne _ _ lt4 fun e => by
          rw [e, grb] at gbc
          injection gbc with gbc
          injection gbc with gbc _
          cases gbc]
        exact hKd.blk gbc
      obtain ⟨d0, d1, d2, dlt⟩ := row3_lod gbe
      have ql := q_looks false hPe.mp hPe.own.read hPe.srt (by omega) (k := ac.2.1) (by omega) (by omega)
      simp (config := {contextual := true, maxDischargeDepth := 12, maxSteps := 4000000}) only [tb_at, he, e5, e6, e22, e23, e24, ← hbx, hM, y1, hw2, i1, i2, i3, st3, lbx, a0, a1, a2, alt, r2, rlt, qg, z0, qs, b0, b1, b2, blt, r3, rlt3, qrs, st4, lt4, r5, rlt5, d1, dlt, ql, notV_bool, Bool.not_true, Bool.not_false, pickV_t, pickV_f, bin_eql, bin_neq, bin_neb, bin_npn, bin_np, bin_npnx, gcall_tt, gpure_tf, beq_self_eq_true, Bool.true_and, Bool.and_true, decide_true, decide_false, ↓bD, bU, forall_const, bS, implies_true, isNx, eq_self, ↓wp_cond, ↓wp_loop, ↓reduceIte, reduceCtorEq, Nat.reduceEqDiff, Nat.reduceLT, Nat.reduceAdd, Nat.reduceMul, bT, ↓sg_bsl, ↓st_callf, bX, ap_mkfn, ap_conv, ↓wi_seq, ↓wi_base, ↓wi_block, ↓wi_cond, ↓wi_loop, ↓wi_rf, ↓wy_seq, ↓wy_base, ↓wy_block, ↓wy_cond, ↓wy_loop, ↓wy_yld, ae_callvV, callvV_fn, List.append_nil, List.cons_append, List.nil_append, bin_nff, bin_nfn, bin_nffx, bin_nfnx, bin_streq, bin_bo_same, lstep_some, ↓st_load1nf, ↓st_loadnf, ↓st_appr, ↓st_appf0, bin_nfls, ap_lens, lensV_str, ↓sg_callf3, gcall_ff, gpure_ff0, q_known]
      refine ⟨n - 1, by omega, ?_⟩
      rw [hI]
      exact ⟨hKe, i + 1, id, q', _, rv', by omega, (by simp only [bE, Nat.reduceEqDiff, bN, Nat.reduceLT, he, e5, e6, e22, e23, e24]; try rfl), (by simp only [bE, Nat.reduceEqDiff, bN, Nat.reduceLT, he, e5, e6, e22, e23, e24]; try rfl), (by simp only [bE, Nat.reduceEqDiff, bN, Nat.reduceLT, he, e5, e6, e22, e23, e24]; try rfl), (by simp only [bE, Nat.reduceEqDiff, bN, Nat.reduceLT, he, e5, e6, e22, e23, e24]; try rfl), (by simp only [bE, Nat.reduceEqDiff, bN, Nat.reduceLT, he, e5, e6, e22, e23, e24]; try rfl), (by simp only [bE, Nat.reduceEqDiff, bN, Nat.reduceLT, he, e5, e6, e22, e23, e24]; try rfl), hPe, by omega⟩
    have z0 := eq_false c0
    by_cases c1 : ac.1 = 1
    · have z1 := eq_true c1
      obtain ⟨tc, qs, ⟨q', hm', hq'⟩, hC⟩ := q_Delete hPb.mp hPb.srt ac.2.1
      obtain ⟨grb, hOc, hsep, hqs⟩ := hPb.chg hC hq'
      have hsr' := del_srt hPb.srt ac.2.1
      have hKsc : Keep s tc := hKsb.chgn hC fun k hk => by
        rcases List.mem_cons.1 hk with rfl | hk
        · exact hPb.hid
        · cases q with
          | none => simp at hk
          | some j => simp at hk; subst hk; exact hPb.hq k rfl
      have gbc := hC.blk gb (hPb.mp.n3 gb (.inl rfl))
      obtain ⟨b0, b1, b2, blt⟩ := row3_lod gbc
      have r3 := row2_lod2 grb
      have rlt3 := St.get_lt grb
      obtain ⟨rv', td, qrs, hOd, hKd⟩ := q_RDelete hOc.read (by omega) d ac.2.1
      rw [dropK_del hPb.srt] at hOd
      have st4 := row2_sto2 (hKd.blk grb) (x := .bool d) (y := rv') rfl (own_one1 hOd).2
      have lt4 := St.get_lt (hKd.blk grb)
      obtain ⟨te, hte⟩ : ∃ te, te = td.put rb (.row [.bool d, rv'] true) := ⟨_, rfl⟩
      obtain ⟨hPe, hKe⟩ := PlM.next (s := s) hm' hPb.hid (fun j e => (hqs j e).1) grb hKsc.next hOd hKd hsr' hte hsrb (hKsc.trans hKd)
      rw [← hte] at st4
      have hle := del_len d L ac.2.1
      have r5 := row2_lod2 hPe.rb
      have rlt5 := St.get_lt hPe.rb
      have gbe : te.get bx = some (.row [.int .i64 ac.1, .int .i64 ac.2.1, .str ac.2.2] true) := by
        rw [hte, St.get_put_ne _ _ lt4 fun e => by
          rw [e, grb] at gbc
          injection gbc with gbc
          injection gbc with gbc _
          cases gbc]
        exact hKd.blk gbc
      obtain ⟨d0, d1, d2, dlt⟩ := row3_lod gbe
      have ql := q_looks false hPe.mp hPe.own.read hPe.srt (by omega) (k := ac.2.1) (by omega) (by omega)
      simp (config := {contextual := true, maxDischargeDepth := 12, maxSteps := 4000000}) only [tb_at, he, e5, e6, e22, e23, e24, ← hbx, hM, y1, hw2, i1, i2, i3, st3, lbx, a0, a1, a2, alt, r2, rlt, qg, z0, z1, qs, b0, b1, b2, blt, r3, rlt3, qrs, st4, lt4, r5, rlt5, d1, dlt, ql, notV_bool, Bool.not_true, Bool.not_false, pickV_t, pickV_f, bin_eql, bin_neq, bin_neb, bin_npn, bin_np, bin_npnx, gcall_tt, gpure_tf, beq_self_eq_true, Bool.true_and, Bool.and_true, decide_true, decide_false, ↓bD, bU, forall_const, bS, implies_true, isNx, eq_self, ↓wp_cond, ↓wp_loop, ↓reduceIte, reduceCtorEq, Nat.reduceEqDiff, Nat.reduceLT, Nat.reduceAdd, Nat.reduceMul, bT, ↓sg_bsl, ↓st_callf, bX, ap_mkfn, ap_conv, ↓wi_seq, ↓wi_base, ↓wi_block, ↓wi_cond, ↓wi_loop, ↓wi_rf, ↓wy_seq, ↓wy_base, ↓wy_block, ↓wy_cond, ↓wy_loop, ↓wy_yld, ae_callvV, callvV_fn, List.append_nil, List.cons_append, List.nil_append, bin_nff, bin_nfn, bin_nffx, bin_nfnx, bin_streq, bin_bo_same, lstep_some, ↓st_load1nf, ↓st_loadnf, ↓st_appr, ↓st_appf0, bin_nfls, ap_lens, lensV_str, ↓sg_callf3, gcall_ff, gpure_ff0, q_known]
      refine ⟨n - 1, by omega, ?_⟩
      rw [hI]
      exact ⟨hKe, i + 1, id, q', _, rv', by omega, (by simp only [bE, Nat.reduceEqDiff, bN, Nat.reduceLT, he, e5, e6, e22, e23, e24]; try rfl), (by simp only [bE, Nat.reduceEqDiff, bN, Nat.reduceLT, he, e5, e6, e22, e23, e24]; try rfl), (by simp only [bE, Nat.reduceEqDiff, bN, Nat.reduceLT, he, e5, e6, e22, e23, e24]; try rfl), (by simp only [bE, Nat.reduceEqDiff, bN, Nat.reduceLT, he, e5, e6, e22, e23, e24]; try rfl), (by simp only [bE, Nat.reduceEqDiff, bN, Nat.reduceLT, he, e5, e6, e22, e23, e24]; try rfl), (by simp only [bE, Nat.reduceEqDiff, bN, Nat.reduceLT, he, e5, e6, e22, e23, e24]; try rfl), hPe, by omega⟩
    have z1 := eq_false c1
    by_cases c2 : ac.1 = 2
    · have z2 := eq_true c2
      have ql := q_looks false hPb.mp hrR hPb.srt (by omega) (k := ac.2.1) (by omega) (by omega)
      simp (config := {contextual := true, maxDischargeDepth := 12, maxSteps := 4000000}) only [tb_at, he, e5, e6, e22, e23, e24, ← hbx, hM, y1, hw2, i1, i2, i3, st3, lbx, a0, a1, a2, alt, r2, rlt, qg, z0, z1, z2, ql, notV_bool, Bool.not_true, Bool.not_false, pickV_t, pickV_f, bin_eql, bin_neq, bin_neb, bin_npn, bin_np, bin_npnx, gcall_tt, gpure_tf, beq_self_eq_true, Bool.true_and, Bool.and_true, decide_true, decide_false, ↓bD, bU, forall_const, bS, implies_true, isNx, eq_self, ↓wp_cond, ↓wp_loop, ↓reduceIte, reduceCtorEq, Nat.reduceEqDiff, Nat.reduceLT, Nat.reduceAdd, Nat.reduceMul, bT, ↓sg_bsl, ↓st_callf, bX, ap_mkfn, ap_conv, ↓wi_seq, ↓wi_base, ↓wi_block, ↓wi_cond, ↓wi_loop, ↓wi_rf, ↓wy_seq, ↓wy_base, ↓wy_block, ↓wy_cond, ↓wy_loop, ↓wy_yld, ae_callvV, callvV_fn, List.append_nil, List.cons_append, List.nil_append, bin_nff, bin_nfn, bin_nffx, bin_nfnx, bin_streq, bin_bo_same, lstep_some, ↓st_load1nf, ↓st_loadnf, ↓st_appr, ↓st_appf0, bin_nfls, ap_lens, lensV_str, ↓sg_callf3, gcall_ff, gpure_ff0, q_known]
      refine ⟨n - 1, by omega, ?_⟩
      rw [hI]
      exact ⟨hKsb, i + 1, id, q, L, rv, by omega, (by simp only [bE, Nat.reduceEqDiff, bN, Nat.reduceLT, he, e5, e6, e22, e23, e24]; try rfl), (by simp only [bE, Nat.reduceEqDiff, bN, Nat.reduceLT, he, e5, e6, e22, e23, e24]; try rfl), (by simp only [bE, Nat.reduceEqDiff, bN, Nat.reduceLT, he, e5, e6, e22, e23, e24]; try rfl), (by simp only [bE, Nat.reduceEqDiff, bN, Nat.reduceLT, he, e5, e6, e22, e23, e24]; try rfl), (by simp only [bE, Nat.reduceEqDiff, bN, Nat.reduceLT, he, e5, e6, e22, e23, e24]; try rfl), (by simp only [bE, Nat.reduceEqDiff, bN, Nat.reduceLT, he, e5, e6, e22, e23, e24]; try rfl), hPb, by omega⟩
    have z2 := eq_false c2
    obtain ⟨id', q', tc, qc, hmc, hic, hqc, hKc⟩ := q_Copy hPb.mp hPb.srt (by omega)
    have hPc := hPb.keep hKc
    have gbc := hKc.blk gb
    obtain ⟨b0, b1, b2, blt⟩ := row3_lod gbc
    obtain ⟨td, qs, ⟨q2, hmd, hq2⟩, hCd, _⟩ := q_Set hPc.mp hPc.srt ac.2.1 ⟨#[111, 108, 100]⟩ (by omega)
    obtain ⟨va, vb, hab⟩ := atomsG (gtD d L ac.2.1)
    rw [hab] at qs
    obtain ⟨te, qd, _, hCe⟩ := q_Delete hmd (put_srt hPc.srt _ _) 0
    have hidb := St.get_lt hPb.mp.box
    have nid : id' ∉ id :: q.toList := by
      cases hq : q with
      | none => simp; omega
      | some j =>
        have := St.get_lt (hPb.mp.dat j hq).2
        simp
        omega
    have nq : ∀ j, q' = some j → j ∉ id :: q.toList := fun j e => by
      have := hqc j e
      cases hq : q with
      | none => simp; omega
      | some j0 =>
        have := St.get_lt (hPb.mp.dat j0 hq).2
        simp
        omega
    have hmd' := hmc.chg hCd nid nq
    have hcl := St.get_lt hmc.box
    have nid2 : id' ∉ id :: q2.toList := by
      cases hq : q2 with
      | none => simp; omega
      | some j =>
        rcases hq2 j hq with e | e
        · have := St.get_lt (hPb.mp.dat j e).2
          simp
          omega
        · simp
          omega
    have nq2 : ∀ j, q' = some j → j ∉ id :: q2.toList := fun j e => by
      have h1 := hqc j e
      have h2 := St.get_lt (hmc.dat j e).2
      cases hq : q2 with
      | none => simp; omega
      | some j0 =>
        rcases hq2 j0 hq with e' | e'
        · have := St.get_lt (hPb.mp.dat j0 e').2
          simp
          omega
        · simp
          omega
    have hme := hmd'.chg hCe nid2 nq2
    obtain ⟨grd, hOd, hsepd, hqd⟩ := hPc.chg hCd hq2
    have gbd := hCd.blk gbc (hPc.mp.n3 gbc (.inl rfl))
    obtain ⟨d0, d1, d2, dlt⟩ := row3_lod gbd
    have gre := hCe.blk grd (hmd.nb grd)
    have hOe : Own prC s te rv L := by
      rcases hOd with e | ⟨j, e, h1, h2, h3⟩
      · exact .inl e
      · refine .inr ⟨j, e, h1, h2, hCe.blk h3 fun hm => ?_⟩
        rcases List.mem_cons.1 hm with rfl | hm
        · have := hmd.box
          rw [h3] at this
          injection this with this
          injection this with this _
          cases L with
          | nil => exact h1 rfl
          | cons y r =>
            rw [pr_cells2] at this
            injection this with this _
            cases d <;> cases this
        · cases hq : q2 with
          | none => rw [hq] at hm; simp at hm
          | some j0 =>
            rw [hq] at hm
            simp at hm
            subst hm
            exact hsepd j hq 0 _ none _ e
    have hKse : Keep s te := by
      refine ((hKsb.trans hKc).chgn hCd fun k hk => ?_).chgn hCe fun k hk => ?_
      · rcases List.mem_cons.1 hk with rfl | hk
        · exact hPb.hid
        · cases hq : q with
          | none => rw [hq] at hk; simp at hk
          | some j => rw [hq] at hk; simp at hk; subst hk; exact hPb.hq k hq
      · rcases List.mem_cons.1 hk with rfl | hk
        · exact hPb.hid
        · cases hq : q2 with
          | none => rw [hq] at hk; simp at hk
          | some j => rw [hq] at hk; simp at hk; subst hk; exact (hqd k hq).1
    have hKn := hKsb.next
    have hPe : PlM s te rb id' q' d L rv := ⟨hme, by omega, (fun j e => by have := hqc j e; omega), gre, hOe, (fun j e o n c z e2 => by
      have h1 := hqc j e
      rcases hPb.own with ⟨e3, _⟩ | ⟨j2, e3, _, _, h3⟩
      · rw [e3] at e2; cases e2
      · rw [e3] at e2
        injection e2 with e2
        have := St.get_lt h3
        omega), hPb.srt⟩
    have r5 := row2_lod2 hPe.rb
    have rlt5 := St.get_lt hPe.rb
    have gbe := hCe.blk gbd (hmd.n3 gbd (.inl rfl))
    obtain ⟨f0, f1, f2, flt⟩ := row3_lod gbe
    have ql := q_looks false hPe.mp hPe.own.read hPe.srt (by omega) (k := ac.2.1) (by omega) (by omega)
    simp (config := {contextual := true, maxDischargeDepth := 12, maxSteps := 4000000}) only [tb_at, he, e5, e6, e22, e23, e24, ← hbx, hM, y1, hw2, i1, i2, i3, st3, lbx, a0, a1, a2, alt, r2, rlt, qg, z0, z1, z2, bin_np, qc, b0, b1, b2, blt, qs, qd, r5, rlt5, f1, flt, ql, notV_bool, Bool.not_true, Bool.not_false, pickV_t, pickV_f, bin_eql, bin_neq, bin_neb, bin_npn, bin_np, bin_npnx, gcall_tt, gpure_tf, beq_self_eq_true, Bool.true_and, Bool.and_true, decide_true, decide_false, ↓bD, bU, forall_const, bS, implies_true, isNx, eq_self, ↓wp_cond, ↓wp_loop, ↓reduceIte, reduceCtorEq, Nat.reduceEqDiff, Nat.reduceLT, Nat.reduceAdd, Nat.reduceMul, bT, ↓sg_bsl, ↓st_callf, bX, ap_mkfn, ap_conv, ↓wi_seq, ↓wi_base, ↓wi_block, ↓wi_cond, ↓wi_loop, ↓wi_rf, ↓wy_seq, ↓wy_base, ↓wy_block, ↓wy_cond, ↓wy_loop, ↓wy_yld, ae_callvV, callvV_fn, List.append_nil, List.cons_append, List.nil_append, bin_nff, bin_nfn, bin_nffx, bin_nfnx, bin_streq, bin_bo_same, lstep_some, ↓st_load1nf, ↓st_loadnf, ↓st_appr, ↓st_appf0, bin_nfls, ap_lens, lensV_str, ↓sg_callf3, gcall_ff, gpure_ff0, q_known]
    refine ⟨n - 1, by omega, ?_⟩
    rw [hI]
    exact ⟨hKse, i + 1, id', q', L, rv, by omega, (by simp only [bE, Nat.reduceEqDiff, bN, Nat.reduceLT, he, e5, e6, e22, e23, e24]; try rfl), (by simp only [bE, Nat.reduceEqDiff, bN, Nat.reduceLT, he, e5, e6, e22, e23, e24]; try rfl), (by simp only [bE, Nat.reduceEqDiff, bN, Nat.reduceLT, he, e5, e6, e22, e23, e24]; try rfl), (by simp only [bE, Nat.reduceEqDiff, bN, Nat.reduceLT, he, e5, e6, e22, e23, e24]; try rfl), (by simp only [bE, Nat.reduceEqDiff, bN, Nat.reduceLT, he, e5, e6, e22, e23, e24]; try rfl), (by simp only [bE, Nat.reduceEqDiff, bN, Nat.reduceLT, he, e5, e6, e22, e23, e24]; try rfl), hPe, by omega⟩

end Go.AM
end
