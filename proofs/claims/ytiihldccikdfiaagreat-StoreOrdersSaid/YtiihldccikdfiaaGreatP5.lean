/-
  The reference of layer 10: Put, Of. Own work of this project; in part printed by a program of it.
-/
import Derived.Test.YtiihldccikdfiaaGreatP4
import Derived.KernelRfl
import Derived.ProofKit
import Derived.Carry
import Derived.Deep.Slices
import Derived.HandedShaped
import Derived.OpenShut
section
set_option linter.unusedVariables false
set_option linter.unusedSimpArgs false
set_option maxRecDepth 100000
set_option maxHeartbeats 8000000
namespace Go.AM
open Go Go.Proofs

variable {s t u : St}

theorem bsl_nd {x : Nd} : bslV [.int .i64 0, .int .i64 0, .int .i64 0, .int .i64 0, .int .i64 0, .int .i32 0] 1 6 [(0, .agg (Nd.av x))] = some (fun id => .sl id 0 1 (some 1) 6, .row (Nd.av x) true) := nrfl rfl
theorem drop_at {l : List Nd} {i : Nat} {x : Nd} (hx : l[i]? = some x) : l.drop i = x :: l.drop (i + 1) := by
  obtain ⟨h1, rfl⟩ := List.getElem?_eq_some_iff.1 hx
  exact List.drop_eq_getElem_cons h1
noncomputable def R_RPut : Con := runFn (tb [(44, R_RLess), (47, R_RNMerge)]) a16
theorem s_RPut : SoundAt Tryz.prog 16 R_RPut := run_sound (tb_sound (l := [(44, R_RLess), (47, R_RNMerge)]) (by simpa using ⟨s_RLess, s_RNMerge⟩)) mixed Tryz.func16 k16 c16
theorem n_RPut : noNxtC a16.body = true := by kernel_rfl

theorem own_vidsN {v : AV} {l : List Nd} (h : Own ndC s t v l) : ∀ id ∈ vids v, s.next ≤ id := by
  rcases h with ⟨rfl, _⟩ | ⟨j, rfl, h0, h1, _⟩
  · intro id hid; simp [vids] at hid
  · intro id hid
    simp [vids] at hid
    rw [hid]; exact h1
theorem w_RPut {s : St} {vl : AV} {l : List Nd} (hr : read ndC s vl = some l) (hc : CapOK vl) (hl : l.length ≤ 200000) (nn : Nd) : ∀ env : Env, elen env = a16.ntmps → (∀ i x_, [vl, .agg (Nd.av nn)][i]? = some x_ → E env i = x_) → awp (tb [(44, R_RLess), (47, R_RNMerge)]) a16.body (fun x e t => (∀ i, x ≠ .exit i) ∧ Keep s t ∧ ∃ r, aresults e t a16.results = some (.tup [r, .int .i64 (rput l nn).2]) ∧ Own ndC s t r (rput l nn).1) env s := by
  intro env hlen ha
  have h0 : E env 0 = _ := ha 0 _ rfl
  have h1 : E env 1 = _ := ha 1 _ rfl
  have hlen : elen env = _ := hlen
  simp only [a16] at hlen
  unfold a16
  try dsimp only [oO, oG]
  have hL := lenV_read hr
  have hK1 : Keep s (s.push (.row (Nd.av nn) true)) := (Keep.refl s).push _
  obtain ⟨b1, b2, b3, b4, b5, b6⟩ := box_nd s nn (.refl _)
  simp (config := {contextual := true, maxDischargeDepth := 12}) only [tb_at, h0, h1, hlen, hL, ↓bD, bU, forall_const, List.all_cons, List.all_nil, Option.map_some, List.map_cons, List.map_nil, ne_eq, implies_true, isNx, eq_self, ↓wp_cond, ↓wp_loop, ↓reduceIte, reduceCtorEq, Nat.reduceEqDiff, Nat.reduceLT, Nat.reduceAdd, Nat.reduceMul, Int.ofNat_lt, Int.ofNat_le, exists_const, Option.map_none, beq_self_eq_true, decide_true, ↓sg_bsl, ↓st_callf, bX, ap_mkfn, ae_callvV, callvV_fn, List.cons_append, List.nil_append, boxV_i, boxV_dot, sto_dot, ap_conv, convV_int, bslV_0, fstep_d0, fstep_d1, bsl_dot, ae_appz, ap_cap, capV_nils, slcV_nils0, slcV_sl0, wrap_0, ae_clr, boxV_f, fstep_f, lod_new2, ↓st_appf, slcV_nils0N, slcV_sl0N, bslV_0N, bin_shr1, bsl_nd]
  obtain ⟨I, hI⟩ : ∃ I : Nat → Env → St → Prop, ∀ n e t, I n e t = (t = s.push (.row (Nd.av nn) true) ∧ ∃ i : Nat, n + i = l.length ∧ elen e = 64 ∧ E e 0 = vl ∧ E e 3 = .ptr s.next 0 ∧ E e 6 = .int .i64 (i : Int) ∧ i ≤ l.length ∧ ∀ k y, k < i → l[k]? = some y → y.d.before nn.d = true) := ⟨fun n e t => (t = s.push (.row (Nd.av nn) true) ∧ ∃ i : Nat, n + i = l.length ∧ elen e = 64 ∧ E e 0 = vl ∧ E e 3 = .ptr s.next 0 ∧ E e 6 = .int .i64 (i : Int) ∧ i ≤ l.length ∧ ∀ k y, k < i → l[k]? = some y → y.d.before nn.d = true), fun _ _ _ => rfl⟩
  refine lwp_inv I (n := l.length) ?_ ?_
  · rw [hI]
    exact ⟨rfl, 0, by omega, (by simp only [bE, Nat.reduceEqDiff, ne_eq, not_false_eq_true, Nat.reduceLT, hlen]; try rfl), (by simp only [bE, Nat.reduceEqDiff, ne_eq, not_false_eq_true, Nat.reduceLT, hlen, h0]; try rfl), (by simp only [bE, Nat.reduceEqDiff, ne_eq, not_false_eq_true, Nat.reduceLT, hlen]; try rfl), (by simp only [bE, Nat.reduceEqDiff, ne_eq, not_false_eq_true, Nat.reduceLT, hlen]; try rfl), by omega, fun k y hk => by omega⟩
  intro n e t hi
  rw [hI] at hi
  obtain ⟨hK, i, hni, he, e0, e3, e6, hil, hpre⟩ := hi
  subst hK
  by_cases hlt : i < l.length
  · obtain ⟨x, hx⟩ := getsome hlt
    have hw2 := wrap_add1 (n := i) (by omega)
    obtain ⟨a1, a2, a3, a5, a6, a4⟩ := nd_lods hr hK1 hx
    have i1 := nd_idx hr hx .i64
    have hq := q_RLess false x.d nn.d (s := s.push (.row (Nd.av nn) true))
    cases hb : x.d.before nn.d
    · rw [hb] at hq
      have hstop : ∀ y, l[i]? = some y → y.d.before nn.d = false := fun y hy => by
        rw [hx] at hy
        injection hy with hy
        rw [← hy]; exact hb
      have hk : kOf l nn.d = i := kOf_eq hil hpre hstop
      obtain ⟨v2, sl2, rd2⟩ := slc_lo (C := ndC) hr (k := .i64) (i := (i : Int)) rfl hil
      have sl2 : slcV 6 vl (some (.int .i64 (i : Int))) none = some v2 := sl2
      have hr2 := rd2 _ hK1
      have hL2 := lenV_read hr2
      have hKT : Keep s (s.push (.row (Nd.av nn) true)) := hK1
      have hbx : (s.push (.row (Nd.av nn) true)).get s.next = some (.row (Nd.av nn) true) := St.get_push_new _ _
      have hdr := drop_at hx
      have hx2 : (l.drop i)[0]? = some x := by rw [hdr]; rfl
      obtain ⟨c1, c2, c3, c5, c6, c4⟩ := nd_lods hr2 (.refl _) hx2
      have i2 := nd_idx hr2 hx2 .i64
      rw [Nat.zero_mul, Nat.add_zero] at c1 c2 i2
      have i2 : iadV 6 v2 (.int .i64 0) = some (.ptr (bid v2) (boff v2)) := i2
      have hz : ((0 : Int) < (((l.drop i).length : Nat) : Int)) = True := eq_true (by rw [hdr]; simp)
      by_cases hd : x.d = nn.d
      · have hzd := eq_true hd
        cases hcl : x.clash nn
        · have hm : ∀ u, acall R_RNMerge false [.agg (Nd.av x), .agg (Nd.av nn)] u = some (.tup [.agg (Nd.av (pmerge x nn)), .int .i64 0], u) := fun u => by rw [q_RNMerge]; simp [rmergeV, hcl]
          obtain ⟨m, hmd⟩ : ∃ m, m = pmerge x nn := ⟨_, rfl⟩
          rw [← hmd] at hm
          have hw : rput l nn = (l.take i ++ m :: l.drop (i + 1), 0) := by unfold rput; rw [hk, hdr, hmd]; simp [hd, hcl]
          obtain ⟨v3, sl3, rd3⟩ := slc_lo (C := ndC) (rd2 _ (.refl s)) (k := .i64) (i := 1) (n := 1) rfl (by rw [hdr]; simp)
          have sl3 : slcV 6 v2 (some (.int .i64 1)) none = some v3 := sl3
          have hKT : Keep s ((s.lowed.push (.row (Nd.av m) true)).lowed.push (.row (Nd.av m) true)) := (((Keep.refl s).lowed.push _).lowed).push _
          have hbx : ((s.lowed.push (.row (Nd.av m) true)).lowed.push (.row (Nd.av m) true)).get s.next = some (.row (Nd.av m) true) := (((Keep.refl (s.lowed.push (.row (Nd.av m) true))).lowed).push _).blk (St.get_push_new s.lowed _)
          have hso : sto (s.push (.row (Nd.av nn) true)) 6 (.ptr s.next 0) (.agg (Nd.av m)) = some (.und, s.lowed.push (.row (Nd.av m) true)) := sto_over rfl nn m
          have h00 : ((0 : Int) = 0) = True := eq_true rfl
          obtain ⟨v1, sl1, rd1⟩ := slc_hi (C := ndC) hr hc (k := .i64) (i := (i : Int)) rfl hil
          have sl1 : slcV 6 vl none (some (.int .i64 (i : Int))) = some v1 := sl1
          have hKR1 : Keep ((s.lowed.push (.row (Nd.av m) true)).lowed.push (.row (Nd.av m) true)) (((s.lowed.push (.row (Nd.av m) true)).lowed.push (.row (Nd.av m) true)).reserve 1) := keep_reserve _ 1
          have hKR : Keep s (((s.lowed.push (.row (Nd.av m) true)).lowed.push (.row (Nd.av m) true)).reserve 1) := hKT.trans hKR1
          obtain ⟨w1, t1, ap1, hO1, hKt1⟩ := appF_nilN (rd1 _ hKR) (by rw [List.length_take]; omega)
          have hun : t1.get ((s.lowed.push (.row (Nd.av m) true)).lowed.push (.row (Nd.av m) true)).next = some .unborn := by rw [hKt1.get _ (by simp), St.get_reserve]; simp
          have hbx' : t1.get s.next = some (.row (Nd.av m) true) := (hKR1.trans hKt1).blk hbx
          have bb1 : lod t1 6 (.ptr s.next 0) = some (.agg (Nd.av m)) := by simp [lod, hbx', Nd.av]
          have bb2 : ltN s.next t1 := St.get_lt hbx'
          have hK2 : Keep s (t1.born ((s.lowed.push (.row (Nd.av m) true)).lowed.push (.row (Nd.av m) true)).next (.row (Nd.av m) true)) := born_keep hun _ hKT.next (hKR.trans hKt1)
          have hO2 : Own ndC s (t1.born ((s.lowed.push (.row (Nd.av m) true)).lowed.push (.row (Nd.av m) true)).next (.row (Nd.av m) true)) w1 (l.take i) := (own_bornN hO1 hun fun j hj => by
            have := own_vidsN hO1 j hj
            simp at this ⊢
            omega).from (by have := hKR.next; exact this)
          have hrd : read ndC (t1.born ((s.lowed.push (.row (Nd.av m) true)).lowed.push (.row (Nd.av m) true)).next (.row (Nd.av m) true)) (.sl ((s.lowed.push (.row (Nd.av m) true)).lowed.push (.row (Nd.av m) true)).next 0 1 (some 1) 6) = some [m] := by
            refine read_of (C := ndC) (n := 1) rfl (born_self hun _) (by simp [Nd.av, ndC]) ?_
            rw [cells_one]
            rfl
          obtain ⟨w2, t2, ap2, hK3, hO3⟩ := appV_list (C := ndC) hK2 hO2 hrd 48 (by rw [List.length_take]; simp; unfold roomBytes; omega)
          obtain ⟨w3, t3, ap3, hK4, hO4⟩ := appV_list (C := ndC) hK3 hO3 (rd3 _ hK3) 48 (by rw [List.length_append, List.length_take]; simp; unfold roomBytes; omega)
          have ap2 : appV (t1.born ((s.lowed.push (.row (Nd.av m) true)).lowed.push (.row (Nd.av m) true)).next (.row (Nd.av m) true)) 6 48 w1 (.sl ((s.lowed.push (.row (Nd.av m) true)).lowed.push (.row (Nd.av m) true)).next 0 1 (some 1) 6) = some (w2, t2) := ap2
          have ap3 : appV t2 6 48 w2 v3 = some (w3, t3) := ap3
          simp (config := {contextual := true, maxDischargeDepth := 12}) only [tb_at, he, e0, e3, e6, hL, b1, b2, b6, sl2, hL2, reserve0, hz, i2, c1, c2, c4, hlt, a1, a2, a4, i1, hq, hzd, hm, sl3, b6, hso, h00, sl1, ap1, hun, bb1, bb2, ap2, ap3, ↓bD, bU, forall_const, List.all_cons, List.all_nil, Option.map_some, List.map_cons, List.map_nil, ne_eq, implies_true, isNx, eq_self, ↓wp_cond, ↓wp_loop, ↓reduceIte, reduceCtorEq, Nat.reduceEqDiff, Nat.reduceLT, Nat.reduceAdd, Nat.reduceMul, Int.ofNat_lt, Int.ofNat_le, exists_const, Option.map_none, beq_self_eq_true, decide_true, ↓sg_bsl, ↓st_callf, bX, ap_mkfn, ae_callvV, callvV_fn, List.cons_append, List.nil_append, boxV_i, boxV_dot, sto_dot, ap_conv, convV_int, bslV_0, fstep_d0, fstep_d1, bsl_dot, ae_appz, ap_cap, capV_nils, slcV_nils0, slcV_sl0, wrap_0, ae_clr, boxV_f, fstep_f, lod_new2, ↓st_appf, slcV_nils0N, slcV_sl0N, bslV_0N, bin_shr1, bsl_nd]
          exact ⟨hK4, _, by rw [hw], by rw [hw]; simpa using hO4⟩
        · have hm : ∀ u, acall R_RNMerge false [.agg (Nd.av x), .agg (Nd.av nn)] u = some (.tup [.agg (Nd.av nd0), .int .i64 15], u) := fun u => by rw [q_RNMerge]; simp [rmergeV, hcl]
          have hw : rput l nn = ([], 15) := by unfold rput; rw [hk, hdr]; simp [hd, hcl]
          have h15 : ((15 : Int) = 0) = False := eq_false (by decide)
          simp (config := {contextual := true, maxDischargeDepth := 12}) only [tb_at, he, e0, e3, e6, hL, b1, b2, b6, sl2, hL2, reserve0, hz, i2, c1, c2, c4, hlt, a1, a2, a4, i1, hq, hzd, hm, hw, b6, h15, ↓bD, bU, forall_const, List.all_cons, List.all_nil, Option.map_some, List.map_cons, List.map_nil, ne_eq, implies_true, isNx, eq_self, ↓wp_cond, ↓wp_loop, ↓reduceIte, reduceCtorEq, Nat.reduceEqDiff, Nat.reduceLT, Nat.reduceAdd, Nat.reduceMul, Int.ofNat_lt, Int.ofNat_le, exists_const, Option.map_none, beq_self_eq_true, decide_true, ↓sg_bsl, ↓st_callf, bX, ap_mkfn, ae_callvV, callvV_fn, List.cons_append, List.nil_append, boxV_i, boxV_dot, sto_dot, ap_conv, convV_int, bslV_0, fstep_d0, fstep_d1, bsl_dot, ae_appz, ap_cap, capV_nils, slcV_nils0, slcV_sl0, wrap_0, ae_clr, boxV_f, fstep_f, lod_new2, ↓st_appf, slcV_nils0N, slcV_sl0N, bslV_0N, bin_shr1, bsl_nd]
          all_goals first | exact ⟨_, rfl, .nil _ _ _, hK1.push _⟩ | exact ⟨_, rfl, .nil _ _ _⟩ | skip
      · have hzd := eq_false hd
        have hw : rput l nn = (l.take i ++ [nn] ++ l.drop i, 0) := by unfold rput; rw [hk, hdr]; simp [hd]
        obtain ⟨v1, sl1, rd1⟩ := slc_hi (C := ndC) hr hc (k := .i64) (i := (i : Int)) rfl hil
        have sl1 : slcV 6 vl none (some (.int .i64 (i : Int))) = some v1 := sl1
        have hKR1 : Keep (s.push (.row (Nd.av nn) true)) ((s.push (.row (Nd.av nn) true)).reserve 1) := keep_reserve _ 1
        have hKR : Keep s ((s.push (.row (Nd.av nn) true)).reserve 1) := hKT.trans hKR1
        obtain ⟨w1, t1, ap1, hO1, hKt1⟩ := appF_nilN (rd1 _ hKR) (by rw [List.length_take]; omega)
        have hun : t1.get (s.push (.row (Nd.av nn) true)).next = some .unborn := by rw [hKt1.get _ (by simp), St.get_reserve]; simp
        have hbx' : t1.get s.next = some (.row (Nd.av nn) true) := (hKR1.trans hKt1).blk hbx
        have bb1 : lod t1 6 (.ptr s.next 0) = some (.agg (Nd.av nn)) := by simp [lod, hbx', Nd.av]
        have bb2 : ltN s.next t1 := St.get_lt hbx'
        have hK2 : Keep s (t1.born (s.push (.row (Nd.av nn) true)).next (.row (Nd.av nn) true)) := born_keep hun _ hKT.next (hKR.trans hKt1)
        have hO2 : Own ndC s (t1.born (s.push (.row (Nd.av nn) true)).next (.row (Nd.av nn) true)) w1 (l.take i) := (own_bornN hO1 hun fun j hj => by
          have := own_vidsN hO1 j hj
          simp at this ⊢
          omega).from (by have := hKR.next; exact this)
        have hrd : read ndC (t1.born (s.push (.row (Nd.av nn) true)).next (.row (Nd.av nn) true)) (.sl (s.push (.row (Nd.av nn) true)).next 0 1 (some 1) 6) = some [nn] := by
          refine read_of (C := ndC) (n := 1) rfl (born_self hun _) (by simp [Nd.av, ndC]) ?_
          rw [cells_one]
          rfl
        obtain ⟨w2, t2, ap2, hK3, hO3⟩ := appV_list (C := ndC) hK2 hO2 hrd 48 (by rw [List.length_take]; simp; unfold roomBytes; omega)
        obtain ⟨w3, t3, ap3, hK4, hO4⟩ := appV_list (C := ndC) hK3 hO3 (rd2 _ hK3) 48 (by rw [List.length_append, List.length_take]; simp; unfold roomBytes; omega)
        have ap2 : appV (t1.born (s.push (.row (Nd.av nn) true)).next (.row (Nd.av nn) true)) 6 48 w1 (.sl (s.push (.row (Nd.av nn) true)).next 0 1 (some 1) 6) = some (w2, t2) := ap2
        have ap3 : appV t2 6 48 w2 v2 = some (w3, t3) := ap3
        simp (config := {contextual := true, maxDischargeDepth := 12}) only [tb_at, he, e0, e3, e6, hL, b1, b2, b6, sl2, hL2, reserve0, hz, i2, c1, c2, c4, hlt, a1, a2, a4, i1, hq, hzd, sl1, ap1, hun, bb1, bb2, ap2, ap3, ↓bD, bU, forall_const, List.all_cons, List.all_nil, Option.map_some, List.map_cons, List.map_nil, ne_eq, implies_true, isNx, eq_self, ↓wp_cond, ↓wp_loop, ↓reduceIte, reduceCtorEq, Nat.reduceEqDiff, Nat.reduceLT, Nat.reduceAdd, Nat.reduceMul, Int.ofNat_lt, Int.ofNat_le, exists_const, Option.map_none, beq_self_eq_true, decide_true, ↓sg_bsl, ↓st_callf, bX, ap_mkfn, ae_callvV, callvV_fn, List.cons_append, List.nil_append, boxV_i, boxV_dot, sto_dot, ap_conv, convV_int, bslV_0, fstep_d0, fstep_d1, bsl_dot, ae_appz, ap_cap, capV_nils, slcV_nils0, slcV_sl0, wrap_0, ae_clr, boxV_f, fstep_f, lod_new2, ↓st_appf, slcV_nils0N, slcV_sl0N, bslV_0N, bin_shr1, bsl_nd]
        exact ⟨hK4, _, by rw [hw], by rw [hw]; exact hO4⟩
    · rw [hb] at hq
      simp (config := {contextual := true, maxDischargeDepth := 12}) only [tb_at, he, e0, e3, e6, hL, b1, b2, b6, reserve0, hlt, a1, a2, a4, i1, hq, hw2, ↓bD, bU, forall_const, List.all_cons, List.all_nil, Option.map_some, List.map_cons, List.map_nil, ne_eq, implies_true, isNx, eq_self, ↓wp_cond, ↓wp_loop, ↓reduceIte, reduceCtorEq, Nat.reduceEqDiff, Nat.reduceLT, Nat.reduceAdd, Nat.reduceMul, Int.ofNat_lt, Int.ofNat_le, exists_const, Option.map_none, beq_self_eq_true, decide_true, ↓sg_bsl, ↓st_callf, bX, ap_mkfn, ae_callvV, callvV_fn, List.cons_append, List.nil_append, boxV_i, boxV_dot, sto_dot, ap_conv, convV_int, bslV_0, fstep_d0, fstep_d1, bsl_dot, ae_appz, ap_cap, capV_nils, slcV_nils0, slcV_sl0, wrap_0, ae_clr, boxV_f, fstep_f, lod_new2, ↓st_appf, slcV_nils0N, slcV_sl0N, bslV_0N, bin_shr1, bsl_nd]
      refine ⟨n - 1, by omega, ?_⟩
      rw [hI]
      exact ⟨rfl, i + 1, by omega, (by simp only [bE, Nat.reduceEqDiff, ne_eq, not_false_eq_true, Nat.reduceLT, he, e0, e3, e6]; try rfl), (by simp only [bE, Nat.reduceEqDiff, ne_eq, not_false_eq_true, Nat.reduceLT, he, e0, e3, e6]; try rfl), (by simp only [bE, Nat.reduceEqDiff, ne_eq, not_false_eq_true, Nat.reduceLT, he, e0, e3, e6]; try rfl), (by simp only [bE, Nat.reduceEqDiff, ne_eq, not_false_eq_true, Nat.reduceLT, he, e0, e3, e6]; try rfl), by omega, pre_next (P := fun k y => y.d.before nn.d = true) hx hpre hb⟩
  · have hstop : ∀ y, l[i]? = some y → y.d.before nn.d = false := fun y hy => absurd (getlt hy) hlt
    have hk : kOf l nn.d = i := kOf_eq hil hpre hstop
    obtain ⟨v2, sl2, rd2⟩ := slc_lo (C := ndC) hr (k := .i64) (i := (i : Int)) rfl hil
    have sl2 : slcV 6 vl (some (.int .i64 (i : Int))) none = some v2 := sl2
    have hr2 := rd2 _ hK1
    have hL2 := lenV_read hr2
    have hKT : Keep s (s.push (.row (Nd.av nn) true)) := hK1
    have hbx : (s.push (.row (Nd.av nn) true)).get s.next = some (.row (Nd.av nn) true) := St.get_push_new _ _
    have hd0 : l.drop i = [] := List.drop_eq_nil_of_le (by omega)
    rw [hd0] at hL2 rd2
    have hz : ((0 : Int) < ((([] : List Nd).length : Nat) : Int)) = False := eq_false (by simp)
    have hw : rput l nn = (l.take i ++ [nn], 0) := by unfold rput; rw [hk, hd0]
    obtain ⟨v1, sl1, rd1⟩ := slc_hi (C := ndC) hr hc (k := .i64) (i := (i : Int)) rfl hil
    have sl1 : slcV 6 vl none (some (.int .i64 (i : Int))) = some v1 := sl1
    have hKR1 : Keep (s.push (.row (Nd.av nn) true)) ((s.push (.row (Nd.av nn) true)).reserve 1) := keep_reserve _ 1
    have hKR : Keep s ((s.push (.row (Nd.av nn) true)).reserve 1) := hKT.trans hKR1
    obtain ⟨w1, t1, ap1, hO1, hKt1⟩ := appF_nilN (rd1 _ hKR) (by rw [List.length_take]; omega)
    have hun : t1.get (s.push (.row (Nd.av nn) true)).next = some .unborn := by rw [hKt1.get _ (by simp), St.get_reserve]; simp
    have hbx' : t1.get s.next = some (.row (Nd.av nn) true) := (hKR1.trans hKt1).blk hbx
    have bb1 : lod t1 6 (.ptr s.next 0) = some (.agg (Nd.av nn)) := by simp [lod, hbx', Nd.av]
    have bb2 : ltN s.next t1 := St.get_lt hbx'
    have hK2 : Keep s (t1.born (s.push (.row (Nd.av nn) true)).next (.row (Nd.av nn) true)) := born_keep hun _ hKT.next (hKR.trans hKt1)
    have hO2 : Own ndC s (t1.born (s.push (.row (Nd.av nn) true)).next (.row (Nd.av nn) true)) w1 (l.take i) := (own_bornN hO1 hun fun j hj => by
      have := own_vidsN hO1 j hj
      simp at this ⊢
      omega).from (by have := hKR.next; exact this)
    have hrd : read ndC (t1.born (s.push (.row (Nd.av nn) true)).next (.row (Nd.av nn) true)) (.sl (s.push (.row (Nd.av nn) true)).next 0 1 (some 1) 6) = some [nn] := by
      refine read_of (C := ndC) (n := 1) rfl (born_self hun _) (by simp [Nd.av, ndC]) ?_
      rw [cells_one]
      rfl
    obtain ⟨w2, t2, ap2, hK3, hO3⟩ := appV_list (C := ndC) hK2 hO2 hrd 48 (by rw [List.length_take]; simp; unfold roomBytes; omega)
    obtain ⟨w3, t3, ap3, hK4, hO4⟩ := appV_list (C := ndC) hK3 hO3 (rd2 _ hK3) 48 (by rw [List.length_append, List.length_take]; simp; unfold roomBytes; omega)
    have ap2 : appV (t1.born (s.push (.row (Nd.av nn) true)).next (.row (Nd.av nn) true)) 6 48 w1 (.sl (s.push (.row (Nd.av nn) true)).next 0 1 (some 1) 6) = some (w2, t2) := ap2
    have ap3 : appV t2 6 48 w2 v2 = some (w3, t3) := ap3
    simp (config := {contextual := true, maxDischargeDepth := 12}) only [tb_at, he, e0, e3, e6, hL, b1, b2, b6, sl2, hL2, reserve0, hz, sl1, ap1, hun, bb1, bb2, ap2, ap3, hlt, ↓bD, bU, forall_const, List.all_cons, List.all_nil, Option.map_some, List.map_cons, List.map_nil, ne_eq, implies_true, isNx, eq_self, ↓wp_cond, ↓wp_loop, ↓reduceIte, reduceCtorEq, Nat.reduceEqDiff, Nat.reduceLT, Nat.reduceAdd, Nat.reduceMul, Int.ofNat_lt, Int.ofNat_le, exists_const, Option.map_none, beq_self_eq_true, decide_true, ↓sg_bsl, ↓st_callf, bX, ap_mkfn, ae_callvV, callvV_fn, List.cons_append, List.nil_append, boxV_i, boxV_dot, sto_dot, ap_conv, convV_int, bslV_0, fstep_d0, fstep_d1, bsl_dot, ae_appz, ap_cap, capV_nils, slcV_nils0, slcV_sl0, wrap_0, ae_clr, boxV_f, fstep_f, lod_new2, ↓st_appf, slcV_nils0N, slcV_sl0N, bslV_0N, bin_shr1, bsl_nd]
    exact ⟨hK4, _, by rw [hw], by rw [hw]; simpa using hO4⟩
theorem q_RPut {s : St} {vl : AV} {l : List Nd} (hr : read ndC s vl = some l) (hc : CapOK vl) (hl : l.length ≤ 200000) (nn : Nd) : ∃ v t, acall R_RPut false [vl, .agg (Nd.av nn)] s = some (.tup [v, .int .i64 (rput l nn).2], t) ∧ Own ndC s t v ((rput l nn).1) ∧ Keep s t := run_fresh n_RPut (by simp [a16]) (fun v => .tup [v, .int .i64 (rput l nn).2]) (fun _ _ _ _ _ => rfl) (w_RPut (s := lowd s) (read_low' hr) hc hl nn)

end Go.AM
end
/-
  The reference of layer 10: Of. Own work of this project; in part printed by a program of it.
-/
section
set_option linter.unusedVariables false
set_option linter.unusedSimpArgs false
set_option maxRecDepth 100000
set_option maxHeartbeats 8000000
namespace Go.AM
open Go Go.Proofs

variable {s t u : St}
theorem ofFold_lenS : ∀ (r M A M' : List Nd), ofFold r M A = some M' → M'.length ≤ M.length + r.length
  | [], M, A, M', h => by simp [ofFold] at h; subst h; simp
  | n :: r, M, A, M', h => by
    rw [ofFold, ofStep_eq] at h
    split at h
    · rename_i M2 A2 hs
      have ih := ofFold_lenS r M2 A2 M' h
      have : M2.length ≤ M.length + 1 := by
        repeat' split at hs
        all_goals first | cases hs | skip
        all_goals exact updN_len _ _
      simp
      omega
    · cases h
theorem ofP_lenS (l : List Nd) : (ofP l).1.length ≤ l.length := by
  have h := gOf_P l
  unfold gOf at h
  split at h
  · split at h
    · rename_i M hM
      injection h with h
      rw [← (Prod.mk.inj h).1, sortN_len]
      simpa using ofFold_lenS _ _ _ _ hM
    · injection h with h
      rw [← (Prod.mk.inj h).1]
      simp
  · injection h with h
    rw [← (Prod.mk.inj h).1]
    simp

theorem nc_pairs {l : List Nd} (h : ∀ (i : Nat) (x : Nd), l[i]? = some x → ∀ (k : Nat) (y : Nd), k < i → l[k]? = some y → y.d = x.d → y.clash x = false) : NC (· ∈ l) := by
  intro x y hx hy e
  obtain ⟨i, hi⟩ := List.getElem?_of_mem hx
  obtain ⟨k, hk⟩ := List.getElem?_of_mem hy
  rcases Nat.lt_trichotomy i k with q | q | q
  · exact h k y hk i x q hi e
  · subst q
    rw [hi] at hk
    injection hk with hk
    rw [hk]
    exact clash_self y
  · rw [clash_symm]
    exact h i x hi k y q hk e.symm
theorem of_nil : ofP [] = ([], 0) := of_self rfl
theorem put_next {l : List Nd} (hv : l.all Nd.valid = true) (hn : NC (· ∈ l)) {i : Nat} {x : Nd} (hx : l[i]? = some x) : rput (ofP (l.take i)).1 x = ofP (l.take (i + 1)) ∧ (ofP (l.take (i + 1))).2 = 0 := by
  have hsub : ∀ y, y ∈ l.take i ++ [x] → y ∈ l := fun y hy => by
    rcases List.mem_append.1 hy with h | h
    · exact List.mem_of_mem_take h
    · rw [List.mem_singleton.1 h]; exact mem_at hx
  have hv2 : (l.take i ++ [x]).all Nd.valid = true := List.all_eq_true.2 fun y hy => List.all_eq_true.1 hv y (hsub y hy)
  obtain ⟨h1, h2, h3⟩ := put_step hv2 (hn.sub hsub)
  rw [take_snoc hx]
  exact ⟨by rw [← put_eq h3 (List.all_eq_true.1 hv x (mem_at hx)), h1], h2⟩
noncomputable def R_ROf : Con := runFn (tb [(14, R_RNVal), (67, R_RNAgree), (16, R_RPut)]) a33
theorem s_ROf : SoundAt Tryz.prog 33 R_ROf := run_sound (tb_sound (l := [(14, R_RNVal), (67, R_RNAgree), (16, R_RPut)]) (by simpa using ⟨s_RNVal, s_RNAgree, s_RPut⟩)) mixed Tryz.func33 k33 c33
theorem n_ROf : noNxtC a33.body = true := by kernel_rfl
theorem w_ROf {s : St} {vl : AV} {l : List Nd} (hr : read ndC s vl = some l) (hl : l.length ≤ 100000) (ho : okL l) : ∀ env : Env, elen env = a33.ntmps → (∀ i x_, [vl][i]? = some x_ → E env i = x_) → awp (tb [(14, R_RNVal), (67, R_RNAgree), (16, R_RPut)]) a33.body (fun x e t => (∀ i, x ≠ .exit i) ∧ Keep s t ∧ ∃ r, aresults e t a33.results = some (.tup [r, .int .i64 (ofP l).2]) ∧ Own ndC s t r (ofP l).1) env s := by
  intro env hlen ha
  have h0 : E env 0 = _ := ha 0 _ rfl
  have hlen : elen env = _ := hlen
  simp only [a33] at hlen
  unfold a33
  try dsimp only [oO, oG]
  have hL := lenV_read hr
  simp (config := {contextual := true, maxDischargeDepth := 12}) only [tb_at, h0, hlen, hL, ↓bD, bU, forall_const, List.all_cons, List.all_nil, Option.map_some, List.map_cons, List.map_nil, ne_eq, implies_true, isNx, eq_self, ↓wp_cond, ↓wp_loop, ↓reduceIte, reduceCtorEq, Nat.reduceEqDiff, Nat.reduceLT, Nat.reduceAdd, Nat.reduceMul, Int.ofNat_lt, Int.ofNat_le, exists_const, Option.map_none, beq_self_eq_true, decide_true, ↓sg_bsl, ↓st_callf, bX, ap_mkfn, ae_callvV, callvV_fn, List.cons_append, List.nil_append, boxV_i, boxV_dot, sto_dot, ap_conv, convV_int, bslV_0, fstep_d0, fstep_d1, bsl_dot, ae_appz, ap_cap, capV_nils, slcV_nils0, slcV_sl0, wrap_0, ae_clr, boxV_f, fstep_f, lod_new2, ↓st_appf, slcV_nils0N, slcV_sl0N, bslV_0N, bin_shr1, bsl_nd]
  obtain ⟨I1, hI1⟩ : ∃ I : Nat → Env → St → Prop, ∀ n e t, I n e t = (t = s ∧ ∃ i : Nat, n + i = l.length ∧ elen e = 77 ∧ E e 0 = vl ∧ E e 4 = .int .i64 (i : Int) ∧ ∀ k y, k < i → l[k]? = some y → y.valid = true) := ⟨fun n e t => (t = s ∧ ∃ i : Nat, n + i = l.length ∧ elen e = 77 ∧ E e 0 = vl ∧ E e 4 = .int .i64 (i : Int) ∧ ∀ k y, k < i → l[k]? = some y → y.valid = true), fun _ _ _ => rfl⟩
  refine lwp_inv I1 (n := l.length) ?_ ?_
  · rw [hI1]
    exact ⟨rfl, 0, by omega, (by simp only [bE, Nat.reduceEqDiff, ne_eq, not_false_eq_true, Nat.reduceLT, hlen]; try rfl), (by simp only [bE, Nat.reduceEqDiff, ne_eq, not_false_eq_true, Nat.reduceLT, hlen, h0]; try rfl), (by simp only [bE, Nat.reduceEqDiff, ne_eq, not_false_eq_true, Nat.reduceLT, hlen]; try rfl), fun k y hk => by omega⟩
  intro n e t hi
  rw [hI1] at hi
  obtain ⟨hK, i, hni, he, e0, e4, hp1⟩ := hi
  have hK := hK.symm
  subst hK
  by_cases hlt : i < l.length
  · obtain ⟨x, hx⟩ := getsome hlt
    have hw2 := wrap_add1 (n := i) (by omega)
    obtain ⟨a1, a2, a3, a5, a6, a4⟩ := nd_lods hr (.refl _) hx
    have i1 := nd_idx hr hx .i64
    have q1 := q_RNVal false (ho x (mem_at hx)) (s := s)
    cases hv : x.valid
    · rw [hv] at q1
      have hS : ofP l = ([], 2) := ofP_bad (all_false hx hv)
      simp (config := {contextual := true, maxDischargeDepth := 12}) only [tb_at, he, e0, e4, hL, hlt, a1, a4, i1, q1, hS, notV_bool, Bool.not_false, ↓bD, bU, forall_const, List.all_cons, List.all_nil, Option.map_some, List.map_cons, List.map_nil, ne_eq, implies_true, isNx, eq_self, ↓wp_cond, ↓wp_loop, ↓reduceIte, reduceCtorEq, Nat.reduceEqDiff, Nat.reduceLT, Nat.reduceAdd, Nat.reduceMul, Int.ofNat_lt, Int.ofNat_le, exists_const, Option.map_none, beq_self_eq_true, decide_true, ↓sg_bsl, ↓st_callf, bX, ap_mkfn, ae_callvV, callvV_fn, List.cons_append, List.nil_append, boxV_i, boxV_dot, sto_dot, ap_conv, convV_int, bslV_0, fstep_d0, fstep_d1, bsl_dot, ae_appz, ap_cap, capV_nils, slcV_nils0, slcV_sl0, wrap_0, ae_clr, boxV_f, fstep_f, lod_new2, ↓st_appf, slcV_nils0N, slcV_sl0N, bslV_0N, bin_shr1, bsl_nd]
      all_goals first | exact ⟨.refl _, _, rfl, .nil _ _ _⟩ | exact ⟨_, rfl, .nil _ _ _⟩ | skip
    · rw [hv] at q1
      simp (config := {contextual := true, maxDischargeDepth := 12}) only [tb_at, he, e0, e4, hL, hlt, hw2, a1, a4, i1, q1, notV_bool, Bool.not_true, ↓bD, bU, forall_const, List.all_cons, List.all_nil, Option.map_some, List.map_cons, List.map_nil, ne_eq, implies_true, isNx, eq_self, ↓wp_cond, ↓wp_loop, ↓reduceIte, reduceCtorEq, Nat.reduceEqDiff, Nat.reduceLT, Nat.reduceAdd, Nat.reduceMul, Int.ofNat_lt, Int.ofNat_le, exists_const, Option.map_none, beq_self_eq_true, decide_true, ↓sg_bsl, ↓st_callf, bX, ap_mkfn, ae_callvV, callvV_fn, List.cons_append, List.nil_append, boxV_i, boxV_dot, sto_dot, ap_conv, convV_int, bslV_0, fstep_d0, fstep_d1, bsl_dot, ae_appz, ap_cap, capV_nils, slcV_nils0, slcV_sl0, wrap_0, ae_clr, boxV_f, fstep_f, lod_new2, ↓st_appf, slcV_nils0N, slcV_sl0N, bslV_0N, bin_shr1, bsl_nd]
      refine ⟨n - 1, by omega, ?_⟩
      rw [hI1]
      exact ⟨rfl, i + 1, by omega, (by simp only [bE, Nat.reduceEqDiff, ne_eq, not_false_eq_true, Nat.reduceLT, he, e0, e4]; try rfl), (by simp only [bE, Nat.reduceEqDiff, ne_eq, not_false_eq_true, Nat.reduceLT, he, e0, e4]; try rfl), (by simp only [bE, Nat.reduceEqDiff, ne_eq, not_false_eq_true, Nat.reduceLT, he, e0, e4]; try rfl), pre_next (P := fun k y => y.valid = true) hx hp1 hv⟩
  · obtain rfl : i = l.length := by omega
    have hall : l.all Nd.valid = true := all_at hp1
    simp (config := {contextual := true, maxDischargeDepth := 12}) only [tb_at, he, e0, e4, hL, hlt, ↓bD, bU, forall_const, List.all_cons, List.all_nil, Option.map_some, List.map_cons, List.map_nil, ne_eq, implies_true, isNx, eq_self, ↓wp_cond, ↓wp_loop, ↓reduceIte, reduceCtorEq, Nat.reduceEqDiff, Nat.reduceLT, Nat.reduceAdd, Nat.reduceMul, Int.ofNat_lt, Int.ofNat_le, exists_const, Option.map_none, beq_self_eq_true, decide_true, ↓sg_bsl, ↓st_callf, bX, ap_mkfn, ae_callvV, callvV_fn, List.cons_append, List.nil_append, boxV_i, boxV_dot, sto_dot, ap_conv, convV_int, bslV_0, fstep_d0, fstep_d1, bsl_dot, ae_appz, ap_cap, capV_nils, slcV_nils0, slcV_sl0, wrap_0, ae_clr, boxV_f, fstep_f, lod_new2, ↓st_appf, slcV_nils0N, slcV_sl0N, bslV_0N, bin_shr1, bsl_nd]
    obtain ⟨I2, hI2⟩ : ∃ I : Nat → Env → St → Prop, ∀ n e t, I n e t = (t = s ∧ ∃ i : Nat, n + i = l.length ∧ elen e = 77 ∧ E e 0 = vl ∧ E e 5 = .int .i64 (i : Int) ∧ ∀ j x, j < i → l[j]? = some x → ∀ k y, k < j → l[k]? = some y → y.d = x.d → y.clash x = false) := ⟨fun n e t => (t = s ∧ ∃ i : Nat, n + i = l.length ∧ elen e = 77 ∧ E e 0 = vl ∧ E e 5 = .int .i64 (i : Int) ∧ ∀ j x, j < i → l[j]? = some x → ∀ k y, k < j → l[k]? = some y → y.d = x.d → y.clash x = false), fun _ _ _ => rfl⟩
    refine lwp_inv I2 (n := l.length) ?_ ?_
    · rw [hI2]
      exact ⟨rfl, 0, by omega, (by simp only [bE, Nat.reduceEqDiff, ne_eq, not_false_eq_true, Nat.reduceLT, he]; try rfl), (by simp only [bE, Nat.reduceEqDiff, ne_eq, not_false_eq_true, Nat.reduceLT, he, e0]; try rfl), (by simp only [bE, Nat.reduceEqDiff, ne_eq, not_false_eq_true, Nat.reduceLT, he]; try rfl), fun j x hj => by omega⟩
    clear hni he e0 e4 hp1 hlt
    intro n e t hi
    rw [hI2] at hi
    obtain ⟨hK, i, hni, he, e0, e5, hp2⟩ := hi
    have hK := hK.symm
    subst hK
    by_cases hlt : i < l.length
    · obtain ⟨x, hx⟩ := getsome hlt
      have hw2 := wrap_add1 (n := i) (by omega)
      obtain ⟨a1, a2, a3, a5, a6, a4⟩ := nd_lods hr (.refl _) hx
      have i1 := nd_idx hr hx .i64
      obtain ⟨a, hai⟩ : ∃ a, a = i := ⟨i, rfl⟩
      subst hai
      obtain ⟨N0, hN0⟩ : ∃ m, m = n := ⟨n, rfl⟩
      subst hN0
      simp (config := {contextual := true, maxDischargeDepth := 12}) only [tb_at, he, e0, e5, hL, hlt, ↓bD, bU, forall_const, List.all_cons, List.all_nil, Option.map_some, List.map_cons, List.map_nil, ne_eq, implies_true, isNx, eq_self, ↓wp_cond, ↓wp_loop, ↓reduceIte, reduceCtorEq, Nat.reduceEqDiff, Nat.reduceLT, Nat.reduceAdd, Nat.reduceMul, Int.ofNat_lt, Int.ofNat_le, exists_const, Option.map_none, beq_self_eq_true, decide_true, ↓sg_bsl, ↓st_callf, bX, ap_mkfn, ae_callvV, callvV_fn, List.cons_append, List.nil_append, boxV_i, boxV_dot, sto_dot, ap_conv, convV_int, bslV_0, fstep_d0, fstep_d1, bsl_dot, ae_appz, ap_cap, capV_nils, slcV_nils0, slcV_sl0, wrap_0, ae_clr, boxV_f, fstep_f, lod_new2, ↓st_appf, slcV_nils0N, slcV_sl0N, bslV_0N, bin_shr1, bsl_nd]
      obtain ⟨I3, hI3⟩ : ∃ I : Nat → Env → St → Prop, ∀ n e t, I n e t = (t = s ∧ ∃ i : Nat, n + i = a ∧ elen e = 77 ∧ E e 0 = vl ∧ E e 5 = .int .i64 (a : Int) ∧ E e 6 = .int .i64 (i : Int) ∧ i ≤ a ∧ ∀ k y, k < i → l[k]? = some y → y.d = x.d → y.clash x = false) := ⟨fun n e t => (t = s ∧ ∃ i : Nat, n + i = a ∧ elen e = 77 ∧ E e 0 = vl ∧ E e 5 = .int .i64 (a : Int) ∧ E e 6 = .int .i64 (i : Int) ∧ i ≤ a ∧ ∀ k y, k < i → l[k]? = some y → y.d = x.d → y.clash x = false), fun _ _ _ => rfl⟩
      refine lwp_inv I3 (n := a) ?_ ?_
      · rw [hI3]
        exact ⟨rfl, 0, by omega, (by simp only [bE, Nat.reduceEqDiff, ne_eq, not_false_eq_true, Nat.reduceLT, he]; try rfl), (by simp only [bE, Nat.reduceEqDiff, ne_eq, not_false_eq_true, Nat.reduceLT, he, e0]; try rfl), (by simp only [bE, Nat.reduceEqDiff, ne_eq, not_false_eq_true, Nat.reduceLT, he, e5]; try rfl), (by simp only [bE, Nat.reduceEqDiff, ne_eq, not_false_eq_true, Nat.reduceLT, he]; try rfl), by omega, fun k y hk => by omega⟩
      clear he e0 e5
      intro n e t hi
      rw [hI3] at hi
      obtain ⟨hK, i, hni, he, e0, e5, e6, hia, hp3⟩ := hi
      have hK := hK.symm
      subst hK
      by_cases hk2 : i < a
      · obtain ⟨y, hy⟩ := getsome (show i < l.length by omega)
        have hw3 := wrap_add1 (n := i) (by omega)
        obtain ⟨c1, c2, c3, c5, c6, c4⟩ := nd_lods hr (.refl _) hy
        have i2 := nd_idx hr hy .i64
        by_cases hd : y.d = x.d
        · have hzd := eq_true hd
          have q2 : ∀ u : St, acall R_RNAgree false [.agg (Nd.av y), .agg (Nd.av x)] u = some (.bool (!y.clash x), u) := fun u => q_RNAgree false y x
          cases hcl : y.clash x
          · rw [hcl] at q2
            simp (config := {contextual := true, maxDischargeDepth := 12}) only [tb_at, he, e0, e5, e6, hk2, hw3, a1, a2, a4, i1, c1, c2, c4, i2, hzd, q2, notV_bool, Bool.not_true, Bool.not_false, ↓bD, bU, forall_const, List.all_cons, List.all_nil, Option.map_some, List.map_cons, List.map_nil, ne_eq, implies_true, isNx, eq_self, ↓wp_cond, ↓wp_loop, ↓reduceIte, reduceCtorEq, Nat.reduceEqDiff, Nat.reduceLT, Nat.reduceAdd, Nat.reduceMul, Int.ofNat_lt, Int.ofNat_le, exists_const, Option.map_none, beq_self_eq_true, decide_true, ↓sg_bsl, ↓st_callf, bX, ap_mkfn, ae_callvV, callvV_fn, List.cons_append, List.nil_append, boxV_i, boxV_dot, sto_dot, ap_conv, convV_int, bslV_0, fstep_d0, fstep_d1, bsl_dot, ae_appz, ap_cap, capV_nils, slcV_nils0, slcV_sl0, wrap_0, ae_clr, boxV_f, fstep_f, lod_new2, ↓st_appf, slcV_nils0N, slcV_sl0N, bslV_0N, bin_shr1, bsl_nd]
            refine ⟨n - 1, by omega, ?_⟩
            rw [hI3]
            exact ⟨rfl, i + 1, by omega, (by simp only [bE, Nat.reduceEqDiff, ne_eq, not_false_eq_true, Nat.reduceLT, he, e0, e5, e6]; try rfl), (by simp only [bE, Nat.reduceEqDiff, ne_eq, not_false_eq_true, Nat.reduceLT, he, e0, e5, e6]; try rfl), (by simp only [bE, Nat.reduceEqDiff, ne_eq, not_false_eq_true, Nat.reduceLT, he, e0, e5, e6]; try rfl), (by simp only [bE, Nat.reduceEqDiff, ne_eq, not_false_eq_true, Nat.reduceLT, he, e0, e5, e6]; try rfl), by omega, pre_next (P := fun k y => y.d = x.d → y.clash x = false) hy hp3 fun _ => hcl⟩
          · rw [hcl] at q2
            have hS : ofP l = ([], 15) := ofP_clash hall fun hn => by
              have := hn y x (mem_at hy) (mem_at hx) hd
              rw [hcl] at this
              cases this
            simp (config := {contextual := true, maxDischargeDepth := 12}) only [tb_at, he, e0, e5, e6, hk2, a1, a2, a4, i1, c1, c2, c4, i2, hzd, q2, hS, notV_bool, Bool.not_true, Bool.not_false, ↓bD, bU, forall_const, List.all_cons, List.all_nil, Option.map_some, List.map_cons, List.map_nil, ne_eq, implies_true, isNx, eq_self, ↓wp_cond, ↓wp_loop, ↓reduceIte, reduceCtorEq, Nat.reduceEqDiff, Nat.reduceLT, Nat.reduceAdd, Nat.reduceMul, Int.ofNat_lt, Int.ofNat_le, exists_const, Option.map_none, beq_self_eq_true, decide_true, ↓sg_bsl, ↓st_callf, bX, ap_mkfn, ae_callvV, callvV_fn, List.cons_append, List.nil_append, boxV_i, boxV_dot, sto_dot, ap_conv, convV_int, bslV_0, fstep_d0, fstep_d1, bsl_dot, ae_appz, ap_cap, capV_nils, slcV_nils0, slcV_sl0, wrap_0, ae_clr, boxV_f, fstep_f, lod_new2, ↓st_appf, slcV_nils0N, slcV_sl0N, bslV_0N, bin_shr1, bsl_nd]
            all_goals first | exact ⟨.refl _, _, rfl, .nil _ _ _⟩ | exact ⟨_, rfl, .nil _ _ _⟩ | skip
        · have hzd := eq_false hd
          simp (config := {contextual := true, maxDischargeDepth := 12}) only [tb_at, he, e0, e5, e6, hk2, hw3, a2, a4, i1, c2, c4, i2, hzd, ↓bD, bU, forall_const, List.all_cons, List.all_nil, Option.map_some, List.map_cons, List.map_nil, ne_eq, implies_true, isNx, eq_self, ↓wp_cond, ↓wp_loop, ↓reduceIte, reduceCtorEq, Nat.reduceEqDiff, Nat.reduceLT, Nat.reduceAdd, Nat.reduceMul, Int.ofNat_lt, Int.ofNat_le, exists_const, Option.map_none, beq_self_eq_true, decide_true, ↓sg_bsl, ↓st_callf, bX, ap_mkfn, ae_callvV, callvV_fn, List.cons_append, List.nil_append, boxV_i, boxV_dot, sto_dot, ap_conv, convV_int, bslV_0, fstep_d0, fstep_d1, bsl_dot, ae_appz, ap_cap, capV_nils, slcV_nils0, slcV_sl0, wrap_0, ae_clr, boxV_f, fstep_f, lod_new2, ↓st_appf, slcV_nils0N, slcV_sl0N, bslV_0N, bin_shr1, bsl_nd]
          refine ⟨n - 1, by omega, ?_⟩
          rw [hI3]
          exact ⟨rfl, i + 1, by omega, (by simp only [bE, Nat.reduceEqDiff, ne_eq, not_false_eq_true, Nat.reduceLT, he, e0, e5, e6]; try rfl), (by simp only [bE, Nat.reduceEqDiff, ne_eq, not_false_eq_true, Nat.reduceLT, he, e0, e5, e6]; try rfl), (by simp only [bE, Nat.reduceEqDiff, ne_eq, not_false_eq_true, Nat.reduceLT, he, e0, e5, e6]; try rfl), (by simp only [bE, Nat.reduceEqDiff, ne_eq, not_false_eq_true, Nat.reduceLT, he, e0, e5, e6]; try rfl), by omega, pre_next (P := fun k y => y.d = x.d → y.clash x = false) hy hp3 fun h => absurd h hd⟩
      · obtain rfl : i = a := by omega
        have hk2' : ((i : Int) < (i : Int)) = False := eq_false (by omega)
        simp (config := {contextual := true, maxDischargeDepth := 12}) only [tb_at, he, e0, e5, e6, hk2, hw2, ↓bD, bU, forall_const, List.all_cons, List.all_nil, Option.map_some, List.map_cons, List.map_nil, ne_eq, implies_true, isNx, eq_self, ↓wp_cond, ↓wp_loop, ↓reduceIte, reduceCtorEq, Nat.reduceEqDiff, Nat.reduceLT, Nat.reduceAdd, Nat.reduceMul, Int.ofNat_lt, Int.ofNat_le, exists_const, Option.map_none, beq_self_eq_true, decide_true, ↓sg_bsl, ↓st_callf, bX, ap_mkfn, ae_callvV, callvV_fn, List.cons_append, List.nil_append, boxV_i, boxV_dot, sto_dot, ap_conv, convV_int, bslV_0, fstep_d0, fstep_d1, bsl_dot, ae_appz, ap_cap, capV_nils, slcV_nils0, slcV_sl0, wrap_0, ae_clr, boxV_f, fstep_f, lod_new2, ↓st_appf, slcV_nils0N, slcV_sl0N, bslV_0N, bin_shr1, bsl_nd]
        refine ⟨N0 - 1, by omega, ?_⟩
        rw [hI2]
        exact ⟨rfl, i + 1, by omega, (by simp only [bE, Nat.reduceEqDiff, ne_eq, not_false_eq_true, Nat.reduceLT, he]; try rfl), (by simp only [bE, Nat.reduceEqDiff, ne_eq, not_false_eq_true, Nat.reduceLT, he, e0]; try rfl), (by simp only [bE, Nat.reduceEqDiff, ne_eq, not_false_eq_true, Nat.reduceLT, he]; try rfl), pre_next (P := fun j x => ∀ k y, k < j → l[k]? = some y → y.d = x.d → y.clash x = false) hx hp2 hp3⟩
    · obtain rfl : i = l.length := by omega
      have hn : NC (· ∈ l) := nc_pairs fun j x hx => hp2 j x (getlt hx) hx
      have hon : Own ndC s s .nils (ofP (l.take 0)).1 := by rw [List.take_zero, of_nil]; exact .nil _ _ _
      simp (config := {contextual := true, maxDischargeDepth := 12}) only [tb_at, he, e0, e5, hL, hlt, ↓bD, bU, forall_const, List.all_cons, List.all_nil, Option.map_some, List.map_cons, List.map_nil, ne_eq, implies_true, isNx, eq_self, ↓wp_cond, ↓wp_loop, ↓reduceIte, reduceCtorEq, Nat.reduceEqDiff, Nat.reduceLT, Nat.reduceAdd, Nat.reduceMul, Int.ofNat_lt, Int.ofNat_le, exists_const, Option.map_none, beq_self_eq_true, decide_true, ↓sg_bsl, ↓st_callf, bX, ap_mkfn, ae_callvV, callvV_fn, List.cons_append, List.nil_append, boxV_i, boxV_dot, sto_dot, ap_conv, convV_int, bslV_0, fstep_d0, fstep_d1, bsl_dot, ae_appz, ap_cap, capV_nils, slcV_nils0, slcV_sl0, wrap_0, ae_clr, boxV_f, fstep_f, lod_new2, ↓st_appf, slcV_nils0N, slcV_sl0N, bslV_0N, bin_shr1, bsl_nd]
      obtain ⟨I4, hI4⟩ : ∃ I : Nat → Env → St → Prop, ∀ n e t, I n e t = (Keep s t ∧ ∃ i : Nat, n + i = l.length ∧ elen e = 77 ∧ E e 0 = vl ∧ E e 8 = .int .i64 (i : Int) ∧ Own ndC s t (E e 7) (ofP (l.take i)).1) := ⟨fun n e t => (Keep s t ∧ ∃ i : Nat, n + i = l.length ∧ elen e = 77 ∧ E e 0 = vl ∧ E e 8 = .int .i64 (i : Int) ∧ Own ndC s t (E e 7) (ofP (l.take i)).1), fun _ _ _ => rfl⟩
      refine lwp_inv I4 (n := l.length) ?_ ?_
      · rw [hI4]
        exact ⟨.refl _, 0, by omega, (by simp only [bE, Nat.reduceEqDiff, ne_eq, not_false_eq_true, Nat.reduceLT, he]; try rfl), (by simp only [bE, Nat.reduceEqDiff, ne_eq, not_false_eq_true, Nat.reduceLT, he, e0]; try rfl), (by simp only [bE, Nat.reduceEqDiff, ne_eq, not_false_eq_true, Nat.reduceLT, he]; try rfl), by simp only [bE, Nat.reduceEqDiff, ne_eq, not_false_eq_true, Nat.reduceLT, he]; exact hon⟩
      clear hni he e0 e5 hp2 hlt hon
      intro n e t hi
      rw [hI4] at hi
      obtain ⟨hK, i, hni, he, e0, e8, hO⟩ := hi
      by_cases hlt : i < l.length
      · obtain ⟨x, hx⟩ := getsome hlt
        have hw2 := wrap_add1 (n := i) (by omega)
        obtain ⟨a1, a2, a3, a5, a6, a4⟩ := nd_lods hr hK hx
        have i1 := nd_idx hr hx .i64
        have hln := ofP_lenS (l.take i)
        rw [List.length_take] at hln
        obtain ⟨hp, hp0⟩ := put_next hall hn hx
        obtain ⟨w, t', q1, hO', hK'⟩ := q_RPut hO.read hO.capOK (by omega) x
        rw [hp] at q1 hO'
        rw [hp0] at q1
        have h00 : ((0 : Int) = 0) = True := eq_true rfl
        simp (config := {contextual := true, maxDischargeDepth := 12}) only [tb_at, he, e0, e8, hL, hlt, hw2, a1, a4, i1, q1, h00, ↓bD, bU, forall_const, List.all_cons, List.all_nil, Option.map_some, List.map_cons, List.map_nil, ne_eq, implies_true, isNx, eq_self, ↓wp_cond, ↓wp_loop, ↓reduceIte, reduceCtorEq, Nat.reduceEqDiff, Nat.reduceLT, Nat.reduceAdd, Nat.reduceMul, Int.ofNat_lt, Int.ofNat_le, exists_const, Option.map_none, beq_self_eq_true, decide_true, ↓sg_bsl, ↓st_callf, bX, ap_mkfn, ae_callvV, callvV_fn, List.cons_append, List.nil_append, boxV_i, boxV_dot, sto_dot, ap_conv, convV_int, bslV_0, fstep_d0, fstep_d1, bsl_dot, ae_appz, ap_cap, capV_nils, slcV_nils0, slcV_sl0, wrap_0, ae_clr, boxV_f, fstep_f, lod_new2, ↓st_appf, slcV_nils0N, slcV_sl0N, bslV_0N, bin_shr1, bsl_nd]
        refine ⟨n - 1, by omega, ?_⟩
        rw [hI4]
        exact ⟨hK.trans hK', i + 1, by omega, (by simp only [bE, Nat.reduceEqDiff, ne_eq, not_false_eq_true, Nat.reduceLT, he, e0, e8]; try rfl), (by simp only [bE, Nat.reduceEqDiff, ne_eq, not_false_eq_true, Nat.reduceLT, he, e0, e8]; try rfl), (by simp only [bE, Nat.reduceEqDiff, ne_eq, not_false_eq_true, Nat.reduceLT, he, e0, e8]; try rfl), by simp only [bE, Nat.reduceEqDiff, ne_eq, not_false_eq_true, Nat.reduceLT, he]; exact hO'.from hK.next⟩
      · obtain rfl : i = l.length := by omega
        rw [List.take_length] at hO
        obtain ⟨j, hj, _⟩ := ofP_res hall hn
        have h2 : (ofP l).2 = 0 := by rw [hj]
        simp (config := {contextual := true, maxDischargeDepth := 12}) only [tb_at, he, e0, e8, hL, hlt, h2, ↓bD, bU, forall_const, List.all_cons, List.all_nil, Option.map_some, List.map_cons, List.map_nil, ne_eq, implies_true, isNx, eq_self, ↓wp_cond, ↓wp_loop, ↓reduceIte, reduceCtorEq, Nat.reduceEqDiff, Nat.reduceLT, Nat.reduceAdd, Nat.reduceMul, Int.ofNat_lt, Int.ofNat_le, exists_const, Option.map_none, beq_self_eq_true, decide_true, ↓sg_bsl, ↓st_callf, bX, ap_mkfn, ae_callvV, callvV_fn, List.cons_append, List.nil_append, boxV_i, boxV_dot, sto_dot, ap_conv, convV_int, bslV_0, fstep_d0, fstep_d1, bsl_dot, ae_appz, ap_cap, capV_nils, slcV_nils0, slcV_sl0, wrap_0, ae_clr, boxV_f, fstep_f, lod_new2, ↓st_appf, slcV_nils0N, slcV_sl0N, bslV_0N, bin_shr1, bsl_nd]
        first | exact ⟨hK, _, rfl, hO⟩ | exact ⟨_, rfl, hO⟩
theorem q_ROf {s : St} {vl : AV} {l : List Nd} (hr : read ndC s vl = some l) (hl : l.length ≤ 100000) (ho : okL l) : ∃ v t, acall R_ROf false [vl] s = some (.tup [v, .int .i64 (ofP l).2], t) ∧ Own ndC s t v ((ofP l).1) ∧ Keep s t := run_fresh n_ROf (by simp [a33]) (fun v => .tup [v, .int .i64 (ofP l).2]) (fun _ _ _ _ _ => rfl) (w_ROf (s := lowd s) (read_low' hr) hl ho)

end Go.AM
end
/-
  store.Put and Kill, the reference Kill, and what the statements of layer 10 call. Own work of this project; in part printed by a program of it.
-/
section
set_option linter.unusedVariables false
set_option linter.unusedSimpArgs false
set_option maxRecDepth 100000
set_option maxHeartbeats 8000000
namespace Go.AM
open Go Go.Proofs

variable {s t u : St}

theorem q_SOf {s : St} {vl : AV} {l : List Nd} (hr : read ndC s vl = some l) (hl : l.length ≤ lim) : ∃ w t, acall (conF ndC (pL ndC gOf)) false [vl] s = some (.tup [w, .int .i64 (ofP l).2], t) ∧ Own ndC s t w (ofP l).1 ∧ Keep s t := by
  obtain ⟨w, t, h1, h2, h3⟩ := fresh_L (D := ndC) (f := gOf) hr hl (gOf_P l) (fun x hx => by injection hx with hx; subst hx; rfl)
  exact ⟨w, t, h1, h3, h2⟩
def putP (l : List Nd) (n : Nd) : List Nd × Int := if storeL l = true then ofP (l ++ [n]) else ([], 2)
theorem bsl2N_one {a b : AV} {la lb : List Nd} (ha : read ndC s a = some la) (hb : read ndC t b = some lb) : bslV [.nils, .nils] 2 1 [(0, a), (1, b)] = some (fun id => .sl id 0 2 (some 2) 1, .row [a, b] true) := by
  obtain ⟨a1, a2⟩ := read_oneN ha
  obtain ⟨b1, b2⟩ := read_oneN hb
  simp [bslV, fillP, aev, a1, a2, b1, b2, setAt]
noncomputable def R_SPut : Con := runFn (tb [(31, conL ndC fValid), (63, R_ConcN), (29, conF ndC (pL ndC gOf))]) a30
theorem s_SPut : SoundAt Tryz.prog 30 R_SPut := run_sound (tb_sound (l := [(31, conL ndC fValid), (63, R_ConcN), (29, conF ndC (pL ndC gOf))]) (by simpa using ⟨s_StValid, s_ConcN, s_Of⟩)) mixed Tryz.func30 k30 c30
theorem n_SPut : noNxtC a30.body = true := by kernel_rfl
theorem w_SPut {s : St} {vl : AV} {l : List Nd} (hr : read ndC s vl = some l) (hl : l.length ≤ 200000) (nn : Nd) : ∀ env : Env, elen env = a30.ntmps → (∀ i x_, [vl, .agg (Nd.av nn)][i]? = some x_ → E env i = x_) → awp (tb [(31, conL ndC fValid), (63, R_ConcN), (29, conF ndC (pL ndC gOf))]) a30.body (fun x e t => (∀ i, x ≠ .exit i) ∧ Keep s t ∧ ∃ r, aresults e t a30.results = some (.tup [r, .int .i64 (putP l nn).2]) ∧ Own ndC s t r (putP l nn).1) env s := by
  intro env hlen ha
  have h0 : E env 0 = _ := ha 0 _ rfl
  have h1 : E env 1 = _ := ha 1 _ rfl
  have hlen : elen env = _ := hlen
  simp only [a30] at hlen
  unfold a30
  try dsimp only [oO, oG]
  have hK1 : Keep s (s.push (.row (Nd.av nn) true)) := (Keep.refl s).push _
  obtain ⟨b1, b2, b3, b4, b5, b6⟩ := box_nd s nn (.refl _)
  have q1 := q_StValid false (hK1.read hr) (by unfold lim; omega)
  cases hst : storeL l
  · rw [hst] at q1
    have hS : putP l nn = ([], 2) := by unfold putP; rw [hst]; rfl
    simp (config := {contextual := true, maxDischargeDepth := 12}) only [tb_at, h0, h1, hlen, q1, hS, notV_bool, Bool.not_false, ↓bD, bU, forall_const, List.all_cons, List.all_nil, Option.map_some, List.map_cons, List.map_nil, ne_eq, implies_true, isNx, eq_self, ↓wp_cond, ↓wp_loop, ↓reduceIte, reduceCtorEq, Nat.reduceEqDiff, Nat.reduceLT, Nat.reduceAdd, Nat.reduceMul, Int.ofNat_lt, Int.ofNat_le, exists_const, Option.map_none, beq_self_eq_true, decide_true, ↓sg_bsl, ↓st_callf, bX, ap_mkfn, ae_callvV, callvV_fn, List.cons_append, List.nil_append, boxV_i, boxV_dot, sto_dot, ap_conv, convV_int, bslV_0, fstep_d0, fstep_d1, bsl_dot, ae_appz, ap_cap, capV_nils, slcV_nils0, slcV_sl0, wrap_0, ae_clr, boxV_f, fstep_f, lod_new2, ↓st_appf, slcV_nils0N, slcV_sl0N, bslV_0N, bin_shr1, bsl_nd]
    all_goals first | exact ⟨hK1, _, rfl, .nil _ _ _⟩ | exact ⟨_, rfl, .nil _ _ _⟩ | skip
  · rw [hst] at q1
    have hS : putP l nn = ofP (l ++ [nn]) := by unfold putP; rw [hst]; rfl
    have hK2 : Keep s ((s.push (.row (Nd.av nn) true)).push (.row (Nd.av nn) true)) := hK1.push _
    have hr1 : read ndC ((s.push (.row (Nd.av nn) true)).push (.row (Nd.av nn) true)) (.sl (s.push (.row (Nd.av nn) true)).next 0 1 (some 1) 6) = some [nn] := by
      refine read_of (C := ndC) (n := 1) rfl (St.get_push_new _ _) (by simp [Nd.av, ndC]) ?_
      rw [cells_one]
      rfl
    have hb2 := bsl2N_one hr hr1
    have hK3 := hK2.push (.row [vl, .sl (s.push (.row (Nd.av nn) true)).next 0 1 (some 1) 6] true)
    obtain ⟨w, t, hq, hrw, hK4⟩ := q_ConcN (St.get_push_new ((s.push (.row (Nd.av nn) true)).push (.row (Nd.av nn) true)) (.row [vl, .sl (s.push (.row (Nd.av nn) true)).next 0 1 (some 1) 6] true)) (hK3.read hr) (((Keep.refl _).push _).read hr1) (by unfold lim; omega) (by simp [lim])
    obtain ⟨w2, t2, hq2, hO, hK5⟩ := q_SOf hrw (by rw [List.length_append]; unfold lim; simp; omega)
    have hKa := hK3.trans hK4
    simp (config := {contextual := true, maxDischargeDepth := 12}) only [tb_at, h0, h1, hlen, q1, hS, b1, b6, hb2, hq, hq2, notV_bool, Bool.not_true, ↓bD, bU, forall_const, List.all_cons, List.all_nil, Option.map_some, List.map_cons, List.map_nil, ne_eq, implies_true, isNx, eq_self, ↓wp_cond, ↓wp_loop, ↓reduceIte, reduceCtorEq, Nat.reduceEqDiff, Nat.reduceLT, Nat.reduceAdd, Nat.reduceMul, Int.ofNat_lt, Int.ofNat_le, exists_const, Option.map_none, beq_self_eq_true, decide_true, ↓sg_bsl, ↓st_callf, bX, ap_mkfn, ae_callvV, callvV_fn, List.cons_append, List.nil_append, boxV_i, boxV_dot, sto_dot, ap_conv, convV_int, bslV_0, fstep_d0, fstep_d1, bsl_dot, ae_appz, ap_cap, capV_nils, slcV_nils0, slcV_sl0, wrap_0, ae_clr, boxV_f, fstep_f, lod_new2, ↓st_appf, slcV_nils0N, slcV_sl0N, bslV_0N, bin_shr1, bsl_nd]
    exact ⟨hKa.trans hK5, _, rfl, hO.from hKa.next⟩
theorem q_SPut {s : St} {vl : AV} {l : List Nd} (hr : read ndC s vl = some l) (hl : l.length ≤ 200000) (nn : Nd) : ∃ v t, acall R_SPut false [vl, .agg (Nd.av nn)] s = some (.tup [v, .int .i64 (putP l nn).2], t) ∧ Own ndC s t v ((putP l nn).1) ∧ Keep s t := run_fresh n_SPut (by simp [a30]) (fun v => .tup [v, .int .i64 (putP l nn).2]) (fun _ _ _ _ _ => rfl) (w_SPut (s := lowd s) (read_low' hr) hl nn)

theorem idx_has (l : List Nd) (d : Dot) : (idxN l (fun y => decide (y.d = d)) < 0) = (hasN l d = false) := by
  have h := idxN_ge l fun y => decide (y.d = d)
  have e : (idxN l (fun y => decide (y.d = d)) < 0) = ¬ (0 ≤ idxN l (fun y => decide (y.d = d))) := by
    simp only [eq_iff_iff]; omega
  rw [e, h]
  unfold hasN
  simp
theorem killP_no {l : List Nd} {ds : List Dot} {d : Dot} (hd : d ∈ ds) (h : hasN l d = false) : killP l ds = ([], 9) := by
  unfold killP
  rw [if_neg]
  intro q
  have := List.all_eq_true.1 q d hd
  rw [h] at this
  cases this
theorem killP_yes {l : List Nd} {ds : List Dot} (h : ∀ k y, k < ds.length → ds[k]? = some y → hasN l y = true) : killP l ds = (killL l ds, 0) := by
  unfold killP
  rw [if_pos (all_at h)]
theorem killL_snoc {l : List Nd} {ds : List Dot} {i : Nat} {x : Nd} (hx : l[i]? = some x) : killL (l.take (i + 1)) ds = killL (l.take i) ds ++ [if x.d ∈ ds then kill1 x else x] := by
  rw [take_snoc hx]
  unfold killL
  rw [List.map_append]
  rfl
noncomputable def R_RKill : Con := runFn (tb [(11, R_RFnd), (40, R_RHas), (48, R_RNKill)]) a20
theorem s_RKill : SoundAt Tryz.prog 20 R_RKill := run_sound (tb_sound (l := [(11, R_RFnd), (40, R_RHas), (48, R_RNKill)]) (by simpa using ⟨s_RFnd, s_RHas, s_RNKill⟩)) mixed Tryz.func20 k20 c20
theorem n_RKill : noNxtC a20.body = true := by kernel_rfl
theorem w_RKill {s : St} {vl : AV} {l : List Nd} (hr : read ndC s vl = some l) (hl : l.length ≤ 200000) {vd : AV} {ds : List Dot} (hrd : read dotC s vd = some ds) (hld : ds.length ≤ 200000) : ∀ env : Env, elen env = a20.ntmps → (∀ i x_, [vl, vd][i]? = some x_ → E env i = x_) → awp (tb [(11, R_RFnd), (40, R_RHas), (48, R_RNKill)]) a20.body (fun x e t => (∀ i, x ≠ .exit i) ∧ Keep s t ∧ ∃ r, aresults e t a20.results = some (.tup [r, .int .i64 (killP l ds).2]) ∧ Own ndC s t r (killP l ds).1) env s := by
  intro env hlen ha
  have h0 : E env 0 = _ := ha 0 _ rfl
  have h1 : E env 1 = _ := ha 1 _ rfl
  have hlen : elen env = _ := hlen
  simp only [a20] at hlen
  unfold a20
  try dsimp only [oO, oG]
  have hL := lenV_read hr
  have hLd := lenV_read hrd
  simp (config := {contextual := true, maxDischargeDepth := 12}) only [tb_at, h0, h1, hlen, hLd, ↓bD, bU, forall_const, List.all_cons, List.all_nil, Option.map_some, List.map_cons, List.map_nil, ne_eq, implies_true, isNx, eq_self, ↓wp_cond, ↓wp_loop, ↓reduceIte, reduceCtorEq, Nat.reduceEqDiff, Nat.reduceLT, Nat.reduceAdd, Nat.reduceMul, Int.ofNat_lt, Int.ofNat_le, exists_const, Option.map_none, beq_self_eq_true, decide_true, ↓sg_bsl, ↓st_callf, bX, ap_mkfn, ae_callvV, callvV_fn, List.cons_append, List.nil_append, boxV_i, boxV_dot, sto_dot, ap_conv, convV_int, bslV_0, fstep_d0, fstep_d1, bsl_dot, ae_appz, ap_cap, capV_nils, slcV_nils0, slcV_sl0, wrap_0, ae_clr, boxV_f, fstep_f, lod_new2, ↓st_appf, slcV_nils0N, slcV_sl0N, bslV_0N, bin_shr1, bsl_nd]
  obtain ⟨I1, hI1⟩ : ∃ I : Nat → Env → St → Prop, ∀ n e t, I n e t = (t = s ∧ ∃ i : Nat, n + i = ds.length ∧ elen e = 44 ∧ E e 0 = vl ∧ E e 1 = vd ∧ E e 6 = .int .i64 (i : Int) ∧ ∀ k y, k < i → ds[k]? = some y → hasN l y = true) := ⟨fun n e t => (t = s ∧ ∃ i : Nat, n + i = ds.length ∧ elen e = 44 ∧ E e 0 = vl ∧ E e 1 = vd ∧ E e 6 = .int .i64 (i : Int) ∧ ∀ k y, k < i → ds[k]? = some y → hasN l y = true), fun _ _ _ => rfl⟩
  refine lwp_inv I1 (n := ds.length) ?_ ?_
  · rw [hI1]
    exact ⟨rfl, 0, by omega, (by simp only [bE, Nat.reduceEqDiff, ne_eq, not_false_eq_true, Nat.reduceLT, hlen]; try rfl), (by simp only [bE, Nat.reduceEqDiff, ne_eq, not_false_eq_true, Nat.reduceLT, hlen, h0]; try rfl), (by simp only [bE, Nat.reduceEqDiff, ne_eq, not_false_eq_true, Nat.reduceLT, hlen, h1]; try rfl), (by simp only [bE, Nat.reduceEqDiff, ne_eq, not_false_eq_true, Nat.reduceLT, hlen]; try rfl), fun k y hk => by omega⟩
  intro n e t hi
  rw [hI1] at hi
  obtain ⟨hK, i, hni, he, e0, e1, e6, hp1⟩ := hi
  have hK := hK.symm
  subst hK
  by_cases hlt : i < ds.length
  · obtain ⟨x, hx⟩ := getsome hlt
    have hw2 := wrap_add1 (n := i) (by omega)
    obtain ⟨a1, a2, a3, a4⟩ := dot_lods hrd (.refl _) hx
    have i1 := dot_idx hrd hx .i64
    have q1 := q_RFnd false hr (by unfold lim; omega) x
    have hz := idx_has l x
    cases hh : hasN l x
    · have hS := killP_no (mem_at hx) hh
      rw [hh] at hz
      simp (config := {contextual := true, maxDischargeDepth := 12}) only [tb_at, he, e0, e1, e6, hLd, hlt, a1, a4, i1, q1, hz, hS, ↓bD, bU, forall_const, List.all_cons, List.all_nil, Option.map_some, List.map_cons, List.map_nil, ne_eq, implies_true, isNx, eq_self, ↓wp_cond, ↓wp_loop, ↓reduceIte, reduceCtorEq, Nat.reduceEqDiff, Nat.reduceLT, Nat.reduceAdd, Nat.reduceMul, Int.ofNat_lt, Int.ofNat_le, exists_const, Option.map_none, beq_self_eq_true, decide_true, ↓sg_bsl, ↓st_callf, bX, ap_mkfn, ae_callvV, callvV_fn, List.cons_append, List.nil_append, boxV_i, boxV_dot, sto_dot, ap_conv, convV_int, bslV_0, fstep_d0, fstep_d1, bsl_dot, ae_appz, ap_cap, capV_nils, slcV_nils0, slcV_sl0, wrap_0, ae_clr, boxV_f, fstep_f, lod_new2, ↓st_appf, slcV_nils0N, slcV_sl0N, bslV_0N, bin_shr1, bsl_nd]
      all_goals first | exact ⟨.refl _, _, rfl, .nil _ _ _⟩ | exact ⟨_, rfl, .nil _ _ _⟩ | skip
    · rw [hh] at hz
      simp (config := {contextual := true, maxDischargeDepth := 12}) only [tb_at, he, e0, e1, e6, hLd, hlt, hw2, a1, a4, i1, q1, hz, Bool.true_eq_false, ↓bD, bU, forall_const, List.all_cons, List.all_nil, Option.map_some, List.map_cons, List.map_nil, ne_eq, implies_true, isNx, eq_self, ↓wp_cond, ↓wp_loop, ↓reduceIte, reduceCtorEq, Nat.reduceEqDiff, Nat.reduceLT, Nat.reduceAdd, Nat.reduceMul, Int.ofNat_lt, Int.ofNat_le, exists_const, Option.map_none, beq_self_eq_true, decide_true, ↓sg_bsl, ↓st_callf, bX, ap_mkfn, ae_callvV, callvV_fn, List.cons_append, List.nil_append, boxV_i, boxV_dot, sto_dot, ap_conv, convV_int, bslV_0, fstep_d0, fstep_d1, bsl_dot, ae_appz, ap_cap, capV_nils, slcV_nils0, slcV_sl0, wrap_0, ae_clr, boxV_f, fstep_f, lod_new2, ↓st_appf, slcV_nils0N, slcV_sl0N, bslV_0N, bin_shr1, bsl_nd]
      refine ⟨n - 1, by omega, ?_⟩
      rw [hI1]
      exact ⟨rfl, i + 1, by omega, (by simp only [bE, Nat.reduceEqDiff, ne_eq, not_false_eq_true, Nat.reduceLT, he, e0, e1, e6]; try rfl), (by simp only [bE, Nat.reduceEqDiff, ne_eq, not_false_eq_true, Nat.reduceLT, he, e0, e1, e6]; try rfl), (by simp only [bE, Nat.reduceEqDiff, ne_eq, not_false_eq_true, Nat.reduceLT, he, e0, e1, e6]; try rfl), (by simp only [bE, Nat.reduceEqDiff, ne_eq, not_false_eq_true, Nat.reduceLT, he, e0, e1, e6]; try rfl), pre_next (P := fun k y => hasN l y = true) hx hp1 hh⟩
  · obtain rfl : i = ds.length := by omega
    have hS := killP_yes hp1
    have hon : Own ndC s s .nils (killL (l.take 0) ds) := by rw [List.take_zero]; exact .nil _ _ _
    simp (config := {contextual := true, maxDischargeDepth := 12}) only [tb_at, he, e0, e1, e6, hLd, hL, hlt, ↓bD, bU, forall_const, List.all_cons, List.all_nil, Option.map_some, List.map_cons, List.map_nil, ne_eq, implies_true, isNx, eq_self, ↓wp_cond, ↓wp_loop, ↓reduceIte, reduceCtorEq, Nat.reduceEqDiff, Nat.reduceLT, Nat.reduceAdd, Nat.reduceMul, Int.ofNat_lt, Int.ofNat_le, exists_const, Option.map_none, beq_self_eq_true, decide_true, ↓sg_bsl, ↓st_callf, bX, ap_mkfn, ae_callvV, callvV_fn, List.cons_append, List.nil_append, boxV_i, boxV_dot, sto_dot, ap_conv, convV_int, bslV_0, fstep_d0, fstep_d1, bsl_dot, ae_appz, ap_cap, capV_nils, slcV_nils0, slcV_sl0, wrap_0, ae_clr, boxV_f, fstep_f, lod_new2, ↓st_appf, slcV_nils0N, slcV_sl0N, bslV_0N, bin_shr1, bsl_nd]
    obtain ⟨I2, hI2⟩ : ∃ I : Nat → Env → St → Prop, ∀ n e t, I n e t = (Keep s t ∧ ∃ i : Nat, n + i = l.length ∧ elen e = 44 ∧ E e 0 = vl ∧ E e 1 = vd ∧ E e 8 = .int .i64 (i : Int) ∧ Own ndC s t (E e 7) (killL (l.take i) ds)) := ⟨fun n e t => (Keep s t ∧ ∃ i : Nat, n + i = l.length ∧ elen e = 44 ∧ E e 0 = vl ∧ E e 1 = vd ∧ E e 8 = .int .i64 (i : Int) ∧ Own ndC s t (E e 7) (killL (l.take i) ds)), fun _ _ _ => rfl⟩
    refine lwp_inv I2 (n := l.length) ?_ ?_
    · rw [hI2]
      exact ⟨.refl _, 0, by omega, (by simp only [bE, Nat.reduceEqDiff, ne_eq, not_false_eq_true, Nat.reduceLT, he]; try rfl), (by simp only [bE, Nat.reduceEqDiff, ne_eq, not_false_eq_true, Nat.reduceLT, he, e0]; try rfl), (by simp only [bE, Nat.reduceEqDiff, ne_eq, not_false_eq_true, Nat.reduceLT, he, e1]; try rfl), (by simp only [bE, Nat.reduceEqDiff, ne_eq, not_false_eq_true, Nat.reduceLT, he]; try rfl), by simp only [bE, Nat.reduceEqDiff, ne_eq, not_false_eq_true, Nat.reduceLT, he]; exact hon⟩
    clear hni he e0 e1 e6 hlt hon
    intro n e t hi
    rw [hI2] at hi
    obtain ⟨hK, i, hni, he, e0, e1, e8, hO⟩ := hi
    by_cases hlt : i < l.length
    · obtain ⟨x, hx⟩ := getsome hlt
      have hw2 := wrap_add1 (n := i) (by omega)
      obtain ⟨a1, a2, a3, a5, a6, a4⟩ := nd_lods hr hK hx
      have i1 := nd_idx hr hx .i64
      have hsn := killL_snoc (ds := ds) hx
      have hln : (killL (l.take i) ds).length ≤ 200000 := by rw [killL_len, List.length_take]; omega
      have qh : ∀ u : St, Keep s u → acall R_RHas false [vd, .agg (Dot.av x.d)] u = some (.bool (decide (x.d ∈ ds)), u) := fun u hu => q_RHas false (hu.read hrd) (by unfold lim; omega) x.d
      have qh0 := qh _ (hK.lowed.push (.row (Nd.av x) true))
      have qk : ∀ u : St, acall R_RNKill false [.agg (Nd.av x)] u = some (.agg (Nd.av (kill1 x)), u) := fun u => q_RNKill false x
      have ho1 := sto_over (n := t.next) (s := t.lowed) rfl x (kill1 x)
      by_cases hm : x.d ∈ ds
      · have hz := decide_eq_true hm
        rw [hz] at qh0
        rw [if_pos hm] at hsn
        have hKb : Keep s (t.lowed.lowed.push (.row (Nd.av (kill1 x)) true)) := hK.lowed.lowed.push _
        obtain ⟨u1, t1, ap, hK', hO'⟩ := appV_one (C := ndC) hKb (hO.lowed.lowed.push _) (kill1 x) 48 (by unfold roomBytes; omega)
        have ap : appV ((t.lowed.lowed.push (.row (Nd.av (kill1 x)) true)).push (.row (Nd.av (kill1 x)) true)) 6 48 (E e 7) (.sl (t.lowed.lowed.push (.row (Nd.av (kill1 x)) true)).next 0 1 (some 1) 6) = some (u1, t1) := ap
        simp (config := {contextual := true, maxDischargeDepth := 12}) only [tb_at, he, e0, e1, e8, hL, hlt, hw2, a1, a4, i1, qh0, qk, ap, ho1, ↓bD, bU, forall_const, List.all_cons, List.all_nil, Option.map_some, List.map_cons, List.map_nil, ne_eq, implies_true, isNx, eq_self, ↓wp_cond, ↓wp_loop, ↓reduceIte, reduceCtorEq, Nat.reduceEqDiff, Nat.reduceLT, Nat.reduceAdd, Nat.reduceMul, Int.ofNat_lt, Int.ofNat_le, exists_const, Option.map_none, beq_self_eq_true, decide_true, ↓sg_bsl, ↓st_callf, bX, ap_mkfn, ae_callvV, callvV_fn, List.cons_append, List.nil_append, boxV_i, boxV_dot, sto_dot, ap_conv, convV_int, bslV_0, fstep_d0, fstep_d1, bsl_dot, ae_appz, ap_cap, capV_nils, slcV_nils0, slcV_sl0, wrap_0, ae_clr, boxV_f, fstep_f, lod_new2, ↓st_appf, slcV_nils0N, slcV_sl0N, bslV_0N, bin_shr1, bsl_nd]
        refine ⟨n - 1, by omega, ?_⟩
        rw [hI2]
        exact ⟨hK', i + 1, by omega, (by simp only [bE, Nat.reduceEqDiff, ne_eq, not_false_eq_true, Nat.reduceLT, he, e0, e1, e8]; try rfl), (by simp only [bE, Nat.reduceEqDiff, ne_eq, not_false_eq_true, Nat.reduceLT, he, e0, e1, e8]; try rfl), (by simp only [bE, Nat.reduceEqDiff, ne_eq, not_false_eq_true, Nat.reduceLT, he, e0, e1, e8]; try rfl), (by simp only [bE, Nat.reduceEqDiff, ne_eq, not_false_eq_true, Nat.reduceLT, he, e0, e1, e8]; try rfl), by simp only [bE, Nat.reduceEqDiff, ne_eq, not_false_eq_true, Nat.reduceLT, he]; rw [hsn]; exact hO'⟩
      · have hz := decide_eq_false hm
        rw [hz] at qh0
        rw [if_neg hm] at hsn
        have hKb : Keep s (t.lowed.push (.row (Nd.av x) true)) := hK.lowed.push _
        obtain ⟨u1, t1, ap, hK', hO'⟩ := appV_one (C := ndC) hKb (hO.lowed.push _) (x) 48 (by unfold roomBytes; omega)
        have ap : appV ((t.lowed.push (.row (Nd.av x) true)).push (.row (Nd.av (x)) true)) 6 48 (E e 7) (.sl (t.lowed.push (.row (Nd.av x) true)).next 0 1 (some 1) 6) = some (u1, t1) := ap
        simp (config := {contextual := true, maxDischargeDepth := 12}) only [tb_at, he, e0, e1, e8, hL, hlt, hw2, a1, a4, i1, qh0, qk, ap, ↓bD, bU, forall_const, List.all_cons, List.all_nil, Option.map_some, List.map_cons, List.map_nil, ne_eq, implies_true, isNx, eq_self, ↓wp_cond, ↓wp_loop, ↓reduceIte, reduceCtorEq, Nat.reduceEqDiff, Nat.reduceLT, Nat.reduceAdd, Nat.reduceMul, Int.ofNat_lt, Int.ofNat_le, exists_const, Option.map_none, beq_self_eq_true, decide_true, ↓sg_bsl, ↓st_callf, bX, ap_mkfn, ae_callvV, callvV_fn, List.cons_append, List.nil_append, boxV_i, boxV_dot, sto_dot, ap_conv, convV_int, bslV_0, fstep_d0, fstep_d1, bsl_dot, ae_appz, ap_cap, capV_nils, slcV_nils0, slcV_sl0, wrap_0, ae_clr, boxV_f, fstep_f, lod_new2, ↓st_appf, slcV_nils0N, slcV_sl0N, bslV_0N, bin_shr1, bsl_nd]
        refine ⟨n - 1, by omega, ?_⟩
        rw [hI2]
        exact ⟨hK', i + 1, by omega, (by simp only [bE, Nat.reduceEqDiff, ne_eq, not_false_eq_true, Nat.reduceLT, he, e0, e1, e8]; try rfl), (by simp only [bE, Nat.reduceEqDiff, ne_eq, not_false_eq_true, Nat.reduceLT, he, e0, e1, e8]; try rfl), (by simp only [bE, Nat.reduceEqDiff, ne_eq, not_false_eq_true, Nat.reduceLT, he, e0, e1, e8]; try rfl), (by simp only [bE, Nat.reduceEqDiff, ne_eq, not_false_eq_true, Nat.reduceLT, he, e0, e1, e8]; try rfl), by simp only [bE, Nat.reduceEqDiff, ne_eq, not_false_eq_true, Nat.reduceLT, he]; rw [hsn]; exact hO'⟩
    · obtain rfl : i = l.length := by omega
      rw [List.take_length] at hO
      simp (config := {contextual := true, maxDischargeDepth := 12}) only [tb_at, he, e0, e1, e8, hL, hlt, hS, ↓bD, bU, forall_const, List.all_cons, List.all_nil, Option.map_some, List.map_cons, List.map_nil, ne_eq, implies_true, isNx, eq_self, ↓wp_cond, ↓wp_loop, ↓reduceIte, reduceCtorEq, Nat.reduceEqDiff, Nat.reduceLT, Nat.reduceAdd, Nat.reduceMul, Int.ofNat_lt, Int.ofNat_le, exists_const, Option.map_none, beq_self_eq_true, decide_true, ↓sg_bsl, ↓st_callf, bX, ap_mkfn, ae_callvV, callvV_fn, List.cons_append, List.nil_append, boxV_i, boxV_dot, sto_dot, ap_conv, convV_int, bslV_0, fstep_d0, fstep_d1, bsl_dot, ae_appz, ap_cap, capV_nils, slcV_nils0, slcV_sl0, wrap_0, ae_clr, boxV_f, fstep_f, lod_new2, ↓st_appf, slcV_nils0N, slcV_sl0N, bslV_0N, bin_shr1, bsl_nd]
      first | exact ⟨hK, _, rfl, hO⟩ | exact ⟨_, rfl, hO⟩
theorem q_RKill {s : St} {vl : AV} {l : List Nd} (hr : read ndC s vl = some l) (hl : l.length ≤ 200000) {vd : AV} {ds : List Dot} (hrd : read dotC s vd = some ds) (hld : ds.length ≤ 200000) : ∃ v t, acall R_RKill false [vl, vd] s = some (.tup [v, .int .i64 (killP l ds).2], t) ∧ Own ndC s t v ((killP l ds).1) ∧ Keep s t := run_fresh n_RKill (by simp [a20]) (fun v => .tup [v, .int .i64 (killP l ds).2]) (fun _ _ _ _ _ => rfl) (w_RKill (s := lowd s) (read_low' hr) hl (read_low' hrd) hld)

end Go.AM
end
/-
  store.Kill. Own work of this project; in part printed by a program of it.
-/
section
set_option linter.unusedVariables false
set_option linter.unusedSimpArgs false
set_option maxRecDepth 100000
set_option maxHeartbeats 8000000
namespace Go.AM
open Go Go.Proofs

variable {s t u : St}

def killS (l : List Nd) (ds : List Dot) : List Nd × Int := if storeL l = true ∧ ds.all Dot.valid = true then killP l ds else ([], 2)
theorem kill_find (l : List Nd) (p : List Dot) (hl : l.Pairwise ltP) (d : Dot) : findV (killL l p) d = .tup [.int .i64 ((kOf l d : Nat) : Int), .bool (hasN l d)] := by
  unfold findV
  rw [kOf_dots (killL_dots l p), fnd_has (killL_sorted hl p), hasN_dots (killL_dots l p)]
theorem kill_at {l : List Nd} (p : List Dot) (hl : l.Pairwise ltP) {d : Dot} (h : hasN l d = true) : ∃ x, (killL l p)[kOf l d]? = some x ∧ x.d = d := by
  rw [← hasN_dots (killL_dots l p), ← fnd_has (killL_sorted hl p)] at h
  unfold fndN at h
  rw [kOf_dots (killL_dots l p)] at h
  split at h
  · rename_i x hx
    exact ⟨x, hx, by simpa using h⟩
  · cases h
noncomputable def R_SKill : Con := runFn (tb [(31, conL ndC fValid), (70, R_AnyD), (72, R_SClN), (69, R_Sfind), (73, conN fKill)]) a37
theorem s_SKill : SoundAt Tryz.prog 37 R_SKill := run_sound (tb_sound (l := [(31, conL ndC fValid), (70, R_AnyD), (72, R_SClN), (69, R_Sfind), (73, conN fKill)]) (by simpa using ⟨s_StValid, s_AnyD, s_SClN, s_Sfind, s_Kill⟩)) mixed Tryz.func37 k37 c37
theorem n_SKill : noNxtC a37.body = true := by kernel_rfl
theorem w_SKill {s : St} {vl : AV} {l : List Nd} (hr : read ndC s vl = some l) (hl : l.length ≤ 200000) {vd : AV} {ds : List Dot} (hrd : read dotC s vd = some ds) (hld : ds.length ≤ 200000) : ∀ env : Env, elen env = a37.ntmps → (∀ i x_, [vl, vd][i]? = some x_ → E env i = x_) → awp (tb [(31, conL ndC fValid), (70, R_AnyD), (72, R_SClN), (69, R_Sfind), (73, conN fKill)]) a37.body (fun x e t => (∀ i, x ≠ .exit i) ∧ ∃ r, aresults e t a37.results = some r ∧ (∃ w, r = .tup [w, .int .i64 (killS l ds).2] ∧ NewX ndC s t w (killS l ds).1) ∧ Keep s t) env s := by
  intro env hlen ha
  have h0 : E env 0 = _ := ha 0 _ rfl
  have h1 : E env 1 = _ := ha 1 _ rfl
  have hlen : elen env = _ := hlen
  simp only [a37] at hlen
  unfold a37
  try dsimp only [oO, oG]
  have hLd := lenV_read hrd
  have q1 := q_StValid false hr (by unfold lim; omega)
  have q2 := q_AnyD true hrd (by unfold lim; omega) (fun d => !d.valid) (g := 71) (caps := []) fun t d _ => q_KInv false d
  have q2' := q_AnyD false hrd (by unfold lim; omega) (fun d => !d.valid) (g := 71) (caps := []) fun t d _ => q_KInv false d
  rw [any_inv] at q2 q2'
  by_cases hok : storeL l = true ∧ ds.all Dot.valid = true
  · obtain ⟨hst, hdv⟩ := hok
    have hS : killS l ds = killP l ds := by unfold killS; rw [if_pos ⟨hst, hdv⟩]
    rw [hst] at q1
    rw [hdv] at q2 q2'
    have hs := store_sorted hst
    obtain ⟨w, t0, q3, ⟨hN0, hcap⟩, hK0⟩ := q_SClN hr (by unfold lim; omega)
    have hon : NewX ndC s t0 w (killL l (ds.take 0)) := by rw [List.take_zero, killL_nil]; exact hN0
    simp (config := {contextual := true, maxDischargeDepth := 12}) only [tb_at, h0, h1, hlen, q1, q2, q2', q3, hLd, notV_bool, Bool.not_true, ↓bD, bU, forall_const, List.all_cons, List.all_nil, Option.map_some, List.map_cons, List.map_nil, ne_eq, implies_true, isNx, eq_self, ↓wp_cond, ↓wp_loop, ↓reduceIte, reduceCtorEq, Nat.reduceEqDiff, Nat.reduceLT, Nat.reduceAdd, Nat.reduceMul, Int.ofNat_lt, Int.ofNat_le, exists_const, Option.map_none, beq_self_eq_true, decide_true, ↓sg_bsl, ↓st_callf, bX, ap_mkfn, ae_callvV, callvV_fn, List.cons_append, List.nil_append, boxV_i, boxV_dot, sto_dot, ap_conv, convV_int, bslV_0, fstep_d0, fstep_d1, bsl_dot, ae_appz, ap_cap, capV_nils, slcV_nils0, slcV_sl0, wrap_0, ae_clr, boxV_f, fstep_f, lod_new2, ↓st_appf, slcV_nils0N, slcV_sl0N, bslV_0N, bin_shr1, bsl_nd]
    obtain ⟨I, hI⟩ : ∃ I : Nat → Env → St → Prop, ∀ n e t, I n e t = (Keep s t ∧ ∃ i : Nat, n + i = ds.length ∧ elen e = 44 ∧ E e 20 = vd ∧ E e 21 = .int .i64 (ds.length : Int) ∧ E e 22 = .int .i64 (i : Int) ∧ E e 6 = w ∧ NewX ndC s t w (killL l (ds.take i)) ∧ ∀ k y, k < i → ds[k]? = some y → hasN l y = true) := ⟨fun n e t => (Keep s t ∧ ∃ i : Nat, n + i = ds.length ∧ elen e = 44 ∧ E e 20 = vd ∧ E e 21 = .int .i64 (ds.length : Int) ∧ E e 22 = .int .i64 (i : Int) ∧ E e 6 = w ∧ NewX ndC s t w (killL l (ds.take i)) ∧ ∀ k y, k < i → ds[k]? = some y → hasN l y = true), fun _ _ _ => rfl⟩
    refine lwp_inv I (n := ds.length) ?_ ?_
    · rw [hI]
      exact ⟨hK0, 0, by omega, (by simp only [bE, Nat.reduceEqDiff, ne_eq, not_false_eq_true, Nat.reduceLT, hlen]; try rfl), (by simp only [bE, Nat.reduceEqDiff, ne_eq, not_false_eq_true, Nat.reduceLT, hlen, h1]; try rfl), (by simp only [bE, Nat.reduceEqDiff, ne_eq, not_false_eq_true, Nat.reduceLT, hlen, hLd]; try rfl), (by simp only [bE, Nat.reduceEqDiff, ne_eq, not_false_eq_true, Nat.reduceLT, hlen]; try rfl), (by simp only [bE, Nat.reduceEqDiff, ne_eq, not_false_eq_true, Nat.reduceLT, hlen]; try rfl), hon, fun k y hk => by omega⟩
    clear h0 h1 hlen hon
    intro n e t hi
    rw [hI] at hi
    obtain ⟨hK, i, hni, he, e20, e21, e22, e6, hN, hp1⟩ := hi
    by_cases hlt : i < ds.length
    · obtain ⟨d, hx⟩ := getsome hlt
      have hw2 := wrap_add1 (n := i) (by omega)
      obtain ⟨a1, a2, a3, a4⟩ := dot_lods hrd hK hx
      have i1 := dot_idx hrd hx .i64
      have hKb : Keep s (t.lowed.push (.row (Dot.av d) true)) := hK.lowed.push _
      have hNb : NewX ndC s (t.lowed.push (.row (Dot.av d) true)) w (killL l (ds.take i)) := hN.mono fun id b hb => get_push_some _ hb
      have qf := q_Sfind false hNb.read (by rw [killL_len]; unfold lim; omega) (killL_sorted hs (ds.take i)) d
      rw [kill_find l _ hs] at qf
      cases hh : hasN l d
      · rw [hh] at qf
        have hP := killP_no (mem_at hx) hh
        simp (config := {contextual := true, maxDischargeDepth := 12}) only [tb_at, he, e20, e21, e22, e6, hlt, a1, a4, i1, qf, hS, hP, notV_bool, Bool.not_false, ↓bD, bU, forall_const, List.all_cons, List.all_nil, Option.map_some, List.map_cons, List.map_nil, ne_eq, implies_true, isNx, eq_self, ↓wp_cond, ↓wp_loop, ↓reduceIte, reduceCtorEq, Nat.reduceEqDiff, Nat.reduceLT, Nat.reduceAdd, Nat.reduceMul, Int.ofNat_lt, Int.ofNat_le, exists_const, Option.map_none, beq_self_eq_true, decide_true, ↓sg_bsl, ↓st_callf, bX, ap_mkfn, ae_callvV, callvV_fn, List.cons_append, List.nil_append, boxV_i, boxV_dot, sto_dot, ap_conv, convV_int, bslV_0, fstep_d0, fstep_d1, bsl_dot, ae_appz, ap_cap, capV_nils, slcV_nils0, slcV_sl0, wrap_0, ae_clr, boxV_f, fstep_f, lod_new2, ↓st_appf, slcV_nils0N, slcV_sl0N, bslV_0N, bin_shr1, bsl_nd]
        all_goals first | exact ⟨_, rfl, ⟨_, rfl, .nil _ _ _⟩, hKb⟩ | exact ⟨_, rfl, ⟨_, rfl, .nil _ _ _⟩, .refl _⟩ | exact ⟨_, rfl, ⟨_, rfl, .nil _ _ _⟩⟩ | exact ⟨_, rfl, _, rfl, .nil _ _ _⟩ | exact ⟨_, rfl, .nil _ _ _⟩ | exact ⟨⟨_, rfl, .nil _ _ _⟩, .refl _⟩ | exact ⟨_, ⟨rfl, rfl⟩, .nil _ _ _⟩ | skip
      · rw [hh] at qf
        obtain ⟨x, hxk, hxd⟩ := kill_at (ds.take i) hs hh
        obtain ⟨c1, c2, c3, c5, c6, c4⟩ := nd_lods hNb.read (.refl _) hxk
        have i2 := nd_idx hNb.read hxk .i64
        have hst2 := kill_step hs (ds.take i) hxk hxd
        rw [← take_snoc hx] at hst2
        have hkl := getlt hxk
        have qk : ∀ u : St, acall (conN fKill) false [.agg (Nd.av x)] u = some (.agg (Nd.av (kill1 x)), u) := fun u => q_Kill false x u
        rcases hNb with ⟨rfl, he0⟩ | ⟨j, cap, rfl, hj0, hg⟩
        · rw [he0] at hkl; simp at hkl
        have st1 := sto_ownN hg hkl (kill1 x)
        rw [hst2] at st1
        have eb : bid (.sl j 0 (killL l (ds.take i)).length cap ndC.sz) = j := rfl
        have eo : boff (.sl j 0 (killL l (ds.take i)).length cap ndC.sz) = 0 := rfl
        rw [eb, eo, Nat.zero_add] at c1 i2
        rw [eb] at c4
        have hjl := St.get_lt hg
        simp (config := {contextual := true, maxDischargeDepth := 12}) only [tb_at, he, e20, e21, e22, e6, hlt, hw2, a1, a4, i1, qf, c1, i2, qk, st1, notV_bool, Bool.not_true, ↓bD, bU, forall_const, List.all_cons, List.all_nil, Option.map_some, List.map_cons, List.map_nil, ne_eq, implies_true, isNx, eq_self, ↓wp_cond, ↓wp_loop, ↓reduceIte, reduceCtorEq, Nat.reduceEqDiff, Nat.reduceLT, Nat.reduceAdd, Nat.reduceMul, Int.ofNat_lt, Int.ofNat_le, exists_const, Option.map_none, beq_self_eq_true, decide_true, ↓sg_bsl, ↓st_callf, bX, ap_mkfn, ae_callvV, callvV_fn, List.cons_append, List.nil_append, boxV_i, boxV_dot, sto_dot, ap_conv, convV_int, bslV_0, fstep_d0, fstep_d1, bsl_dot, ae_appz, ap_cap, capV_nils, slcV_nils0, slcV_sl0, wrap_0, ae_clr, boxV_f, fstep_f, lod_new2, ↓st_appf, slcV_nils0N, slcV_sl0N, bslV_0N, bin_shr1, bsl_nd]
        refine ⟨n - 1, by omega, ?_⟩
        rw [hI]
        exact ⟨hKb.put _ hj0 hjl, i + 1, by omega, (by simp only [bE, Nat.reduceEqDiff, ne_eq, not_false_eq_true, Nat.reduceLT, he, e20, e21, e22, e6]; try rfl), (by simp only [bE, Nat.reduceEqDiff, ne_eq, not_false_eq_true, Nat.reduceLT, he, e20, e21, e22, e6]; try rfl), (by simp only [bE, Nat.reduceEqDiff, ne_eq, not_false_eq_true, Nat.reduceLT, he, e20, e21, e22, e6]; try rfl), (by simp only [bE, Nat.reduceEqDiff, ne_eq, not_false_eq_true, Nat.reduceLT, he, e20, e21, e22, e6]; try rfl), (by simp only [bE, Nat.reduceEqDiff, ne_eq, not_false_eq_true, Nat.reduceLT, he, e20, e21, e22, e6]; try rfl), .inr ⟨j, cap, by rw [killL_len, killL_len], hj0, St.get_put_same hg⟩, pre_next (P := fun k y => hasN l y = true) hx hp1 hh⟩
    · obtain rfl : i = ds.length := by omega
      rw [List.take_length] at hN
      have hP := killP_yes hp1
      simp (config := {contextual := true, maxDischargeDepth := 12}) only [tb_at, he, e20, e21, e22, e6, hlt, hS, hP, ↓bD, bU, forall_const, List.all_cons, List.all_nil, Option.map_some, List.map_cons, List.map_nil, ne_eq, implies_true, isNx, eq_self, ↓wp_cond, ↓wp_loop, ↓reduceIte, reduceCtorEq, Nat.reduceEqDiff, Nat.reduceLT, Nat.reduceAdd, Nat.reduceMul, Int.ofNat_lt, Int.ofNat_le, exists_const, Option.map_none, beq_self_eq_true, decide_true, ↓sg_bsl, ↓st_callf, bX, ap_mkfn, ae_callvV, callvV_fn, List.cons_append, List.nil_append, boxV_i, boxV_dot, sto_dot, ap_conv, convV_int, bslV_0, fstep_d0, fstep_d1, bsl_dot, ae_appz, ap_cap, capV_nils, slcV_nils0, slcV_sl0, wrap_0, ae_clr, boxV_f, fstep_f, lod_new2, ↓st_appf, slcV_nils0N, slcV_sl0N, bslV_0N, bin_shr1, bsl_nd]
      first | exact ⟨_, rfl, ⟨_, rfl, hN⟩, hK⟩ | exact ⟨⟨_, rfl, hN⟩, hK⟩ | skip
  · have hS : killS l ds = ([], 2) := by unfold killS; rw [if_neg hok]
    rw [hS]
    cases hst : storeL l
    · rw [hst] at q1
      simp (config := {contextual := true, maxDischargeDepth := 12}) only [tb_at, h0, h1, hlen, q1, notV_bool, Bool.not_false, ↓bD, bU, forall_const, List.all_cons, List.all_nil, Option.map_some, List.map_cons, List.map_nil, ne_eq, implies_true, isNx, eq_self, ↓wp_cond, ↓wp_loop, ↓reduceIte, reduceCtorEq, Nat.reduceEqDiff, Nat.reduceLT, Nat.reduceAdd, Nat.reduceMul, Int.ofNat_lt, Int.ofNat_le, exists_const, Option.map_none, beq_self_eq_true, decide_true, ↓sg_bsl, ↓st_callf, bX, ap_mkfn, ae_callvV, callvV_fn, List.cons_append, List.nil_append, boxV_i, boxV_dot, sto_dot, ap_conv, convV_int, bslV_0, fstep_d0, fstep_d1, bsl_dot, ae_appz, ap_cap, capV_nils, slcV_nils0, slcV_sl0, wrap_0, ae_clr, boxV_f, fstep_f, lod_new2, ↓st_appf, slcV_nils0N, slcV_sl0N, bslV_0N, bin_shr1, bsl_nd]
      all_goals first | exact ⟨_, rfl, ⟨_, rfl, .nil _ _ _⟩, hKb⟩ | exact ⟨_, rfl, ⟨_, rfl, .nil _ _ _⟩, .refl _⟩ | exact ⟨_, rfl, ⟨_, rfl, .nil _ _ _⟩⟩ | exact ⟨_, rfl, _, rfl, .nil _ _ _⟩ | exact ⟨_, rfl, .nil _ _ _⟩ | exact ⟨⟨_, rfl, .nil _ _ _⟩, .refl _⟩ | exact ⟨_, ⟨rfl, rfl⟩, .nil _ _ _⟩ | skip
    · have hdv : ds.all Dot.valid = false := by
        cases h : ds.all Dot.valid
        · rfl
        · exact absurd ⟨hst, h⟩ hok
      rw [hst] at q1
      rw [hdv] at q2 q2'
      simp (config := {contextual := true, maxDischargeDepth := 12}) only [tb_at, h0, h1, hlen, q1, q2, q2', notV_bool, Bool.not_true, Bool.not_false, ↓bD, bU, forall_const, List.all_cons, List.all_nil, Option.map_some, List.map_cons, List.map_nil, ne_eq, implies_true, isNx, eq_self, ↓wp_cond, ↓wp_loop, ↓reduceIte, reduceCtorEq, Nat.reduceEqDiff, Nat.reduceLT, Nat.reduceAdd, Nat.reduceMul, Int.ofNat_lt, Int.ofNat_le, exists_const, Option.map_none, beq_self_eq_true, decide_true, ↓sg_bsl, ↓st_callf, bX, ap_mkfn, ae_callvV, callvV_fn, List.cons_append, List.nil_append, boxV_i, boxV_dot, sto_dot, ap_conv, convV_int, bslV_0, fstep_d0, fstep_d1, bsl_dot, ae_appz, ap_cap, capV_nils, slcV_nils0, slcV_sl0, wrap_0, ae_clr, boxV_f, fstep_f, lod_new2, ↓st_appf, slcV_nils0N, slcV_sl0N, bslV_0N, bin_shr1, bsl_nd]
      all_goals first | exact ⟨_, rfl, ⟨_, rfl, .nil _ _ _⟩, hKb⟩ | exact ⟨_, rfl, ⟨_, rfl, .nil _ _ _⟩, .refl _⟩ | exact ⟨_, rfl, ⟨_, rfl, .nil _ _ _⟩⟩ | exact ⟨_, rfl, _, rfl, .nil _ _ _⟩ | exact ⟨_, rfl, .nil _ _ _⟩ | exact ⟨⟨_, rfl, .nil _ _ _⟩, .refl _⟩ | exact ⟨_, ⟨rfl, rfl⟩, .nil _ _ _⟩ | skip
theorem q_SKill {s : St} {vl : AV} {l : List Nd} (hr : read ndC s vl = some l) (hl : l.length ≤ 200000) {vd : AV} {ds : List Dot} (hrd : read dotC s vd = some ds) (hld : ds.length ≤ 200000) : ∃ w t, acall R_SKill false [vl, vd] s = some (.tup [w, .int .i64 (killS l ds).2], t) ∧ NewX ndC s t w (killS l ds).1 ∧ Keep s t := by
  obtain ⟨r, t, h1, ⟨w, rfl, h2⟩, h3⟩ := run_any n_SKill (args := [vl, vd]) (s := s) (by simp [a37]) (Q := fun r t => ∃ w, r = .tup [w, .int .i64 (killS l ds).2] ∧ NewX ndC s t w (killS l ds).1) (fun r t t' hg hn hq => by
    obtain ⟨w, e, h⟩ := hq
    exact ⟨w, e, h.mono fun id b hb => by rw [hg]; exact hb⟩) (fun r t hgr hk hq => by
    obtain ⟨w, rfl, h⟩ := hq
    rcases h with ⟨rfl, e⟩ | ⟨j, cap, rfl, h1, h2⟩
    · rw [e]
      exact ⟨_, rfl, .nil _ _ _⟩
    · simp [AV.ground, AV.plains, AV.plain] at hgr) (w_SKill (s := lowd s) (read_low' hr) hl (read_low' hrd) hld)
  exact ⟨w, t, h1, h2, h3⟩

end Go.AM
end
/-
  dot.Set of a list without repeats: a new list of its own. Own work of this project; in part printed by a program of it.
-/
section
set_option linter.unusedVariables false
set_option linter.unusedSimpArgs false
set_option maxRecDepth 100000
set_option maxHeartbeats 8000000
namespace Go.AM
open Go Go.Proofs

variable {s t u : St}

theorem app_cloneO {v : AV} {l : List Dot} (hr : read dotC s v = some l) (hl : l.length ≤ lim) (h0 : l ≠ []) : ∃ v' t, appV (s.push (.row [] true)) 2 16 (.sl s.next 0 0 (some 0) 2) v = some (v', t) ∧ Own dotC s t v' l ∧ Keep s t := by
  have hK : Keep s (s.push (.row [] true)) := (Keep.refl s).push _
  have hr1 := hK.read hr
  have h2 : dotC.sz = 2 := rfl
  have h0' : l.length ≠ 0 := fun h => h0 (List.length_eq_zero_iff.1 h)
  simp only [appV]
  rw [← h2, read_shown hr1, read_len hr1]
  simp only [aappend, if_true, St.get_push_new]
  rw [if_neg h0', if_pos ⟨by simp, by unfold lim at hl; unfold roomBytes; omega⟩, if_neg (by omega)]
  refine ⟨_, _, rfl, .inr ⟨_, by rw [Nat.zero_add], h0, hK.next, ?_⟩, hK.push _⟩
  rw [St.get_push_new]
  simp
theorem w_SClDo {s : St} {v : AV} {l : List Dot} (hr : read dotC s v = some l) (hl : l.length ≤ lim) (hne : v = .nils ∨ l ≠ []) : ∀ env : Env, elen env = a96.ntmps → (∀ i x_, [v][i]? = some x_ → E env i = x_) → awp (tb []) a96.body (fun x e t => (∀ i, x ≠ .exit i) ∧ ∃ r, aresults e t a96.results = some r ∧ Own dotC s t r l ∧ Keep s t) env s := by
  intro env hlen ha
  have h0 : E env 0 = _ := ha 0 _ rfl
  have hlen : elen env = _ := hlen
  simp only [a96] at hlen
  unfold a96
  try dsimp only [oO, oG]
  cases v with
  | nils =>
    rw [read_nils] at hr
    injection hr with hr
    subst hr
    simp (config := {contextual := true, maxDischargeDepth := 12}) only [tb_at, h0, hlen, ↓bD, bU, forall_const, List.all_cons, List.all_nil, Option.map_some, List.map_cons, List.map_nil, ne_eq, implies_true, isNx, eq_self, ↓wp_cond, ↓wp_loop, ↓reduceIte, reduceCtorEq, Nat.reduceEqDiff, Nat.reduceLT, Nat.reduceAdd, Nat.reduceMul, Int.ofNat_lt, Int.ofNat_le, exists_const, Option.map_none, beq_self_eq_true, decide_true, ↓sg_bsl, ↓st_callf, bX, ap_mkfn, ae_callvV, callvV_fn, List.cons_append, List.nil_append, boxV_i, boxV_dot, sto_dot, ap_conv, convV_int, bslV_0, fstep_d0, fstep_d1, bsl_dot, ae_appz, ap_cap, capV_nils, slcV_nils0, slcV_sl0, wrap_0, ae_clr, boxV_f, fstep_f, lod_new2, ↓st_appf, slcV_nils0N, slcV_sl0N, bslV_0N, bin_shr1, bsl_nd]
    first | exact ⟨_, rfl, .nil _ _ _, .refl s⟩ | exact ⟨_, rfl, .nil _ _ _⟩ | exact ⟨.nil _ _ _, .refl s⟩ | exact .nil _ _ _
  | sl id off n cap z =>
    obtain ⟨v', t, hap, hN, hK⟩ := app_cloneO hr hl (hne.resolve_left (by simp))
    simp (config := {contextual := true, maxDischargeDepth := 12}) only [tb_at, h0, hlen, hap, ↓bD, bU, forall_const, List.all_cons, List.all_nil, Option.map_some, List.map_cons, List.map_nil, ne_eq, implies_true, isNx, eq_self, ↓wp_cond, ↓wp_loop, ↓reduceIte, reduceCtorEq, Nat.reduceEqDiff, Nat.reduceLT, Nat.reduceAdd, Nat.reduceMul, Int.ofNat_lt, Int.ofNat_le, exists_const, Option.map_none, beq_self_eq_true, decide_true, ↓sg_bsl, ↓st_callf, bX, ap_mkfn, ae_callvV, callvV_fn, List.cons_append, List.nil_append, boxV_i, boxV_dot, sto_dot, ap_conv, convV_int, bslV_0, fstep_d0, fstep_d1, bsl_dot, ae_appz, ap_cap, capV_nils, slcV_nils0, slcV_sl0, wrap_0, ae_clr, boxV_f, fstep_f, lod_new2, ↓st_appf, slcV_nils0N, slcV_sl0N, bslV_0N, bin_shr1, bsl_nd]
    exact ⟨_, rfl, hN, hK⟩
  | _ => simp [read] at hr
theorem q_SClDo {s : St} {v : AV} {l : List Dot} (hr : read dotC s v = some l) (hl : l.length ≤ lim) (hne : v = .nils ∨ l ≠ []) : ∃ v' t, acall R_SClD false [v] s = some (v', t) ∧ Own dotC s t v' l ∧ Keep s t :=
  run_any n_SClD (by simp [a96]) (fun r t t' hg hn hq => hq.mono fun id b hb => by rw [hg]; exact hb) (fun r t hgr hk hq => by obtain ⟨rfl, rfl⟩ := hq.ground hgr; exact .nil _ _ _) (w_SClDo (s := lowd s) (read_low' hr) hl hne)
theorem w_CompDn {s : St} {s0 : St} {v : AV} {l : List Dot} (hN : NewX dotC s0 s v l) (hl : l.length ≤ lim) (hnd : l.Nodup) : ∀ env : Env, elen env = a98.ntmps → (∀ i x_, [v][i]? = some x_ → E env i = x_) → awp (tb []) a98.body (fun x e t => (∀ i, x ≠ .exit i) ∧ ∃ r, aresults e t a98.results = some r ∧ r = v ∧ Keep s t) env s := by
  intro env hlen ha
  have h0 : E env 0 = _ := ha 0 _ rfl
  have hlen : elen env = _ := hlen
  simp only [a98] at hlen
  unfold a98
  try dsimp only [oO, oG]
  rcases hN with ⟨rfl, rfl⟩ | ⟨j, cap, rfl, hj0, hg⟩
  · have hz : ((0 : Int) < 2) = True := eq_true (by decide)
    simp (config := {contextual := true, maxDischargeDepth := 12}) only [tb_at, h0, hlen, lenV_nils, hz, ↓bD, bU, forall_const, List.all_cons, List.all_nil, Option.map_some, List.map_cons, List.map_nil, ne_eq, implies_true, isNx, eq_self, ↓wp_cond, ↓wp_loop, ↓reduceIte, reduceCtorEq, Nat.reduceEqDiff, Nat.reduceLT, Nat.reduceAdd, Nat.reduceMul, Int.ofNat_lt, Int.ofNat_le, exists_const, Option.map_none, beq_self_eq_true, decide_true, ↓sg_bsl, ↓st_callf, bX, ap_mkfn, ae_callvV, callvV_fn, List.cons_append, List.nil_append, boxV_i, boxV_dot, sto_dot, ap_conv, convV_int, bslV_0, fstep_d0, fstep_d1, bsl_dot, ae_appz, ap_cap, capV_nils, slcV_nils0, slcV_sl0, wrap_0, ae_clr, boxV_f, fstep_f, lod_new2, ↓st_appf, slcV_nils0N, slcV_sl0N, bslV_0N, bin_shr1, bsl_nd]
    all_goals first | exact ⟨_, rfl, rfl, .refl s⟩ | exact ⟨_, rfl, rfl⟩ | exact .refl s | trivial | skip
  have h2 : dotC.sz = 2 := rfl
  rw [h2] at h0
  by_cases hlen2 : l.length < 2
  · have hz := eq_true (show (l.length : Int) < 2 by omega)
    simp (config := {contextual := true, maxDischargeDepth := 12}) only [tb_at, h0, hlen, lenV_sl, hz, h2, ↓bD, bU, forall_const, List.all_cons, List.all_nil, Option.map_some, List.map_cons, List.map_nil, ne_eq, implies_true, isNx, eq_self, ↓wp_cond, ↓wp_loop, ↓reduceIte, reduceCtorEq, Nat.reduceEqDiff, Nat.reduceLT, Nat.reduceAdd, Nat.reduceMul, Int.ofNat_lt, Int.ofNat_le, exists_const, Option.map_none, beq_self_eq_true, decide_true, ↓sg_bsl, ↓st_callf, bX, ap_mkfn, ae_callvV, callvV_fn, List.cons_append, List.nil_append, boxV_i, boxV_dot, sto_dot, ap_conv, convV_int, bslV_0, fstep_d0, fstep_d1, bsl_dot, ae_appz, ap_cap, capV_nils, slcV_nils0, slcV_sl0, wrap_0, ae_clr, boxV_f, fstep_f, lod_new2, ↓st_appf, slcV_nils0N, slcV_sl0N, bslV_0N, bin_shr1, bsl_nd]
    all_goals first | exact ⟨_, rfl, rfl, .refl s⟩ | exact ⟨_, rfl, rfl⟩ | exact .refl s | trivial | skip
  · have hz := eq_false (show ¬ (l.length : Int) < 2 by omega)
    simp (config := {contextual := true, maxDischargeDepth := 12}) only [tb_at, h0, hlen, lenV_sl, hz, ↓bD, bU, forall_const, List.all_cons, List.all_nil, Option.map_some, List.map_cons, List.map_nil, ne_eq, implies_true, isNx, eq_self, ↓wp_cond, ↓wp_loop, ↓reduceIte, reduceCtorEq, Nat.reduceEqDiff, Nat.reduceLT, Nat.reduceAdd, Nat.reduceMul, Int.ofNat_lt, Int.ofNat_le, exists_const, Option.map_none, beq_self_eq_true, decide_true, ↓sg_bsl, ↓st_callf, bX, ap_mkfn, ae_callvV, callvV_fn, List.cons_append, List.nil_append, boxV_i, boxV_dot, sto_dot, ap_conv, convV_int, bslV_0, fstep_d0, fstep_d1, bsl_dot, ae_appz, ap_cap, capV_nils, slcV_nils0, slcV_sl0, wrap_0, ae_clr, boxV_f, fstep_f, lod_new2, ↓st_appf, slcV_nils0N, slcV_sl0N, bslV_0N, bin_shr1, bsl_nd]
    obtain ⟨I, hI⟩ : ∃ I : Nat → Env → St → Prop, ∀ n e t, I n e t = (t = s ∧ ∃ i : Nat, n + i = l.length ∧ elen e = 61 ∧ E e 0 = .sl j 0 l.length cap 2 ∧ E e 3 = .int .i64 ((i + 1 : Nat) : Int)) := ⟨fun n e t => (t = s ∧ ∃ i : Nat, n + i = l.length ∧ elen e = 61 ∧ E e 0 = .sl j 0 l.length cap 2 ∧ E e 3 = .int .i64 ((i + 1 : Nat) : Int)), fun _ _ _ => rfl⟩
    refine lwp_inv I (n := l.length) ?_ ?_
    · rw [hI]
      exact ⟨rfl, 0, by omega, (by simp only [bE, Nat.reduceEqDiff, ne_eq, not_false_eq_true, Nat.reduceLT, hlen]; try rfl), (by simp only [bE, Nat.reduceEqDiff, ne_eq, not_false_eq_true, Nat.reduceLT, hlen, h0]; try rfl), (by simp only [bE, Nat.reduceEqDiff, ne_eq, not_false_eq_true, Nat.reduceLT, hlen]; try rfl)⟩
    intro n e t hi
    rw [hI] at hi
    obtain ⟨hK, i, hni, he, e0, e3⟩ := hi
    have hK := hK.symm
    subst hK
    by_cases hlt : i + 1 < l.length
    · obtain ⟨x, hx⟩ := getsome (l := l) (i := i) (by omega)
      obtain ⟨y, hy⟩ := getsome hlt
      have hw1 := wrap_sub1 (n := i) (by unfold lim at hl; omega)
      have hw2 := wrap_add1 (n := i + 1) (by unfold lim at hl; omega)
      have i1 := iad_own (j := j) (cap := cap) 0 (show i < l.length by omega)
      have i2 := iad_own (j := j) (cap := cap) 0 hlt
      rw [Nat.zero_add] at i1 i2
      have a1 := lod_own hg hx
      have b1 := lod_own hg hy
      have hp : y ≠ x := by
        intro e
        obtain ⟨p1, q1⟩ := List.getElem?_eq_some_iff.1 hx
        obtain ⟨p2, q2⟩ := List.getElem?_eq_some_iff.1 hy
        have := (List.getElem_inj hnd).1 (q2.trans (e.trans q1.symm))
        omega
      have hzz := eq_false hp
      simp (config := {contextual := true, maxDischargeDepth := 12}) only [tb_at, he, e0, e3, lenV_sl, hlt, hw1, hw2, i1, i2, a1, b1, hzz, reserve0, ↓bD, bU, forall_const, List.all_cons, List.all_nil, Option.map_some, List.map_cons, List.map_nil, ne_eq, implies_true, isNx, eq_self, ↓wp_cond, ↓wp_loop, ↓reduceIte, reduceCtorEq, Nat.reduceEqDiff, Nat.reduceLT, Nat.reduceAdd, Nat.reduceMul, Int.ofNat_lt, Int.ofNat_le, exists_const, Option.map_none, beq_self_eq_true, decide_true, ↓sg_bsl, ↓st_callf, bX, ap_mkfn, ae_callvV, callvV_fn, List.cons_append, List.nil_append, boxV_i, boxV_dot, sto_dot, ap_conv, convV_int, bslV_0, fstep_d0, fstep_d1, bsl_dot, ae_appz, ap_cap, capV_nils, slcV_nils0, slcV_sl0, wrap_0, ae_clr, boxV_f, fstep_f, lod_new2, ↓st_appf, slcV_nils0N, slcV_sl0N, bslV_0N, bin_shr1, bsl_nd]
      refine ⟨n - 1, by omega, ?_⟩
      rw [hI]
      exact ⟨rfl, i + 1, by omega, (by simp only [bE, Nat.reduceEqDiff, ne_eq, not_false_eq_true, Nat.reduceLT, he, e0, e3]; try rfl), (by simp only [bE, Nat.reduceEqDiff, ne_eq, not_false_eq_true, Nat.reduceLT, he, e0, e3]; try rfl), (by simp only [bE, Nat.reduceEqDiff, ne_eq, not_false_eq_true, Nat.reduceLT, he, e0, e3]; try rfl)⟩
    · have hlt' := hlt
      simp (config := {contextual := true, maxDischargeDepth := 12}) only [tb_at, he, e0, e3, lenV_sl, hlt, h2, ↓bD, bU, forall_const, List.all_cons, List.all_nil, Option.map_some, List.map_cons, List.map_nil, ne_eq, implies_true, isNx, eq_self, ↓wp_cond, ↓wp_loop, ↓reduceIte, reduceCtorEq, Nat.reduceEqDiff, Nat.reduceLT, Nat.reduceAdd, Nat.reduceMul, Int.ofNat_lt, Int.ofNat_le, exists_const, Option.map_none, beq_self_eq_true, decide_true, ↓sg_bsl, ↓st_callf, bX, ap_mkfn, ae_callvV, callvV_fn, List.cons_append, List.nil_append, boxV_i, boxV_dot, sto_dot, ap_conv, convV_int, bslV_0, fstep_d0, fstep_d1, bsl_dot, ae_appz, ap_cap, capV_nils, slcV_nils0, slcV_sl0, wrap_0, ae_clr, boxV_f, fstep_f, lod_new2, ↓st_appf, slcV_nils0N, slcV_sl0N, bslV_0N, bin_shr1, bsl_nd]
      all_goals first | exact ⟨_, rfl, rfl, .refl s⟩ | exact ⟨_, rfl, rfl⟩ | exact .refl s | trivial | skip
theorem q_CompDn {s : St} {s0 : St} {v : AV} {l : List Dot} (hN : NewX dotC s0 s v l) (hl : l.length ≤ lim) (hnd : l.Nodup) : ∃ t, acall R_CompD false [v] s = some (v, t) ∧ Keep s t := by
  obtain ⟨r, t, h1, rfl, h3⟩ := run_any n_CompD (args := [v]) (s := s) (by simp [a98]) (Q := fun r t => r = v) (fun r t t' hg hn hq => hq) (fun r t hgr hk hq => hq) (w_CompDn (s := lowd s) (hN.mono fun _ _ h => h) hl hnd)
  exact ⟨t, h1, h3⟩
theorem w_DSeto {s : St} {v : AV} {l : List Dot} (hr : read dotC s v = some l) (hl : l.length ≤ lim) (hne : v = .nils ∨ l ≠ []) (hnd : l.Nodup) : ∀ env : Env, elen env = a78.ntmps → (∀ i x_, [v][i]? = some x_ → E env i = x_) → awp (tb [(96, R_SClD), (97, R_SSortD), (98, R_CompD)]) a78.body (fun x e t => (∀ i, x ≠ .exit i) ∧ ∃ r, aresults e t a78.results = some r ∧ Own dotC s t r (setL l) ∧ Keep s t) env s := by
  intro env hlen ha
  have h0 : E env 0 = _ := ha 0 _ rfl
  have hlen : elen env = _ := hlen
  simp only [a78] at hlen
  unfold a78
  try dsimp only [oO, oG]
  obtain ⟨v1, t1, q1, hO1, hK1⟩ := q_SClDo hr hl hne
  obtain ⟨t2, q2, hN2, hC2⟩ := q_SSortD hO1.newX hl
  have hnd2 : (sortD l).Nodup := (sortD_perm l).nodup_iff.2 hnd
  obtain ⟨t3, q3, hK3⟩ := q_CompDn hN2 (by rw [sortD_len]; exact hl) hnd2
  have hO2 := own_of_new hO1 hN2 (sortD_len l)
  have he : sortD l = setL l := by
    rw [← dedup_sort]
    have := dedup_chain (l := sortD l) (fun k x y hk hx hy e => by
      obtain ⟨p1, q1⟩ := List.getElem?_eq_some_iff.1 hx
      obtain ⟨p2, q2⟩ := List.getElem?_eq_some_iff.1 hy
      have := (List.getElem_inj hnd2).1 (q1.trans (e.trans q2.symm))
      omega) (sortD l).length (Nat.le_refl _)
    rw [List.take_length] at this
    exact this.symm
  rw [he] at hO2
  have hK2 := hK1.chgn hC2 (newX_vids hO1.newX)
  have hO3 : Own dotC s t3 v1 (setL l) := hO2.mono fun id b hb => hK3.blk hb
  simp (config := {contextual := true, maxDischargeDepth := 12}) only [tb_at, h0, hlen, q1, q2, q3, ↓bD, bU, forall_const, List.all_cons, List.all_nil, Option.map_some, List.map_cons, List.map_nil, ne_eq, implies_true, isNx, eq_self, ↓wp_cond, ↓wp_loop, ↓reduceIte, reduceCtorEq, Nat.reduceEqDiff, Nat.reduceLT, Nat.reduceAdd, Nat.reduceMul, Int.ofNat_lt, Int.ofNat_le, exists_const, Option.map_none, beq_self_eq_true, decide_true, ↓sg_bsl, ↓st_callf, bX, ap_mkfn, ae_callvV, callvV_fn, List.cons_append, List.nil_append, boxV_i, boxV_dot, sto_dot, ap_conv, convV_int, bslV_0, fstep_d0, fstep_d1, bsl_dot, ae_appz, ap_cap, capV_nils, slcV_nils0, slcV_sl0, wrap_0, ae_clr, boxV_f, fstep_f, lod_new2, ↓st_appf, slcV_nils0N, slcV_sl0N, bslV_0N, bin_shr1, bsl_nd]
  exact ⟨_, rfl, hO3, hK2.trans hK3⟩
theorem q_DSeto {s : St} {v : AV} {l : List Dot} (hr : read dotC s v = some l) (hl : l.length ≤ lim) (hne : v = .nils ∨ l ≠ []) (hnd : l.Nodup) : ∃ w t, acall R_DSet false [v] s = some (w, t) ∧ Own dotC s t w (setL l) ∧ Keep s t :=
  run_any n_DSet (by simp [a78]) (fun r t t' hg hn hq => hq.mono fun id b hb => by rw [hg]; exact hb) (fun r t hgr hk hq => by
    obtain ⟨rfl, h⟩ := hq.ground hgr
    rw [h]
    exact .nil _ _ _) (w_DSeto (s := lowd s) (read_low' hr) hl hne hnd)

end Go.AM
end
/-
  Maps from dots to true; store.Lacking. Own work of this project; in part printed by a program of it.
-/
section
set_option linter.unusedVariables false
set_option linter.unusedSimpArgs false
set_option maxRecDepth 100000
set_option maxHeartbeats 8000000
namespace Go.AM
open Go Go.Proofs

variable {s t u : St}
theorem whole_tt : (AV.bool true).whole = true := rfl
def entsB : Nat → List Dot → List (AV × AV × Nat)
  | _, [] => []
  | k, x :: r => (.agg (Dot.av x), .bool true, k) :: entsB (k + 1) r
def mapB (l : List Dot) : AB := .map (entsB 0 l) l.length
def lookB : List Dot → Dot → Option (Nat × Dot)
  | [], _ => none
  | x :: r, d => if x = d then some (0, x) else (lookB r d).map fun p => (p.1 + 1, p.2)
def updB (l : List Dot) (x : Dot) : List Dot := match lookB l x with
  | some (j, _) => l.set j x
  | none => l ++ [x]
theorem find_entsB : ∀ (l : List Dot) (d : Dot) (k i : Nat), findE (.fl [.i, .i]) (.agg (Dot.av d)) (entsB k l) i = some ((lookB l d).map fun p => (i + p.1, .bool true))
  | [], d, k, i => rfl
  | x :: r, d, k, i => by
    simp only [entsB, findE, eqK_dot, lookB]
    by_cases h : x = d
    · simp [h]
    · simp only [h, decide_false, if_false]
      rw [find_entsB r d (k + 1) (i + 1)]
      cases lookB r d <;> simp [Nat.add_comm, Nat.add_left_comm]
theorem lookB_some : ∀ {l : List Dot} {d : Dot} {j : Nat} {x : Dot}, lookB l d = some (j, x) → l[j]? = some x ∧ x = d
  | [], d, j, x, h => by simp [lookB] at h
  | y :: r, d, j, x, h => by
    simp only [lookB] at h
    split at h
    · injection h with h
      obtain ⟨rfl, rfl⟩ := Prod.mk.inj h
      exact ⟨rfl, by assumption⟩
    · obtain ⟨p, hp, h⟩ := Option.map_eq_some_iff.1 h
      obtain ⟨rfl, rfl⟩ := Prod.mk.inj h
      obtain ⟨h1, h2⟩ := lookB_some (l := r) (j := p.1) (x := p.2) hp
      exact ⟨by simpa using h1, h2⟩
theorem lookB_none : ∀ {l : List Dot} {d : Dot}, lookB l d = none → ∀ x ∈ l, x ≠ d
  | [], d, _ => by simp
  | y :: r, d, h => by
    simp only [lookB] at h
    split at h
    · cases h
    · rename_i e
      have := lookB_none (l := r) (d := d) (by simpa using h)
      intro x hx
      rcases List.mem_cons.1 hx with rfl | hx
      · exact e
      · exact this x hx
theorem entsB_get : ∀ (l : List Dot) (k j : Nat), (entsB k l)[j]? = (l[j]?).map fun x => (.agg (Dot.av x), .bool true, k + j)
  | [], k, j => by simp [entsB]
  | x :: r, k, 0 => rfl
  | x :: r, k, j + 1 => by
    simp only [entsB, List.getElem?_cons_succ, entsB_get r (k + 1) j]
    rw [show k + 1 + j = k + (j + 1) by omega]
theorem entsB_append : ∀ (l m : List Dot) (k : Nat), entsB k (l ++ m) = entsB k l ++ entsB (k + l.length) m
  | [], m, k => by simp [entsB]
  | x :: r, m, k => by
    simp only [List.cons_append, entsB, entsB_append r m (k + 1), List.length_cons]
    rw [show k + 1 + r.length = k + (r.length + 1) by omega]
theorem entsB_set : ∀ (l : List Dot) (k j : Nat) (x : Dot), entsB k (l.set j x) = (entsB k l).set j (.agg (Dot.av x), .bool true, k + j)
  | [], k, j, x => by simp [entsB]
  | y :: r, k, 0, x => by simp [entsB]
  | y :: r, k, j + 1, x => by
    simp only [List.set_cons_succ, entsB, entsB_set r (k + 1) j x]
    rw [show k + 1 + j = k + (j + 1) by omega]
theorem msetB_map {l : List Dot} {id : Nat} (hg : s.get id = some (mapB l)) (x : Dot) : msetV s (.fl [.i, .i]) (.mp id) (.agg (Dot.av x)) (.bool true) = some (.und, s.put id (mapB (updB l x))) := by
  simp only [msetV, key_dot, whole_tt, Bool.and_self, if_true, hg, mapB, find_entsB, updB]
  cases h : lookB l x with
  | none =>
    simp only [Option.map_none, entsB_append, entsB, List.length_append, List.length_singleton, Nat.zero_add]
  | some p =>
    obtain ⟨j, y⟩ := p
    obtain ⟨h1, h2⟩ := lookB_some h
    simp only [Option.map_some, Nat.zero_add, entsB_get, h1, entsB_set, List.length_set]
theorem rngB_map {l : List Dot} {id : Nat} (hg : s.get id = some (mapB l)) : rngV s (.mp id) = some (.ptr s.next 0, s.push (.iter (some id) l.length [] l.length)) := by
  simp only [rngV, hg, mapB]
theorem nextB_map {l : List Dot} {id p : Nat} {seen : List Nat} {K : AV → St → Prop} (hg : s.get id = some (mapB l)) (hp : s.get p = some (.iter (some id) l.length seen l.length))
    (h1 : (∀ i, i < l.length → i ∈ seen) → K (.tup [.bool false]) s) (h2 : ∀ i x, l[i]? = some x → i ∉ seen → K (.tup [.bool true, .agg (Dot.av x), .bool true]) (s.put p (.iter (some id) l.length (seen ++ [i]) l.length))) : anext (.ptr p 0) s K := by
  simp only [anext, hp, hg, mapB]
  have hm : ∀ e ∈ entsB 0 l, ∃ i x, l[i]? = some x ∧ e = (.agg (Dot.av x), .bool true, i) := by
    intro e he
    obtain ⟨i, hi⟩ := List.getElem?_of_mem he
    rw [entsB_get] at hi
    obtain ⟨x, hx, rfl⟩ := Option.map_eq_some_iff.1 hi
    exact ⟨i, x, hx, by simp⟩
  refine ⟨fun e he => ?_, Nat.le_refl _, fun ha => h1 fun i hi => ?_, fun e he hs => ?_⟩
  · obtain ⟨i, x, hx, rfl⟩ := hm e he
    exact getlt hx
  · obtain ⟨x, hx⟩ := getsome hi
    have : (entsB 0 l)[i]? = some (.agg (Dot.av x), .bool true, 0 + i) := by rw [entsB_get, hx]; rfl
    have := ha _ (List.mem_of_getElem? this)
    simpa using this
  · obtain ⟨i, x, hx, rfl⟩ := hm e he
    exact h2 i x hx hs
theorem entB_map {l : List Dot} {id p : Nat} {seen : List Nat} {i : Nat} {x : Dot} (hg : s.get id = some (mapB l)) (hp : s.get p = some (.iter (some id) l.length (seen ++ [i]) l.length)) (hx : l[i]? = some x) : entV s (.ptr p 0) = some (.tup [.agg (Dot.av x), .bool true]) := by
  have key : ∀ (l : List Dot) (k i : Nat) (x : Dot), l[i]? = some x → (entsB k l).find? (fun e => e.2.2 == k + i) = some (.agg (Dot.av x), .bool true, k + i) := by
    intro l
    induction l with
    | nil => intro k i x h; simp at h
    | cons y r ih =>
      intro k i x h
      cases i with
      | zero => simp at h; subst h; simp [entsB]
      | succ i =>
        have e : k + (i + 1) = k + 1 + i := by omega
        rw [entsB, List.find?_cons_of_neg (by simp), e]
        exact ih (k + 1) i x (by simpa using h)
  have := key l 0 i x hx
  rw [Nat.zero_add] at this
  simp only [entV, hp, hg, mapB, List.getLast?_concat, if_true, this, Option.map_some]
theorem updB_mem {l : List Dot} {x y : Dot} : y ∈ updB l x ↔ y ∈ l ∨ y = x := by
  unfold updB
  cases h : lookB l x with
  | none => simp
  | some p =>
    obtain ⟨j, z⟩ := p
    obtain ⟨h1, rfl⟩ := lookB_some h
    have e : l.set j z = l := by
      apply List.ext_getElem?
      intro k
      rw [List.getElem?_set]
      split
      · rename_i e
        subst e
        rw [if_pos (getlt h1), h1]
      · rfl
    simp only [e]
    exact ⟨.inl, fun q => q.elim id fun q => q ▸ mem_at h1⟩
theorem updB_nodup {l : List Dot} {x : Dot} (h : l.Nodup) : (updB l x).Nodup := by
  unfold updB
  cases hl : lookB l x with
  | none =>
    rw [List.nodup_append]
    exact ⟨h, by simp, fun a ha b hb e => by
      rw [List.mem_singleton.1 hb] at e
      exact lookB_none hl a ha e⟩
  | some p =>
    obtain ⟨j, z⟩ := p
    obtain ⟨h1, rfl⟩ := lookB_some hl
    have e : l.set j z = l := by
      apply List.ext_getElem?
      intro k
      rw [List.getElem?_set]
      split
      · rename_i e
        subst e
        rw [if_pos (getlt h1), h1]
      · rfl
    simp only [e]
    exact h
theorem updB_len (l : List Dot) (x : Dot) : (updB l x).length ≤ l.length + 1 := by
  unfold updB
  split <;> simp
def mbstep (M : List Dot) (n : Nd) : List Dot := if n.p.root = true then M else updB M n.p
theorem bfold : ∀ (l : List Nd) (M : List Dot), M.Nodup → (l.foldl mbstep M).Nodup ∧ (l.foldl mbstep M).length ≤ M.length + l.length ∧ ∀ d, d ∈ l.foldl mbstep M ↔ d ∈ M ∨ ∃ n ∈ l, n.p.root = false ∧ n.p = d
  | [], M, h => ⟨h, by simp, fun d => by simp⟩
  | n :: l, M, h => by
    have hb : (mbstep M n).Nodup := by
      unfold mbstep
      split
      · exact h
      · exact updB_nodup h
    have hl : (mbstep M n).length ≤ M.length + 1 := by
      unfold mbstep
      split
      · omega
      · exact updB_len _ _
    obtain ⟨h1, h2, h3⟩ := bfold l (mbstep M n) hb
    refine ⟨h1, by simp only [List.foldl_cons, List.length_cons]; omega, fun d => ?_⟩
    rw [List.foldl_cons, h3]
    unfold mbstep
    cases hr : n.p.root
    · simp only [Bool.false_eq_true, if_false, updB_mem, List.mem_cons]
      constructor
      · rintro ((q | q) | ⟨m, q1, q2, q3⟩)
        · exact .inl q
        · exact .inr ⟨n, .inl rfl, hr, q.symm⟩
        · exact .inr ⟨m, .inr q1, q2, q3⟩
      · rintro (q | ⟨m, rfl | q1, q2, q3⟩)
        · exact .inl (.inl q)
        · exact .inl (.inr q3.symm)
        · exact .inr ⟨m, q1, q2, q3⟩
    · simp only [if_true, List.mem_cons]
      constructor
      · rintro (q | ⟨m, q1, q2, q3⟩)
        · exact .inl q
        · exact .inr ⟨m, .inr q1, q2, q3⟩
      · rintro (q | ⟨m, rfl | q1, q2, q3⟩)
        · exact .inl q
        · rw [hr] at q2; cases q2
        · exact .inr ⟨m, q1, q2, q3⟩
/-- The parents that are not there. -/
def lackL (l : List Nd) : List Dot := setL (((l.filter fun n => !n.p.root).map Nd.p).filter fun d => !hasN l d)
def lackP (l : List Nd) : List Dot × Int := if storeL l = true then (lackL l, 0) else ([], 2)
def gLack (l : List Nd) : Option (List Dot × Option AV) := some ((lackP l).1, some (.int .i64 (lackP l).2))
theorem s_SLack : SoundAt Tryz.prog 52 (conF dotC (pL ndC gLack)) :=
  con_fresh (tb_sound (l := [(31, conL ndC fValid), (82, conD fDotRoot), (69, R_Sfind), (78, R_DSet)]) (by simpa using ⟨s_StValid, s_DotRoot, s_Sfind, s_DSet⟩)) mixed Tryz.func52 k52 c52 fun args s r ee h => by
    obtain ⟨v, l, rfl, hr, hl, hp⟩ := pL_some h
    injection hp with hp
    obtain ⟨rfl, rfl⟩ := Prod.mk.inj hp
    refine ⟨fun x hx => by injection hx with hx; subst hx; rfl, by simp [a52], fun env hlen ha => ?_⟩
    have h0 : E env 0 = _ := ha 0 _ rfl
    have hlen : elen env = _ := hlen
    simp only [a52] at hlen
    unfold a52
    try dsimp only [oO, oG]
    unfold lim at hl
    have hL := lenV_read hr
    have q1 := q_StValid false hr (by unfold lim; omega)
    cases hst : storeL l
    · rw [hst] at q1
      have hS : lackP l = ([], 2) := by unfold lackP; rw [hst]; rfl
      rw [hS]
      simp (config := {contextual := true, maxDischargeDepth := 12}) only [tb_at, h0, hlen, q1, notV_bool, Bool.not_false, ↓bD, bU, forall_const, List.all_cons, List.all_nil, Option.map_some, List.map_cons, List.map_nil, ne_eq, implies_true, isNx, eq_self, ↓wp_cond, ↓wp_loop, ↓reduceIte, reduceCtorEq, Nat.reduceEqDiff, Nat.reduceLT, Nat.reduceAdd, Nat.reduceMul, Int.ofNat_lt, Int.ofNat_le, exists_const, Option.map_none, beq_self_eq_true, decide_true, ↓sg_bsl, ↓st_callf, bX, ap_mkfn, ae_callvV, callvV_fn, List.cons_append, List.nil_append, boxV_i, boxV_dot, sto_dot, ap_conv, convV_int, bslV_0, fstep_d0, fstep_d1, bsl_dot, ae_appz, ap_cap, capV_nils, slcV_nils0, slcV_sl0, wrap_0, ae_clr, boxV_f, fstep_f, lod_new2, ↓st_appf, slcV_nils0N, slcV_sl0N, bslV_0N, bin_shr1, bsl_nd]
      all_goals first | exact ⟨.refl _, _, rfl, .nil _ _ _⟩ | exact ⟨_, rfl, .nil _ _ _⟩ | skip
    · rw [hst] at q1
      have hs := store_sorted hst
      have hS : lackP l = (lackL l, 0) := by unfold lackP; rw [hst]; rfl
      rw [hS]
      simp (config := {contextual := true, maxDischargeDepth := 12}) only [tb_at, h0, hlen, q1, hL, notV_bool, Bool.not_true, ↓bD, bU, forall_const, List.all_cons, List.all_nil, Option.map_some, List.map_cons, List.map_nil, ne_eq, implies_true, isNx, eq_self, ↓wp_cond, ↓wp_loop, ↓reduceIte, reduceCtorEq, Nat.reduceEqDiff, Nat.reduceLT, Nat.reduceAdd, Nat.reduceMul, Int.ofNat_lt, Int.ofNat_le, exists_const, Option.map_none, beq_self_eq_true, decide_true, ↓sg_bsl, ↓st_callf, bX, ap_mkfn, ae_callvV, callvV_fn, List.cons_append, List.nil_append, boxV_i, boxV_dot, sto_dot, ap_conv, convV_int, bslV_0, fstep_d0, fstep_d1, bsl_dot, ae_appz, ap_cap, capV_nils, slcV_nils0, slcV_sl0, wrap_0, ae_clr, boxV_f, fstep_f, lod_new2, ↓st_appf, slcV_nils0N, slcV_sl0N, bslV_0N, bin_shr1, bsl_nd]
      obtain ⟨I, hI⟩ : ∃ I : Nat → Env → St → Prop, ∀ n e t, I n e t = (Keep s t ∧ ∃ i : Nat, n + i = l.length ∧ elen e = 49 ∧ E e 0 = v ∧ E e 4 = .mp s.next ∧ E e 15 = v ∧ E e 16 = .int .i64 (l.length : Int) ∧ E e 17 = .int .i64 (i : Int) ∧ t.get s.next = some (mapB ((l.take i).foldl mbstep []))) := ⟨fun n e t => (Keep s t ∧ ∃ i : Nat, n + i = l.length ∧ elen e = 49 ∧ E e 0 = v ∧ E e 4 = .mp s.next ∧ E e 15 = v ∧ E e 16 = .int .i64 (l.length : Int) ∧ E e 17 = .int .i64 (i : Int) ∧ t.get s.next = some (mapB ((l.take i).foldl mbstep []))), fun _ _ _ => rfl⟩
      refine lwp_inv I (n := l.length) ?_ ?_
      · rw [hI]
        exact ⟨(Keep.refl s).push _, 0, by omega, (by simp only [bE, Nat.reduceEqDiff, ne_eq, not_false_eq_true, Nat.reduceLT, hlen]; try rfl), (by simp only [bE, Nat.reduceEqDiff, ne_eq, not_false_eq_true, Nat.reduceLT, hlen, h0]; try rfl), (by simp only [bE, Nat.reduceEqDiff, ne_eq, not_false_eq_true, Nat.reduceLT, hlen]; try rfl), (by simp only [bE, Nat.reduceEqDiff, ne_eq, not_false_eq_true, Nat.reduceLT, hlen, h0]; try rfl), (by simp only [bE, Nat.reduceEqDiff, ne_eq, not_false_eq_true, Nat.reduceLT, hlen, hL]; try rfl), (by simp only [bE, Nat.reduceEqDiff, ne_eq, not_false_eq_true, Nat.reduceLT, hlen]; try rfl), by rw [List.take_zero]; exact St.get_push_new s _⟩
      clear h0 hlen q1
      intro n e t hi
      rw [hI] at hi
      obtain ⟨hK, i, hni, he, e0, e4, e15, e16, e17, gM⟩ := hi
      obtain ⟨m1, m2, m3⟩ := bfold (l.take i) [] .nil
      generalize hMM : (l.take i).foldl mbstep [] = M at gM m1 m2 m3
      have lM := lt_of_get gM
      by_cases hlt : i < l.length
      · obtain ⟨x, hx⟩ := getsome hlt
        have hw2 := wrap_add1 (n := i) (by omega)
        obtain ⟨a1, a2, a3, a5, a6, a4⟩ := nd_lods hr hK hx
        have i1 := nd_idx hr hx .i64
        have hsn : (l.take (i + 1)).foldl mbstep [] = mbstep M x := by rw [take_snoc hx, List.foldl_append, hMM]; rfl
        have qr : ∀ u : St, acall (conD fDotRoot) false [.agg (Dot.av x.p)] u = some (.bool x.p.root, u) := fun u => q_DotRoot false x.p u
        cases hrt : x.p.root
        · rw [hrt] at qr
          have hst2 := msetB_map gM x.p
          have hb2 : mbstep M x = updB M x.p := by unfold mbstep; rw [hrt]; rfl
          simp (config := {contextual := true, maxDischargeDepth := 12}) only [tb_at, he, e0, e4, e15, e16, e17, hL, hlt, hw2, a1, a4, i1, qr, hst2, lM, notV_bool, Bool.not_false, ↓bD, bU, forall_const, List.all_cons, List.all_nil, Option.map_some, List.map_cons, List.map_nil, ne_eq, implies_true, isNx, eq_self, ↓wp_cond, ↓wp_loop, ↓reduceIte, reduceCtorEq, Nat.reduceEqDiff, Nat.reduceLT, Nat.reduceAdd, Nat.reduceMul, Int.ofNat_lt, Int.ofNat_le, exists_const, Option.map_none, beq_self_eq_true, decide_true, ↓sg_bsl, ↓st_callf, bX, ap_mkfn, ae_callvV, callvV_fn, List.cons_append, List.nil_append, boxV_i, boxV_dot, sto_dot, ap_conv, convV_int, bslV_0, fstep_d0, fstep_d1, bsl_dot, ae_appz, ap_cap, capV_nils, slcV_nils0, slcV_sl0, wrap_0, ae_clr, boxV_f, fstep_f, lod_new2, ↓st_appf, slcV_nils0N, slcV_sl0N, bslV_0N, bin_shr1, bsl_nd]
          refine ⟨n - 1, by omega, ?_⟩
          rw [hI]
          refine ⟨((hK.put _ (Nat.le_refl _) lM).lowed).push _, i + 1, by omega, (by simp only [bE, Nat.reduceEqDiff, ne_eq, not_false_eq_true, Nat.reduceLT, he, e0, e4, e15, e16, e17]; try rfl), (by simp only [bE, Nat.reduceEqDiff, ne_eq, not_false_eq_true, Nat.reduceLT, he, e0, e4, e15, e16, e17]; try rfl), (by simp only [bE, Nat.reduceEqDiff, ne_eq, not_false_eq_true, Nat.reduceLT, he, e0, e4, e15, e16, e17]; try rfl), (by simp only [bE, Nat.reduceEqDiff, ne_eq, not_false_eq_true, Nat.reduceLT, he, e0, e4, e15, e16, e17]; try rfl), (by simp only [bE, Nat.reduceEqDiff, ne_eq, not_false_eq_true, Nat.reduceLT, he, e0, e4, e15, e16, e17]; try rfl), (by simp only [bE, Nat.reduceEqDiff, ne_eq, not_false_eq_true, Nat.reduceLT, he, e0, e4, e15, e16, e17]; try rfl), ?_⟩
          rw [hsn, hb2]
          exact get_push_some _ (St.get_put_same gM)
        · rw [hrt] at qr
          have hb2 : mbstep M x = M := by unfold mbstep; rw [hrt]; rfl
          simp (config := {contextual := true, maxDischargeDepth := 12}) only [tb_at, he, e0, e4, e15, e16, e17, hL, hlt, hw2, a1, a4, i1, qr, lM, notV_bool, Bool.not_true, ↓bD, bU, forall_const, List.all_cons, List.all_nil, Option.map_some, List.map_cons, List.map_nil, ne_eq, implies_true, isNx, eq_self, ↓wp_cond, ↓wp_loop, ↓reduceIte, reduceCtorEq, Nat.reduceEqDiff, Nat.reduceLT, Nat.reduceAdd, Nat.reduceMul, Int.ofNat_lt, Int.ofNat_le, exists_const, Option.map_none, beq_self_eq_true, decide_true, ↓sg_bsl, ↓st_callf, bX, ap_mkfn, ae_callvV, callvV_fn, List.cons_append, List.nil_append, boxV_i, boxV_dot, sto_dot, ap_conv, convV_int, bslV_0, fstep_d0, fstep_d1, bsl_dot, ae_appz, ap_cap, capV_nils, slcV_nils0, slcV_sl0, wrap_0, ae_clr, boxV_f, fstep_f, lod_new2, ↓st_appf, slcV_nils0N, slcV_sl0N, bslV_0N, bin_shr1, bsl_nd]
          refine ⟨n - 1, by omega, ?_⟩
          rw [hI]
          refine ⟨hK.lowed.push _, i + 1, by omega, (by simp only [bE, Nat.reduceEqDiff, ne_eq, not_false_eq_true, Nat.reduceLT, he, e0, e4, e15, e16, e17]; try rfl), (by simp only [bE, Nat.reduceEqDiff, ne_eq, not_false_eq_true, Nat.reduceLT, he, e0, e4, e15, e16, e17]; try rfl), (by simp only [bE, Nat.reduceEqDiff, ne_eq, not_false_eq_true, Nat.reduceLT, he, e0, e4, e15, e16, e17]; try rfl), (by simp only [bE, Nat.reduceEqDiff, ne_eq, not_false_eq_true, Nat.reduceLT, he, e0, e4, e15, e16, e17]; try rfl), (by simp only [bE, Nat.reduceEqDiff, ne_eq, not_false_eq_true, Nat.reduceLT, he, e0, e4, e15, e16, e17]; try rfl), (by simp only [bE, Nat.reduceEqDiff, ne_eq, not_false_eq_true, Nat.reduceLT, he, e0, e4, e15, e16, e17]; try rfl), ?_⟩
          rw [hsn, hb2]
          exact get_push_some _ gM
      · obtain rfl : i = l.length := by omega
        rw [List.take_length] at hMM m2 m3
        have hrg := rngB_map gM
        have hgI : (t.push (.iter (some s.next) M.length [] M.length)).get t.next = some (.iter (some s.next) M.length [] M.length) := St.get_push_new _ _
        have hgM : (t.push (.iter (some s.next) M.length [] M.length)).get s.next = some (mapB M) := get_push_some _ gM
        simp (config := {contextual := true, maxDischargeDepth := 12}) only [tb_at, he, e0, e4, e15, e16, e17, hL, hlt, hrg, lM, ↓bD, bU, forall_const, List.all_cons, List.all_nil, Option.map_some, List.map_cons, List.map_nil, ne_eq, implies_true, isNx, eq_self, ↓wp_cond, ↓wp_loop, ↓reduceIte, reduceCtorEq, Nat.reduceEqDiff, Nat.reduceLT, Nat.reduceAdd, Nat.reduceMul, Int.ofNat_lt, Int.ofNat_le, exists_const, Option.map_none, beq_self_eq_true, decide_true, ↓sg_bsl, ↓st_callf, bX, ap_mkfn, ae_callvV, callvV_fn, List.cons_append, List.nil_append, boxV_i, boxV_dot, sto_dot, ap_conv, convV_int, bslV_0, fstep_d0, fstep_d1, bsl_dot, ae_appz, ap_cap, capV_nils, slcV_nils0, slcV_sl0, wrap_0, ae_clr, boxV_f, fstep_f, lod_new2, ↓st_appf, slcV_nils0N, slcV_sl0N, bslV_0N, bin_shr1, bsl_nd]
        obtain ⟨I2, hI2⟩ : ∃ I : Nat → Env → St → Prop, ∀ n2 e2 t2, I n2 e2 t2 = (Keep s t2 ∧ ∃ (seen : List Nat) (vis : List Dot), n2 + seen.length = M.length ∧ elen e2 = 49 ∧ E e2 0 = v ∧ E e2 30 = .ptr t.next 0 ∧ t2.get s.next = some (mapB M) ∧ t2.get t.next = some (.iter (some s.next) M.length seen M.length) ∧ Own dotC s t2 (E e2 7) (vis.filter fun d => !hasN l d) ∧ seen.Nodup ∧ (∀ k ∈ seen, k < M.length) ∧ vis.map some = seen.map fun k => M[k]?) := ⟨fun n2 e2 t2 => (Keep s t2 ∧ ∃ (seen : List Nat) (vis : List Dot), n2 + seen.length = M.length ∧ elen e2 = 49 ∧ E e2 0 = v ∧ E e2 30 = .ptr t.next 0 ∧ t2.get s.next = some (mapB M) ∧ t2.get t.next = some (.iter (some s.next) M.length seen M.length) ∧ Own dotC s t2 (E e2 7) (vis.filter fun d => !hasN l d) ∧ seen.Nodup ∧ (∀ k ∈ seen, k < M.length) ∧ vis.map some = seen.map fun k => M[k]?), fun _ _ _ => rfl⟩
        refine lwp_inv I2 (n := M.length) ?_ ?_
        · rw [hI2]
          refine ⟨hK.push _, [], [], by simp, (by simp only [bE, Nat.reduceEqDiff, ne_eq, not_false_eq_true, Nat.reduceLT, he]; try rfl), (by simp only [bE, Nat.reduceEqDiff, ne_eq, not_false_eq_true, Nat.reduceLT, he, e0]; try rfl), (by simp only [bE, Nat.reduceEqDiff, ne_eq, not_false_eq_true, Nat.reduceLT, he]; try rfl), hgM, hgI, ?_, by simp, by simp, by simp⟩
          simp only [bE, Nat.reduceEqDiff, ne_eq, not_false_eq_true, Nat.reduceLT, he]
          exact .nil _ _ _
        clear hgI hgM hrg e15 e16 e17 e4 hlt
        intro n2 e2 t2 hi2
        rw [hI2] at hi2
        obtain ⟨hK2, seen, vis, hn2, he2, e0, e30, gM2, gI2, hO2, hsd, hsl, hac⟩ := hi2
        have lM2 := lt_of_get gM2
        have lI2 := lt_of_get gI2
        have hpI : s.next ≤ t.next := hK.next
        have hne0 : s.next ≠ t.next := by
          intro e
          rw [e, gI2] at gM2
          cases gM2
        have hvl : vis.length = seen.length := by have := congrArg List.length hac; simpa using this
        simp only [↓wp_seq, ↓wp_reg, ↓st_nxt, aev_t, e30]
        refine nextB_map gM2 gI2 (fun hall2 => ?_) (fun i x hx hns => ?_)
        · have hpm := seen_permD hsd hsl hac hall2
          have hfl : (vis.filter fun d => !hasN l d).length ≤ 1000000 := by
            have h1 := List.length_filter_le (fun d => !hasN l d) vis
            have h2 := hpm.length_eq
            simp at m2
            omega
          obtain ⟨w, t3, q3, hN3, hK3⟩ := q_DSeto hO2.read (by unfold lim; omega) (hO2.imp (fun h => h.1) fun ⟨_, _, h, _⟩ => h) ((hpm.nodup_iff.2 m1).filter _)
          have hE : setL (vis.filter fun d => !hasN l d) = lackL l := setL_ext fun d => by
            rw [List.mem_filter, List.mem_filter, hpm.mem_iff, m3]
            simp only [List.mem_map, List.mem_filter, Bool.not_eq_true', List.not_mem_nil, false_or]
            constructor
            · rintro ⟨⟨n, h1, h2, h3⟩, h4⟩
              exact ⟨⟨n, ⟨h1, h2⟩, h3⟩, h4⟩
            · rintro ⟨⟨n, ⟨h1, h2⟩, h3⟩, h4⟩
              exact ⟨⟨n, h1, h2, h3⟩, h4⟩
          rw [hE] at hN3
          simp (config := {contextual := true, maxDischargeDepth := 12}) only [tb_at, he2, e0, e30, q3, ↓bD, bU, forall_const, List.all_cons, List.all_nil, Option.map_some, List.map_cons, List.map_nil, ne_eq, implies_true, isNx, eq_self, ↓wp_cond, ↓wp_loop, ↓reduceIte, reduceCtorEq, Nat.reduceEqDiff, Nat.reduceLT, Nat.reduceAdd, Nat.reduceMul, Int.ofNat_lt, Int.ofNat_le, exists_const, Option.map_none, beq_self_eq_true, decide_true, ↓sg_bsl, ↓st_callf, bX, ap_mkfn, ae_callvV, callvV_fn, List.cons_append, List.nil_append, boxV_i, boxV_dot, sto_dot, ap_conv, convV_int, bslV_0, fstep_d0, fstep_d1, bsl_dot, ae_appz, ap_cap, capV_nils, slcV_nils0, slcV_sl0, wrap_0, ae_clr, boxV_f, fstep_f, lod_new2, ↓st_appf, slcV_nils0N, slcV_sl0N, bslV_0N, bin_shr1, bsl_nd]
          first | exact ⟨hK2.trans hK3, _, rfl, hN3.from hK2.next⟩ | skip
        · obtain ⟨t4, ht4⟩ : ∃ t4, t4 = t2.put t.next (.iter (some s.next) M.length (seen ++ [i]) M.length) := ⟨_, rfl⟩
          rw [← ht4]
          have gM4 : t4.get s.next = some (mapB M) := by rw [ht4, St.get_put_ne _ _ lI2 hne0]; exact gM2
          have gI4 : t4.get t.next = some (.iter (some s.next) M.length (seen ++ [i]) M.length) := by rw [ht4]; exact St.get_put_same gI2
          have hK4 : Keep s t4 := by rw [ht4]; exact hK2.put _ hpI lI2
          have hO4 : Own dotC s t4 (E e2 7) (vis.filter fun d => !hasN l d) := by
            rcases hO2 with q | ⟨j, q1, q2, q3, q4⟩
            · exact .inl q
            · refine .inr ⟨j, q1, q2, q3, ?_⟩
              have : j ≠ t.next := by
                intro e
                rw [e, gI2] at q4
                cases q4
              rw [ht4, St.get_put_ne _ _ lI2 this]
              exact q4
          have lI4 := lt_of_get gI4
          have lM4 := lt_of_get gM4
          have hen := entB_map gM4 gI4 hx
          have hil := getlt hx
          have hlv : vis.length ≤ 1000000 := by
            have := room_left hsd hsl hil hns
            simp at m2
            omega
          have hfl := List.length_filter_le (fun d => !hasN l d) vis
          have hK5 : Keep s (t4.lowed.push (.row (Dot.av x) true)) := hK4.lowed.push _
          have qf := q_Sfind false (hK5.read hr) (by unfold lim; omega) hs x
          have hfv : findV l x = .tup [.int .i64 ((kOf l x : Nat) : Int), .bool (hasN l x)] := by unfold findV; rw [fnd_has hs]
          rw [hfv] at qf
          cases hh : hasN l x
          · rw [hh] at qf
            have hvf : (vis ++ [x]).filter (fun d => !hasN l d) = vis.filter (fun d => !hasN l d) ++ [x] := by rw [List.filter_append]; simp [hh]
            obtain ⟨u, t5, hap, hK6, hO6⟩ := appV_one (C := dotC) hK5 (hO4.lowed.push _) x 16 (by unfold roomBytes; omega)
            have hap : appV ((t4.lowed.push (.row (Dot.av x) true)).push (.row (Dot.av x) true)) 2 16 (E e2 7) (.sl (t4.lowed.push (.row (Dot.av x) true)).next 0 1 (some 1) 2) = some (u, t5) := hap
            simp (config := {contextual := true, maxDischargeDepth := 12}) only [tb_at, he2, e0, e30, hen, qf, hap, notV_bool, Bool.not_false, ↓bD, bU, forall_const, List.all_cons, List.all_nil, Option.map_some, List.map_cons, List.map_nil, ne_eq, implies_true, isNx, eq_self, ↓wp_cond, ↓wp_loop, ↓reduceIte, reduceCtorEq, Nat.reduceEqDiff, Nat.reduceLT, Nat.reduceAdd, Nat.reduceMul, Int.ofNat_lt, Int.ofNat_le, exists_const, Option.map_none, beq_self_eq_true, decide_true, ↓sg_bsl, ↓st_callf, bX, ap_mkfn, ae_callvV, callvV_fn, List.cons_append, List.nil_append, boxV_i, boxV_dot, sto_dot, ap_conv, convV_int, bslV_0, fstep_d0, fstep_d1, bsl_dot, ae_appz, ap_cap, capV_nils, slcV_nils0, slcV_sl0, wrap_0, ae_clr, boxV_f, fstep_f, lod_new2, ↓st_appf, slcV_nils0N, slcV_sl0N, bslV_0N, bin_shr1, bsl_nd]
            have hne1 : ∀ o n c z, E e2 7 ≠ .sl s.next o n c z := by
              intro o n c z e
              rcases hO4 with ⟨q, _⟩ | ⟨j, q1, q2, q3, q4⟩
              · rw [q] at e; cases e
              · rw [q1] at e
                injection e with e
                rw [e, gM4] at q4
                cases q4
            have hne2 : ∀ o n c z, E e2 7 ≠ .sl t.next o n c z := by
              intro o n c z e
              rcases hO4 with ⟨q, _⟩ | ⟨j, q1, q2, q3, q4⟩
              · rw [q] at e; cases e
              · rw [q1] at e
                injection e with e
                rw [e, gI4] at q4
                cases q4
            refine ⟨n2 - 1, by
              have := room_left hsd hsl hil hns
              omega, ?_⟩
            rw [hI2]
            refine ⟨hK6, seen ++ [i], vis ++ [x], ?_, (by simp only [bE, Nat.reduceEqDiff, ne_eq, not_false_eq_true, Nat.reduceLT, he2]; try rfl), (by simp only [bE, Nat.reduceEqDiff, ne_eq, not_false_eq_true, Nat.reduceLT, he2, e0]; try rfl), (by simp only [bE, Nat.reduceEqDiff, ne_eq, not_false_eq_true, Nat.reduceLT, he2, e30]; try rfl), ?_, ?_, by simp only [bE, Nat.reduceEqDiff, ne_eq, not_false_eq_true, Nat.reduceLT, he2]; rw [hvf]; exact hO6, ?_, ?_, ?_⟩
            · have := room_left hsd hsl hil hns
              simp
              omega
            · exact appV_frame hap hne1 (get_push_some _ (get_push_some _ gM4))
            · exact appV_frame hap hne2 (get_push_some _ (get_push_some _ gI4))
            · rw [List.nodup_append]
              exact ⟨hsd, by simp, fun a ha b hb e => by simp at hb; subst hb; subst e; exact hns ha⟩
            · intro k hk
              rcases List.mem_append.1 hk with hk | hk
              · exact hsl k hk
              · simp at hk; omega
            · rw [List.map_append, List.map_append, hac]
              simp [hx]
          · rw [hh] at qf
            have hvf : (vis ++ [x]).filter (fun d => !hasN l d) = vis.filter (fun d => !hasN l d) := by rw [List.filter_append]; simp [hh]
            simp (config := {contextual := true, maxDischargeDepth := 12}) only [tb_at, he2, e0, e30, hen, qf, notV_bool, Bool.not_true, ↓bD, bU, forall_const, List.all_cons, List.all_nil, Option.map_some, List.map_cons, List.map_nil, ne_eq, implies_true, isNx, eq_self, ↓wp_cond, ↓wp_loop, ↓reduceIte, reduceCtorEq, Nat.reduceEqDiff, Nat.reduceLT, Nat.reduceAdd, Nat.reduceMul, Int.ofNat_lt, Int.ofNat_le, exists_const, Option.map_none, beq_self_eq_true, decide_true, ↓sg_bsl, ↓st_callf, bX, ap_mkfn, ae_callvV, callvV_fn, List.cons_append, List.nil_append, boxV_i, boxV_dot, sto_dot, ap_conv, convV_int, bslV_0, fstep_d0, fstep_d1, bsl_dot, ae_appz, ap_cap, capV_nils, slcV_nils0, slcV_sl0, wrap_0, ae_clr, boxV_f, fstep_f, lod_new2, ↓st_appf, slcV_nils0N, slcV_sl0N, bslV_0N, bin_shr1, bsl_nd]
            refine ⟨n2 - 1, by
              have := room_left hsd hsl hil hns
              omega, ?_⟩
            rw [hI2]
            refine ⟨hK5, seen ++ [i], vis ++ [x], ?_, (by simp only [bE, Nat.reduceEqDiff, ne_eq, not_false_eq_true, Nat.reduceLT, he2]; try rfl), (by simp only [bE, Nat.reduceEqDiff, ne_eq, not_false_eq_true, Nat.reduceLT, he2, e0]; try rfl), (by simp only [bE, Nat.reduceEqDiff, ne_eq, not_false_eq_true, Nat.reduceLT, he2, e30]; try rfl), ?_, ?_, by simp only [bE, Nat.reduceEqDiff, ne_eq, not_false_eq_true, Nat.reduceLT, he2]; rw [hvf]; exact hO4.lowed.push _, ?_, ?_, ?_⟩
            · have := room_left hsd hsl hil hns
              simp
              omega
            · exact get_push_some _ gM4
            · exact get_push_some _ gI4
            · rw [List.nodup_append]
              exact ⟨hsd, by simp, fun a ha b hb e => by simp at hb; subst hb; subst e; exact hns ha⟩
            · intro k hk
              rcases List.mem_append.1 hk with hk | hk
              · exact hsl k hk
              · simp at hk; omega
            · rw [List.map_append, List.map_append, hac]
              simp [hx]
end Go.AM
end
/-
  What a closed run by the kernel shows. Own work of this project.
-/
section
set_option linter.unusedVariables false
set_option linter.unusedSimpArgs false
namespace Go.AM
open Go

def isTrue : Option (AV × St) → Bool
  | some (.bool true, _) => true
  | _ => false
theorem isTrue_ex {o : Option (AV × St)} (h : isTrue o = true) : ∃ s, o = some (.bool true, s) := by
  unfold isTrue at h
  split at h
  · exact ⟨_, rfl⟩
  · cases h
end Go.AM
end
/-
  The chapter's examples: 'known' answers true. Own work of this project; in part printed by a program of it.
-/
section
set_option linter.unusedVariables false
set_option linter.unusedSimpArgs false
set_option maxRecDepth 100000
set_option maxHeartbeats 4000000
namespace Go.AM
open Go Go.Proofs

def tabK : Nat → AFun
  | 9 => .code a9
  | 42 => .code a42
  | 41 => .code a41
  | 43 => .code a43
  | 34 => .code a34
  | 35 => .code a35
  | 15 => .code a15
  | 19 => .code a19
  | 13 => .code a13
  | 22 => .code a22
  | 23 => .code a23
  | 24 => .code a24
  | 25 => .code a25
  | 31 => .code a31
  | 32 => .code a32
  | 69 => .code a69
  | 93 => .code a93
  | 36 => .code a36
  | 30 => .code a30
  | 37 => .code a37
  | 71 => .code a71
  | 49 => .code a49
  | 38 => .code a38
  | 76 => .code a76
  | 51 => .code a51
  | 65 => .code a65
  | 57 => .code a57
  | 86 => .code a86
  | 73 => .code a73
  | 59 => .code a59
  | 105 => .code a105
  | 125 => .code a125
  | 117 => .code a117
  | 119 => .code a119
  | 95 => .code a95
  | 74 => .code a74
  | 118 => .code a118
  | 132 => .code a132
  | 131 => .code a131
  | 122 => .code a122
  | 147 => .code a147
  | 134 => .code a134
  | 99 => .code a99
  | 154 => .code a154
  | 153 => .code a153
  | 68 => .code a68
  | 82 => .code a82
  | 64 => .code a64
  | 78 => .code a78
  | 120 => .code a120
  | 135 => .code a135
  | 62 => .code a62
  | 136 => .code a136
  | 21 => .code a21
  | 50 => .code a50
  | 17 => .code a17
  | 96 => .code a96
  | 133 => .code a133
  | 72 => .code a72
  | 70 => .code a70
  | 152 => .code a152
  | 56 => .code a56
  | 94 => .code a94
  | 146 => .code a146
  | 85 => .code a85
  | 137 => .code a137
  | 160 => .code a160
  | 63 => .code a63
  | 155 => .code a155
  | 164 => .code a164
  | 91 => .code a91
  | 98 => .code a98
  | 97 => .code a97
  | 75 => .code a75
  | 66 => .code a66
  | 92 => .code a92
  | 89 => .code a89
  | 90 => .code a90
  | 116 => .code a116
  | 159 => .con (conF dotC (pL dotC gMade))
  | 121 => .con (cPdq 62 (fun _ => true) sortD)
  | 88 => .con (cBits)
  | 29 => .con (conF ndC (pL ndC gOf))
  | 52 => .con (conF dotC (pL ndC gLack))
  | _ => .no
theorem tabK_ok : ∀ f, FunOk Tryz.prog f (tabK f) := by
  intro f
  unfold tabK
  split
  · exact ⟨k9, _, Tryz.func9, c9⟩
  · exact ⟨k42, _, Tryz.func42, c42⟩
  · exact ⟨k41, _, Tryz.func41, c41⟩
  · exact ⟨k43, _, Tryz.func43, c43⟩
  · exact ⟨k34, _, Tryz.func34, c34⟩
  · exact ⟨k35, _, Tryz.func35, c35⟩
  · exact ⟨k15, _, Tryz.func15, c15⟩
  · exact ⟨k19, _, Tryz.func19, c19⟩
  · exact ⟨k13, _, Tryz.func13, c13⟩
  · exact ⟨k22, _, Tryz.func22, c22⟩
  · exact ⟨k23, _, Tryz.func23, c23⟩
  · exact ⟨k24, _, Tryz.func24, c24⟩
  · exact ⟨k25, _, Tryz.func25, c25⟩
  · exact ⟨k31, _, Tryz.func31, c31⟩
  · exact ⟨k32, _, Tryz.func32, c32⟩
  · exact ⟨k69, _, Tryz.func69, c69⟩
  · exact ⟨k93, _, Tryz.func93, c93⟩
  · exact ⟨k36, _, Tryz.func36, c36⟩
  · exact ⟨k30, _, Tryz.func30, c30⟩
  · exact ⟨k37, _, Tryz.func37, c37⟩
  · exact ⟨k71, _, Tryz.func71, c71⟩
  · exact ⟨k49, _, Tryz.func49, c49⟩
  · exact ⟨k38, _, Tryz.func38, c38⟩
  · exact ⟨k76, _, Tryz.func76, c76⟩
  · exact ⟨k51, _, Tryz.func51, c51⟩
  · exact ⟨k65, _, Tryz.func65, c65⟩
  · exact ⟨k57, _, Tryz.func57, c57⟩
  · exact ⟨k86, _, Tryz.func86, c86⟩
  · exact ⟨k73, _, Tryz.func73, c73⟩
  · exact ⟨k59, _, Tryz.func59, c59⟩
  · exact ⟨k105, _, Tryz.func105, c105⟩
  · exact ⟨k125, _, Tryz.func125, c125⟩
  · exact ⟨k117, _, Tryz.func117, c117⟩
  · exact ⟨k119, _, Tryz.func119, c119⟩
  · exact ⟨k95, _, Tryz.func95, c95⟩
  · exact ⟨k74, _, Tryz.func74, c74⟩
  · exact ⟨k118, _, Tryz.func118, c118⟩
  · exact ⟨k132, _, Tryz.func132, c132⟩
  · exact ⟨k131, _, Tryz.func131, c131⟩
  · exact ⟨k122, _, Tryz.func122, c122⟩
  · exact ⟨k147, _, Tryz.func147, c147⟩
  · exact ⟨k134, _, Tryz.func134, c134⟩
  · exact ⟨k99, _, Tryz.func99, c99⟩
  · exact ⟨k154, _, Tryz.func154, c154⟩
  · exact ⟨k153, _, Tryz.func153, c153⟩
  · exact ⟨k68, _, Tryz.func68, c68⟩
  · exact ⟨k82, _, Tryz.func82, c82⟩
  · exact ⟨k64, _, Tryz.func64, c64⟩
  · exact ⟨k78, _, Tryz.func78, c78⟩
  · exact ⟨k120, _, Tryz.func120, c120⟩
  · exact ⟨k135, _, Tryz.func135, c135⟩
  · exact ⟨k62, _, Tryz.func62, c62⟩
  · exact ⟨k136, _, Tryz.func136, c136⟩
  · exact ⟨k21, _, Tryz.func21, c21⟩
  · exact ⟨k50, _, Tryz.func50, c50⟩
  · exact ⟨k17, _, Tryz.func17, c17⟩
  · exact ⟨k96, _, Tryz.func96, c96⟩
  · exact ⟨k133, _, Tryz.func133, c133⟩
  · exact ⟨k72, _, Tryz.func72, c72⟩
  · exact ⟨k70, _, Tryz.func70, c70⟩
  · exact ⟨k152, _, Tryz.func152, c152⟩
  · exact ⟨k56, _, Tryz.func56, c56⟩
  · exact ⟨k94, _, Tryz.func94, c94⟩
  · exact ⟨k146, _, Tryz.func146, c146⟩
  · exact ⟨k85, _, Tryz.func85, c85⟩
  · exact ⟨k137, _, Tryz.func137, c137⟩
  · exact ⟨k160, _, Tryz.func160, c160⟩
  · exact ⟨k63, _, Tryz.func63, c63⟩
  · exact ⟨k155, _, Tryz.func155, c155⟩
  · exact ⟨k164, _, Tryz.func164, c164⟩
  · exact ⟨k91, _, Tryz.func91, c91⟩
  · exact ⟨k98, _, Tryz.func98, c98⟩
  · exact ⟨k97, _, Tryz.func97, c97⟩
  · exact ⟨k75, _, Tryz.func75, c75⟩
  · exact ⟨k66, _, Tryz.func66, c66⟩
  · exact ⟨k92, _, Tryz.func92, c92⟩
  · exact ⟨k89, _, Tryz.func89, c89⟩
  · exact ⟨k90, _, Tryz.func90, c90⟩
  · exact ⟨k116, _, Tryz.func116, c116⟩
  · exact s_VMade
  · exact s_pdqSSortD
  · exact s_bits
  · exact s_Of
  · exact s_SLack
  · trivial
theorem known_run : isTrue (acalls tabK 400 18 9 [] St.empty) = true := by kernel_rfl
theorem s_known : SoundAt Tryz.prog 9 (closed [] (.bool true)) := by
  obtain ⟨s, hs⟩ := isTrue_ex known_run
  exact closed_sound (acalls_sound mixed tabK_ok 18 _) hs rfl
end Go.AM
end
/-
  The row's last part: a call that leaves what was there alone, and answers true. Own work of this project.
-/
section
set_option linter.unusedVariables false
set_option linter.unusedSimpArgs false
namespace Go.AM
open Go Go.ChangeShapes Go.WideShapes Go.ChangeAt Go.RowKit

variable {H : Type} {enc : TypeId × Value → H} {P : Program}

theorem Clean.below {W W' : World} (h : Clean W W') : Below W.heap.size W W' := ⟨h.os, h.tape, h.output, h.size, h.block⟩
theorem Clean.frozen {W W' : World} (h : Clean W W') {a : Addr} (ha : a.block < W.heap.size) : W'.frozen? a = W.frozen? a := h.below.frozen ha

theorem trodAll_clean (hl : laidOutB P = true) {W W' : World} (hc : Clean W W') (sp : Nat → Bool) : ∀ {ts : List TypeId} {vs : List Value} {ds : List (DataW H)} {ps : List MemPlace}, (∀ t ∈ ts, P.readableRec t = true ∧ t < P.types.size) →
    DataW.TrodAll enc P W 0 (fun _ => true) true ts vs ds ps → (∀ p ∈ ps, sp p.block = true) → DataW.TrodAll enc P W' 0 sp true ts vs ds ps
  | [], vs, ds, ps, _, h, _ => by
    obtain ⟨rfl, rfl, rfl⟩ := trodAll_nil h
    rfl
  | t :: ts, vs, ds, ps, hr, h, hs => by
    obtain ⟨v, vs1, d, ds1, a, b, rfl, rfl, rfl, h1, h2⟩ := trodAll_cons h
    have hlt := DataW.TrodAll.lt h
    refine ⟨a, b, ?_, trodAll_clean hl hc sp (fun t ht => hr t (by simp [ht])) h2 fun p hp => hs p (by simp [hp]), rfl⟩
    exact WideElems.Trod_stays hl (hr t (by simp)).1 (hr t (by simp)).2 h1 (fun x hx => hc.below.same (hlt x (by simp [hx]))) fun x hx => hs x (by simp [hx])

theorem post_of_clean {f : Func} {s : ChangeSpec} {apart fresh handsOn again : Bool} {W W' : World} {args : Array Value} {ds gs : List (DataW H)} {before : List MemPlace} {tb : TypeId} (hl : laidOutB P = true)
    (hread : ∀ t ∈ f.params.toList, P.readableRec t = true ∧ t < P.types.size) (hW : DataW.Whole enc P f.params.toList s.vars apart W args.toList ds gs before) (hv : s.vars = [])
    (hres : (s.fn H (ds ++ gs)).results = [.lit (.bool true)]) (hargs : (s.fn H (ds ++ gs)).args = ds) (hvars : (s.fn H (ds ++ gs)).vars = []) (hrt : f.resultTypes = #[tb]) (hb : P.underlying tb = some .bool) (hc : Clean W W') :
    s.post enc P f apart fresh handsOn again W args (.bool true) W' := by
  have hlt : ∀ p ∈ before, p.block < W.heap.size := hW.lt
  have hW0 := hW
  obtain ⟨pa, pv, hA, hV, rfl, hz, hn⟩ := hW
  have hpv : pv = [] := by
    rw [hv] at hV
    cases gs with
    | nil => exact hV
    | cons g gs => exact hV.elim
  subst hpv
  simp only [List.append_nil] at hW0 hlt hz hn
  have hR : ∀ (b : Nat) (sp : Nat → Bool) (hd : Bool), DataW.TrodAll enc P W' b sp hd [tb] [.bool true] [.lit (.bool true)] [] := fun b sp hd => trodAll_mk1 (shut_bool hb true)
  have hrl : (Value.bool true).resultList f.resultTypes.size = [.bool true] := by simp [hrt, Value.resultList]
  refine ⟨ds, gs, pa, [], pa, [], hW0, ?_, ?_, ?_, ?_, fun _ => ⟨fun j t r h1 h2 => ?_, ?_⟩⟩
  · rw [hrl, hres, hrt]
    exact hR _ _ _
  · rw [hargs]
    exact trodAll_clean hl hc _ hread hA fun p hp => by simpa using hlt p hp
  · rw [hvars, hv]
    rfl
  · exact hc.below.frame _
  · rw [hrl] at h2
    rw [hrt] at h1
    cases j with
    | zero =>
      simp at h1 h2
      subst h1; subst h2
      simp [Value.okWide, hb, Cell.okWide, Cell.ok]
    | succ j => simp at h1
  · refine ⟨[.lit (.bool true)] ++ ds, [], pa, ⟨[] ++ pa, [], ?_, ?_, by simp, ?_, ?_⟩, fun p hp _ => hp⟩
    · rw [hrl, hrt]
      exact trodAll_append (trodAll_clean hl hc _ hread hA fun _ _ => rfl) (hR _ _ _)
    · rw [hv]
      rfl
    · intro b off hp
      rw [hc.frozen (hlt _ hp)]
      exact hz b off hp
    · intro ha
      simpa using hn ha

end Go.AM
end
/-
  From a row's reading of an argument to the abstract machine's memory. Own work of this project.
-/
section
set_option linter.unusedVariables false
set_option linter.unusedSimpArgs false
namespace Go.AM
open Go Go.ChangeShapes Go.WideShapes Go.ChangeAt Go.RowKit Go.Deep

/-- The kinds of plain cells. -/
inductive CK where
  | b | i (k : IntKind) | s
def CK.ok : CK → AV → Prop
  | .b, v => ∃ x, v = .bool x
  | .i k, v => ∃ n, v = .int k n ∧ (Lit.int k n).wf = true
  | .s, v => ∃ x, v = .str x
def CKs : List CK → List AV → Prop
  | [], vs => vs = []
  | k :: ks, vs => ∃ v r, vs = v :: r ∧ k.ok v ∧ CKs ks r
theorem CKs.append : ∀ {ks ks' : List CK} {vs vs' : List AV}, CKs ks vs → CKs ks' vs' → CKs (ks ++ ks') (vs ++ vs')
  | [], ks', vs, vs', h, h' => by simp only [CKs] at h; subst h; exact h'
  | k :: ks, ks', vs, vs', h, h' => by
    simp only [CKs] at h
    obtain ⟨v, r, rfl, h1, h2⟩ := h
    exact ⟨v, r ++ vs', rfl, h1, CKs.append h2 h'⟩
theorem CKs.len : ∀ {ks : List CK} {vs : List AV}, CKs ks vs → vs.length = ks.length
  | [], vs, h => by simp only [CKs] at h; subst h; rfl
  | k :: ks, vs, h => by
    simp only [CKs] at h
    obtain ⟨v, r, rfl, h1, h2⟩ := h
    simp [CKs.len h2]
theorem CK.ok_one {k : CK} {v : AV} (h : k.ok v) : v.one = true := by
  cases k <;> simp only [CK.ok] at h
  · obtain ⟨x, rfl⟩ := h; rfl
  · obtain ⟨x, rfl, _⟩ := h; rfl
  · obtain ⟨x, rfl⟩ := h; rfl
theorem CKs.one : ∀ {ks : List CK} {vs : List AV}, CKs ks vs → vs.all AV.one = true
  | [], vs, h => by simp only [CKs] at h; subst h; rfl
  | k :: ks, vs, h => by
    simp only [CKs] at h
    obtain ⟨v, r, rfl, h1, h2⟩ := h
    simp [CK.ok_one h1, CKs.one h2]

variable (P : Program)
def cks : Nat → TypeId → Option (List CK)
  | 0, _ => none
  | d + 1, t =>
    match P.underlying t with
    | some .bool => some [.b]
    | some (.int k) => some [.i k]
    | some .string => some [.s]
    | some (.struct fs) => cksF (cks d) fs.toList 0 (P.cellsOf t)
    | _ => none
where
  cksF (ok : TypeId → Option (List CK)) : List Field → Nat → Nat → Option (List CK)
    | [], at_, sz => if sz = at_ then some [] else none
    | f :: r, at_, sz =>
      if f.offset = at_ then
        match ok f.type with
        | some ks => if ks.length = P.cellsOf f.type then (cksF ok r (at_ + ks.length) sz).map (ks ++ ·) else none
        | none => none
      else none

variable {P}
variable {H : Type} {enc : TypeId × Value → H} {w : World} {base : Nat} {spare : Nat → Bool} {held : Bool}
theorem cell_some {a : Addr} {v : Value} (h : w.cell? a = some v) : ∃ cells el fr, w.heap[a.block]? = some (.cells cells el fr) ∧ a.spot = none := by
  unfold World.cell? at h
  split at h
  · rename_i c el fr hh
    split at h
    · cases h
    · rename_i hs
      exact ⟨c, el, fr, hh, by simpa using hs⟩
  · cases h
theorem addr_block (a : Addr) (i : Nat) : (a.add i).block = a.block := by unfold Addr.add; split <;> rfl
theorem addr_spot (a : Addr) (i : Nat) (h : (a.add i).spot = none) (h0 : i = 0 ∨ True) : i = 0 → a.spot = none := by
  intro hi
  subst hi
  unfold Addr.add at h
  simpa using h

/-- Cells, each kind in its turn, again and again. -/
def Rows (ks : List CK) (rows : List (List AV)) : Prop := ∀ r ∈ rows, CKs ks r
end Go.AM
end
/-
  Arguments with slices in slices and in structs, opened into the abstract machine's memory. Own work of this project.
-/
section
set_option linter.unusedVariables false
set_option linter.unusedSimpArgs false
set_option maxRecDepth 100000
namespace Go.AM
open Go Go.ChangeShapes Go.WideShapes Go.ChangeAt Go.RowKit Go.Deep

/-- Some block of cells is there. -/
def HasCellsD (W : World) : Prop := ∃ (b : Nat) (cs : Array Value) (e : TypeId) (fr : Nat × Nat), W.heap[b]? = some (Obj.cells cs e fr)
theorem dummyD {W : World} (h : HasCellsD W) : ∃ L : Loc, L.b < W.heap.size ∧ ∀ ρ, BlkOk ρ L W (.row [] false) := by
  obtain ⟨b, cs, e, fr, hb⟩ := h
  refine ⟨⟨b, 0, cs.size⟩, (Array.getElem?_eq_some_iff.1 hb).1, fun ρ => ?_⟩
  simp only [BlkOk]
  exact ⟨cs, e, fr, hb, rfl, by simp, fun i v h => by simp at h, by simp, rfl⟩

section
variable (P : Program)
/-- What the memory shows at cells of a type. -/
def RdF (ok : TypeId → List AV → Prop) : List Field → List AV → Prop
  | [], vs => vs = []
  | f :: r, vs => ∃ a b, vs = a ++ b ∧ ok f.type a ∧ RdF ok r b
def RdT (s : St) : Nat → TypeId → List AV → Prop
  | 0, _, _ => False
  | d + 1, t, vs => match P.underlying t with
    | some .bool => ∃ x, vs = [.bool x]
    | some (.int k) => ∃ n, vs = [.int k n] ∧ (Lit.int k n).wf = true
    | some .string => ∃ x, vs = [.str x]
    | some (.struct fs) => RdF (RdT s d) fs.toList vs
    | some (.slice e) => vs = [.nils] ∨ ∃ (id n cap : Nat) (rows : List (List AV)), vs = [.sl id 0 n (some cap) (P.cellsOf e)] ∧ n ≤ cap ∧ cap ≤ maxLen ∧ rows.length = cap ∧ s.get id = some (.row rows.flatten false) ∧ ∀ r ∈ rows, RdT s d e r ∧ r.length = P.cellsOf e
    | _ => False
def okF (ok : TypeId → Bool) : List Field → Nat → Nat → Bool
  | [], at_, sz => decide (sz = at_)
  | f :: r, at_, sz => decide (f.offset = at_) && ok f.type && okF ok r (at_ + P.cellsOf f.type) sz
def okT : Nat → TypeId → Bool
  | 0, _ => false
  | d + 1, t => match P.underlying t with
    | some .bool | some (.int _) | some .string => true
    | some (.struct fs) => okF P (okT d) fs.toList 0 (P.cellsOf t)
    | some (.slice e) => decide (P.cellsOf e ≠ 0) && okT d e
    | _ => false
end

variable {P : Program} {H : Type} {enc : TypeId × Value → H} {W : World} {base : Nat} {held : Bool}
/-- Cells, and the blocks that they reach, numbered from 'start' on. -/
structure Opn (W : World) (Q : St → List AV → Prop) (start : Nat) (cs : List Value) (vs : List AV) (bl : List (AB × Loc)) : Prop where
  lt : ∀ p ∈ bl, p.2.b < W.heap.size
  own : ∀ p ∈ bl, p.1.owned = false
  vr : ∀ ρ : Ren, (∀ i p, bl[i]? = some p → ρ (start + i) = some p.2) → VRs ρ vs cs ∧ ∀ p ∈ bl, BlkOk ρ p.2 W p.1
  rd : ∀ s : St, (∀ i p, bl[i]? = some p → s.get (start + i) = some p.1) → Q s vs
  one : vs.all AV.one = true
  len : vs.length = cs.length
theorem Opn.plain {Q : St → List AV → Prop} {start : Nat} {cs : List Value} {vs : List AV} (h : ∀ ρ, VRs ρ vs cs) (hq : ∀ s, Q s vs) (ho : vs.all AV.one = true) (hl : vs.length = cs.length) : Opn W Q start cs vs [] :=
  ⟨by simp, by simp, fun ρ _ => ⟨h ρ, by simp⟩, fun s _ => hq s, ho, hl⟩
theorem Opn.app {Q1 Q2 : St → List AV → Prop} {start : Nat} {c1 c2 : List Value} {v1 v2 : List AV} {b1 b2 : List (AB × Loc)} (h : Opn W Q1 start c1 v1 b1) (k : Opn W Q2 (start + b1.length) c2 v2 b2) :
    Opn W (fun s _ => Q1 s v1 ∧ Q2 s v2) start (c1 ++ c2) (v1 ++ v2) (b1 ++ b2) := by
  have e1 : ∀ {i : Nat} {p}, b1[i]? = some p → (b1 ++ b2)[i]? = some p := fun {i p} hp => by
    rw [List.getElem?_append_left (List.getElem?_eq_some_iff.1 hp).1]; exact hp
  have e2 : ∀ {i : Nat} {p}, b2[i]? = some p → (b1 ++ b2)[b1.length + i]? = some p := fun {i p} hp => by
    rw [List.getElem?_append_right (by omega), Nat.add_sub_cancel_left]; exact hp
  refine ⟨fun p hp => ?_, fun p hp => ?_, fun ρ hρ => ?_, fun s hs => ⟨h.rd s fun i p hp => hs i p (e1 hp), k.rd s fun i p hp => ?_⟩, by simp [h.one, k.one], by simp [h.len, k.len]⟩
  · rcases List.mem_append.1 hp with q | q
    · exact h.lt p q
    · exact k.lt p q
  · rcases List.mem_append.1 hp with q | q
    · exact h.own p q
    · exact k.own p q
  · obtain ⟨r1, r2⟩ := h.vr ρ fun i p hp => hρ i p (e1 hp)
    obtain ⟨r3, r4⟩ := k.vr ρ fun i p hp => by have := hρ _ p (e2 hp); rwa [← Nat.add_assoc] at this
    refine ⟨r1.append r3, fun p hp => ?_⟩
    rcases List.mem_append.1 hp with q | q
    · exact r2 p q
    · exact r4 p q
  · have := hs _ p (e2 hp)
    rwa [← Nat.add_assoc] at this
theorem Opn.imp {Q Q' : St → List AV → Prop} {start : Nat} {cs : List Value} {vs : List AV} {bl : List (AB × Loc)} (h : Opn W Q start cs vs bl) (k : ∀ s, Q s vs → Q' s vs) : Opn W Q' start cs vs bl :=
  ⟨h.lt, h.own, h.vr, fun s hs => k s (h.rd s hs), h.one, h.len⟩

/-- A slice's place, its elements as they are read one by one. -/
theorem slice_geo {t e : TypeId} {fuel : Nat} {cs : List Value} {x : DataW H × List MemPlace} (hu : P.underlying t = some (.slice e)) (h0 : P.cellsOf e ≠ 0)
    (h : DataW.trod enc P W base (fun _ => true) held fuel t cs = some x) : cs = [.slice none 0 0] ∨ (∃ a, cs = [.slice (some a) 0 0]) ∨
    ∃ (b off len cap : Nat) (cells : Array Value) (el : TypeId) (fr : Nat × Nat) (n : Nat), cs = [.slice (some ⟨b, off, none⟩) len cap] ∧ 0 < cap ∧ len ≤ cap ∧ cap ≤ maxLen ∧ W.heap[b]? = some (.cells cells el fr) ∧ off + cap * P.cellsOf e ≤ cells.size ∧
      ∀ i, i < cap → ∃ x, DataW.trod enc P W base (fun _ => true) held n e ((cells.toList.drop (off + i * P.cellsOf e)).take (P.cellsOf e)) = some x := by
  rcases open_slice hu h with ⟨rfl, _⟩ | ⟨a, len, cap, m, n, D, Pl, rfl, hb, hl, hm, hmm, _, hx⟩
  · exact .inl rfl
  right
  simp only [if_true] at hmm
  subst hmm
  by_cases hc : m = 0
  · left
    subst hc
    have : len = 0 := by omega
    subst this
    exact ⟨a, rfl⟩
  right
  obtain ⟨cs0, h1, _⟩ := hx 0 (by omega)
  obtain ⟨_, hl0, hat0⟩ := World.cells?_some h1
  have hc0 := hat0 0 (by omega)
  obtain ⟨b, off, spot⟩ := a
  have hsome : ∃ v, cs0[0]? = some v := ⟨cs0[0]'(by omega), by simp⟩
  obtain ⟨v0, hv0⟩ := hsome
  rw [hv0] at hc0
  obtain ⟨cells, el, fr, hh, hsp⟩ := cell_some hc0
  rw [addr_block, addr_block] at hh
  simp only at hh
  have hspot : spot = none := by
    have h2 := addr_spot _ 0 hsp (.inl rfl) rfl
    have h3 := addr_spot _ (0 * P.cellsOf e) h2 (.inr trivial) (by simp)
    exact h3
  subst hspot
  have hat : ∀ i, i < m → off + (i + 1) * P.cellsOf e ≤ cells.size ∧ ∃ x, DataW.trod enc P W base (fun _ => true) held n e ((cells.toList.drop (off + i * P.cellsOf e)).take (P.cellsOf e)) = some x := by
    intro i hi
    obtain ⟨cs', e1, e2⟩ := hx i hi
    obtain ⟨_, hl', hat'⟩ := World.cells?_some e1
    have hget : ∀ j, j < P.cellsOf e → cells[off + i * P.cellsOf e + j]? = cs'[j]? := by
      intro j hj
      have := hat' j hj
      rw [addr_add, addr_add, cell_at hh] at this
      exact this
    have hsz : off + (i + 1) * P.cellsOf e ≤ cells.size := by
      have hj : P.cellsOf e - 1 < P.cellsOf e := by omega
      have := hget _ hj
      rw [List.getElem?_eq_getElem (by omega)] at this
      have hlt := (Array.getElem?_eq_some_iff.1 this).1
      rw [Nat.succ_mul]
      omega
    refine ⟨hsz, (D i, Pl i), ?_⟩
    have : (cells.toList.drop (off + i * P.cellsOf e)).take (P.cellsOf e) = cs' := by
      apply List.ext_getElem?
      intro j
      by_cases hj : j < P.cellsOf e
      · rw [List.getElem?_take_of_lt hj, List.getElem?_drop]
        have := hget j (by omega)
        simpa using this
      · rw [List.getElem?_eq_none (by simp; omega), List.getElem?_eq_none (by omega)]
    rw [this]
    exact e2
  obtain ⟨q2, _⟩ := hat (m - 1) (by omega)
  rw [show m - 1 + 1 = m by omega] at q2
  exact ⟨b, off, len, m, cells, el, fr, n, rfl, by omega, hl, hm, hh, q2, fun i hi => (hat i hi).2⟩

def DeepOk (P : Program) (enc : TypeId × Value → H) (W : World) (base : Nat) (held : Bool) (d : Nat) (t : TypeId) : Prop :=
  ∀ (fuel : Nat) (cs : List Value) (x : DataW H × List MemPlace), DataW.trod enc P W base (fun _ => true) held fuel t cs = some x → ∀ start, ∃ vs bl, Opn W (fun s vs => RdT P s d t vs) start cs vs bl

theorem deep_fields {d : Nat} (IH : ∀ t, okT P d t = true → DeepOk P enc W base held d t) {n : Nat} {cs : List Value} {sz : Nat} (hcs : cs.length = sz) : ∀ (fs : List Field) (at_ : Nat), okF P (okT P d) fs at_ sz = true →
    (∀ f ∈ fs, ∃ x, DataW.trod enc P W base (fun _ => true) held n f.type ((cs.drop f.offset).take (P.cellsOf f.type)) = some x) → ∀ start, ∃ vs bl, Opn W (fun s vs => RdF (RdT P s d) fs vs) start (cs.drop at_) vs bl
  | [], at_, h, _, start => by
    simp only [okF, decide_eq_true_eq] at h
    rw [List.drop_eq_nil_of_le (by omega)]
    exact ⟨[], [], .plain (fun _ => VRs_nil) (fun _ => rfl) rfl rfl⟩
  | f :: r, at_, h, hx, start => by
    simp only [okF, Bool.and_eq_true, decide_eq_true_eq] at h
    obtain ⟨⟨hoff, hok⟩, hr⟩ := h
    obtain ⟨x, hxf⟩ := hx f (by simp)
    obtain ⟨v1, b1, o1⟩ := IH f.type hok n _ x hxf start
    obtain ⟨v2, b2, o2⟩ := deep_fields IH hcs r (at_ + P.cellsOf f.type) hr (fun g hg => hx g (by simp [hg])) (start + b1.length)
    refine ⟨v1 ++ v2, b1 ++ b2, ?_⟩
    have := o1.app o2
    rw [hoff, ← List.drop_drop, List.take_append_drop] at this
    exact this.imp fun s q => ⟨v1, v2, rfl, q⟩
theorem deep_rows {d : Nat} {e : TypeId} {n : Nat} (IH : DeepOk P enc W base held d e) (cells : List Value) (off : Nat) : ∀ (k : Nat), off + k * P.cellsOf e ≤ cells.length →
    (∀ i, i < k → ∃ x, DataW.trod enc P W base (fun _ => true) held n e ((cells.drop (off + i * P.cellsOf e)).take (P.cellsOf e)) = some x) → ∀ start, ∃ (rows : List (List AV)) (bl : List (AB × Loc)), rows.length = k ∧
      Opn W (fun s _ => ∀ r ∈ rows, RdT P s d e r ∧ r.length = P.cellsOf e) start ((cells.drop off).take (k * P.cellsOf e)) rows.flatten bl
  | 0, _, _, start => ⟨[], [], rfl, .plain (fun _ => by simpa using VRs_nil) (fun _ r hr => by simp at hr) rfl (by simp)⟩
  | k + 1, hle, hx, start => by
    obtain ⟨rows, b1, h1, o1⟩ := deep_rows IH cells off k (by rw [Nat.succ_mul] at hle; omega) (fun i hi => hx i (by omega)) start
    obtain ⟨x, hxk⟩ := hx k (by omega)
    obtain ⟨v2, b2, o2⟩ := IH n _ x hxk (start + b1.length)
    refine ⟨rows ++ [v2], b1 ++ b2, by simp [h1], ?_⟩
    have hl2 : v2.length = P.cellsOf e := by
      rw [o2.len, List.length_take, List.length_drop]
      rw [Nat.succ_mul] at hle
      omega
    have := o1.app o2
    rw [List.flatten_append, List.flatten_singleton, Nat.succ_mul, List.take_add, List.drop_drop]
    refine this.imp fun s hq r hr => ?_
    rcases List.mem_append.1 hr with q | q
    · exact hq.1 r q
    · simp at q
      subst q
      exact ⟨hq.2, hl2⟩
theorem VRs.cell {ρ : Ren} {vs : List AV} {cs : List Value} (h : VRs ρ vs cs) {i : Nat} {v : AV} (hi : vs[i]? = some v) : ∃ c, cs[i]? = some c ∧ VR ρ v c := VRs.at_ i h hi
theorem deep_open (hc : HasCellsD W) : ∀ (d : Nat) (t : TypeId), okT P d t = true → DeepOk P enc W base held d t
  | 0, t, h => by simp [okT] at h
  | d + 1, t, h => by
    intro fuel cs x hx start
    simp only [okT] at h
    split at h
    · rename_i hu
      obtain ⟨b, rfl, _⟩ := DataW.trod_bool hu hx
      exact ⟨[.bool b], [], .plain (fun ρ => VRs_cons.2 ⟨by simp [VR], VRs_nil⟩) (fun s => by simp only [RdT, hu]; exact ⟨b, rfl⟩) rfl rfl⟩
    · rename_i k hu
      obtain ⟨b, rfl, _, hw⟩ := DataW.trod_int hu hx
      exact ⟨[.int k b], [], .plain (fun ρ => VRs_cons.2 ⟨by simp [VR], VRs_nil⟩) (fun s => by simp only [RdT, hu]; exact ⟨b, rfl, hw⟩) rfl rfl⟩
    · rename_i hu
      obtain ⟨b, rfl, _⟩ := DataW.trod_string hu hx
      exact ⟨[.str b], [], .plain (fun ρ => VRs_cons.2 ⟨by simp [VR], VRs_nil⟩) (fun s => by simp only [RdT, hu]; exact ⟨b, rfl⟩) rfl rfl⟩
    · rename_i fs hu
      obtain ⟨xs, n, _, _, hl, hxl, hf⟩ := DataW.trod_struct hu hx
      obtain ⟨vs, bl, ho⟩ := deep_fields (fun t hk => deep_open hc d t hk) hl fs.toList 0 h (n := n) (fun f hmem => by
        obtain ⟨i, hi⟩ := List.getElem?_of_mem hmem
        have hi' : fs[i]? = some f := by simpa using hi
        have hlt : i < xs.length := by
          have := (Array.getElem?_eq_some_iff.1 hi').1
          omega
        exact ⟨xs[i], by rw [hf i f hi']; simp [hlt]⟩) start
      rw [List.drop_zero] at ho
      exact ⟨vs, bl, ho.imp fun s q => by simp only [RdT, hu]; exact q⟩
    · rename_i e hu
      simp only [Bool.and_eq_true, decide_eq_true_eq] at h
      obtain ⟨L, hL1, hL2⟩ := dummyD hc
      rcases slice_geo hu h.1 hx with rfl | ⟨a, rfl⟩ | ⟨b, off, len, cap, cells, el, fr, n, rfl, h2, h3, h4, h5, h6, h7⟩
      · exact ⟨[.nils], [], .plain (fun ρ => VRs_cons.2 ⟨by simp [VR], VRs_nil⟩) (fun s => by simp only [RdT, hu]; exact .inl (by trivial)) rfl rfl⟩
      · refine ⟨[.sl start 0 0 (some 0) (P.cellsOf e)], [(.row [] false, L)], ?_, ?_, fun ρ hρ => ⟨VRs_cons.2 ⟨?_, VRs_nil⟩, ?_⟩, fun s hs => ?_, rfl, rfl⟩
        · intro p hp
          simp at hp
          subst hp
          exact hL1
        · intro p hp
          simp at hp
          subst hp
          rfl
        · simp only [VR]
          exact ⟨L, a, 0, hρ 0 _ rfl, rfl, Nat.le_refl _, fun k hk => by injection hk, .inl rfl⟩
        · intro p hp
          simp at hp
          subst hp
          exact hL2 ρ
        · simp only [RdT, hu]
          exact .inr ⟨start, 0, 0, [], rfl, Nat.le_refl _, Nat.zero_le _, rfl, hs 0 _ rfl, fun r hr => by simp at hr⟩
      · have hlt := (Array.getElem?_eq_some_iff.1 h5).1
        obtain ⟨rows, bl, hr1, ho⟩ := deep_rows (deep_open hc d e h.2) cells.toList off cap (by simpa using h6) h7 (start + 1)
        have hfl : rows.flatten.length = cap * P.cellsOf e := by
          rw [ho.len, List.length_take, List.length_drop]
          simp
          omega
        have hup : ∀ {ρ : Ren}, (∀ i p, ((AB.row rows.flatten false, (⟨b, off, cells.size⟩ : Loc)) :: bl)[i]? = some p → ρ (start + i) = some p.2) → ∀ i p, bl[i]? = some p → ρ (start + 1 + i) = some p.2 := fun hρ i p hp => by
          have := hρ (i + 1) p (by simpa using hp)
          rwa [show start + (i + 1) = start + 1 + i by omega] at this
        refine ⟨[.sl start 0 len (some cap) (P.cellsOf e)], (.row rows.flatten false, ⟨b, off, cells.size⟩) :: bl, ?_, ?_, fun ρ hρ => ?_, fun s hs => ?_, rfl, rfl⟩
        · intro p hp
          rcases List.mem_cons.1 hp with rfl | hp
          · exact hlt
          · exact ho.lt p hp
        · intro p hp
          rcases List.mem_cons.1 hp with rfl | hp
          · rfl
          · exact ho.own p hp
        · obtain ⟨r1, r2⟩ := ho.vr ρ (hup hρ)
          refine ⟨VRs_cons.2 ⟨?_, VRs_nil⟩, fun p hp => ?_⟩
          · simp only [VR]
            exact ⟨⟨b, off, cells.size⟩, ⟨b, off, none⟩, cap, hρ 0 _ rfl, rfl, h3, fun k hk => by injection hk, .inr ⟨by simp, by simpa using h6⟩⟩
          · rcases List.mem_cons.1 hp with rfl | hp
            · simp only [BlkOk]
              refine ⟨cells, el, fr, h5, rfl, by rw [hfl]; exact h6, fun i v hi => ?_, by simp, ho.one⟩
              have hi' := (List.getElem?_eq_some_iff.1 hi).1
              obtain ⟨c, hc1, hc2⟩ := r1.cell hi
              refine ⟨c, ?_, hc2⟩
              rw [List.getElem?_take_of_lt (by omega), List.getElem?_drop] at hc1
              simpa using hc1
            · exact r2 p hp
        · simp only [RdT, hu]
          refine .inr ⟨start, len, cap, rows, rfl, h3, h4, hr1, hs 0 _ rfl, ?_⟩
          refine ho.rd s fun i p hp => ?_
          have := hs (i + 1) p (by simpa using hp)
          rwa [show start + (i + 1) = start + 1 + i by omega] at this
    · cases h

/-! ### All arguments of a call -/
def argAV (P : Program) (t : TypeId) (vs : List AV) : AV := match P.underlying t with
  | some (.struct _) => .agg vs
  | _ => vs.headD .und
def RdA (P : Program) (s : St) (d : Nat) (t : TypeId) (v : AV) : Prop := ∃ vs, RdT P s d t vs ∧ v = argAV P t vs
def RdAs (P : Program) (s : St) (d : Nat) : List TypeId → List AV → Prop
  | [], xs => xs = []
  | t :: ts, xs => ∃ v r, xs = v :: r ∧ RdA P s d t v ∧ RdAs P s d ts r
structure OpnA (W : World) (Q : St → List AV → Prop) (start : Nat) (cs : List Value) (vs : List AV) (bl : List (AB × Loc)) : Prop where
  lt : ∀ p ∈ bl, p.2.b < W.heap.size
  own : ∀ p ∈ bl, p.1.owned = false
  vr : ∀ ρ : Ren, (∀ i p, bl[i]? = some p → ρ (start + i) = some p.2) → VRs ρ vs cs ∧ ∀ p ∈ bl, BlkOk ρ p.2 W p.1
  rd : ∀ s : St, (∀ i p, bl[i]? = some p → s.get (start + i) = some p.1) → Q s vs
theorem OpnA.cons {Q1 Q2 : St → List AV → Prop} {start : Nat} {c : Value} {cs : List Value} {v : AV} {vs : List AV} {b1 b2 : List (AB × Loc)} (h : OpnA W Q1 start [c] [v] b1) (k : OpnA W Q2 (start + b1.length) cs vs b2) :
    OpnA W (fun s _ => Q1 s [v] ∧ Q2 s vs) start (c :: cs) (v :: vs) (b1 ++ b2) := by
  have e1 : ∀ {i : Nat} {p}, b1[i]? = some p → (b1 ++ b2)[i]? = some p := fun {i p} hp => by
    rw [List.getElem?_append_left (List.getElem?_eq_some_iff.1 hp).1]; exact hp
  have e2 : ∀ {i : Nat} {p}, b2[i]? = some p → (b1 ++ b2)[b1.length + i]? = some p := fun {i p} hp => by
    rw [List.getElem?_append_right (by omega), Nat.add_sub_cancel_left]; exact hp
  refine ⟨fun p hp => ?_, fun p hp => ?_, fun ρ hρ => ?_, fun s hs => ⟨h.rd s fun i p hp => hs i p (e1 hp), k.rd s fun i p hp => ?_⟩⟩
  · rcases List.mem_append.1 hp with q | q
    · exact h.lt p q
    · exact k.lt p q
  · rcases List.mem_append.1 hp with q | q
    · exact h.own p q
    · exact k.own p q
  · obtain ⟨r1, r2⟩ := h.vr ρ fun i p hp => hρ i p (e1 hp)
    obtain ⟨r3, r4⟩ := k.vr ρ fun i p hp => by have := hρ _ p (e2 hp); rwa [← Nat.add_assoc] at this
    refine ⟨r1.append r3, fun p hp => ?_⟩
    rcases List.mem_append.1 hp with q | q
    · exact r2 p q
    · exact r4 p q
  · have := hs _ p (e2 hp)
    rwa [← Nat.add_assoc] at this
theorem arg_deep (hc : HasCellsD W) {d : Nat} {t : TypeId} (hok : okT P (d + 1) t = true) {v : Value} {x : DataW H} {p : List MemPlace} (h : DataW.Trod enc P W base (fun _ => true) held t v x p) {b0 : Nat} (hval : Value.okWide P W .any b0 t v) (start : Nat) :
    ∃ a bl, OpnA W (fun s _ => RdA P s (d + 1) t a) start [v] [a] bl := by
  obtain ⟨fuel, h⟩ := h
  obtain ⟨vs, bl, ho⟩ := deep_open hc (d + 1) t hok fuel _ _ h start
  have hone : ∀ (hv : v.cells.toList = [v]) (ha : argAV P t vs = vs.headD .und), ∃ a bl, OpnA W (fun s _ => RdA P s (d + 1) t a) start [v] [a] bl := by
    intro hv ha
    have hl := ho.len
    rw [hv] at hl
    match vs, hl with
    | [a], _ =>
      refine ⟨a, bl, ho.lt, ho.own, fun ρ hρ => ?_, fun s hs => ⟨[a], ho.rd s hs, by rw [ha]; rfl⟩⟩
      have := ho.vr ρ hρ
      rw [hv] at this
      exact this
  simp only [okT] at hok
  split at hok
  · rename_i hu
    obtain ⟨b, rfl⟩ := okWide_bool hu hval
    exact hone rfl (by simp [argAV, hu])
  · rename_i k hu
    obtain ⟨b, rfl⟩ := okWide_int hu hval
    exact hone rfl (by simp [argAV, hu])
  · rename_i hu
    obtain ⟨b, rfl⟩ := okWide_string hu hval
    exact hone rfl (by simp [argAV, hu])
  · rename_i fs hu
    obtain ⟨cs, rfl, _⟩ := okWide_struct hu hval
    refine ⟨.agg vs, bl, ho.lt, ho.own, fun ρ hρ => ?_, fun s hs => ⟨vs, ho.rd s hs, by simp [argAV, hu]⟩⟩
    obtain ⟨r1, r2⟩ := ho.vr ρ hρ
    refine ⟨VRs_cons.2 ⟨?_, VRs_nil⟩, r2⟩
    simp only [VR]
    exact ⟨cs.toList, by simp, r1⟩
  · rename_i e hu
    obtain ⟨a, len, cap, rfl⟩ := okWide_slice hu hval
    exact hone rfl (by simp [argAV, hu])
  · cases hok
theorem args_deep (hc : HasCellsD W) {d : Nat} : ∀ {ts : List TypeId} {vs : List Value} {ds : List (DataW H)} {ps : List MemPlace}, (∀ t ∈ ts, okT P (d + 1) t = true) → DataW.TrodAll enc P W base (fun _ => true) held ts vs ds ps →
    (∀ (j : Nat) t v, ts[j]? = some t → vs[j]? = some v → ∃ b0, Value.okWide P W .any b0 t v) → ∀ start, ∃ xs bl, OpnA W (fun s _ => RdAs P s (d + 1) ts xs) start vs xs bl
  | [], vs, ds, ps, _, h, _, start => by
    obtain ⟨rfl, rfl, rfl⟩ := trodAll_nil h
    exact ⟨[], [], by simp, by simp, fun ρ _ => ⟨VRs_nil, by simp⟩, fun s _ => rfl⟩
  | t :: ts, vs, ds, ps, hok, h, hval, start => by
    obtain ⟨v, vs1, x, ds1, a, b, rfl, rfl, rfl, h1, h2⟩ := trodAll_cons h
    obtain ⟨b0, hv⟩ := hval 0 t v rfl rfl
    obtain ⟨av, bl1, o1⟩ := arg_deep hc (hok t (by simp)) h1 hv start
    obtain ⟨xs, bl2, o2⟩ := args_deep hc (fun t' ht => hok t' (by simp [ht])) h2 (fun j t' v' e1 e2 => hval (j + 1) t' v' (by simpa using e1) (by simpa using e2)) (start + bl1.length)
    have := o1.cons o2
    exact ⟨av :: xs, bl1 ++ bl2, this.lt, this.own, this.vr, fun s hs => ⟨av, xs, rfl, this.rd s hs⟩⟩
open Classical in
noncomputable def lawC (P : Program) (d : Nat) (ts : List TypeId) : List AV → St → Option (AV × St) := fun xs s => if RdAs P s d ts xs then some (.bool true, { heap := s.heap, next := s.next, low := min s.low s.next }) else none
theorem deep_call {d : Nat} {ts : List TypeId} {args : List Value} {xs : List AV} {bl : List (AB × Loc)} (ho : OpnA W (fun s _ => RdAs P s d ts xs) 0 args xs bl) {f : Nat} (hs : SoundAt P f (lawC P d ts)) : Calls P f args.toArray W fun e W' => e = .returned (.bool true) ∧ Clean W W' := by
  obtain ⟨s0, hs0⟩ : ∃ s0 : St, s0 = ⟨(bl.map (·.1)).reverse, bl.length, 0⟩ := ⟨_, rfl⟩
  have hnx : s0.next = bl.length := by rw [hs0]
  have hget : ∀ i, s0.get i = (bl[i]?).map (·.1) := by
    intro i
    subst hs0
    unfold St.get
    simp only
    split
    · rename_i h
      rw [List.getElem?_reverse (by simp; omega)]
      simp only [List.length_map, List.getElem?_map]
      rw [show bl.length - 1 - (bl.length - 1 - i) = i by omega]
    · rename_i h
      rw [List.getElem?_eq_none (by omega)]
      rfl
  have hown : ∀ i b, s0.get i = some b → b.owned = false := by
    intro i b h
    rw [hget] at h
    obtain ⟨p, hp, rfl⟩ := Option.map_eq_some_iff.1 h
    exact ho.own p (List.mem_of_getElem? hp)
  obtain ⟨ρ, hρ⟩ : ∃ ρ : Ren, ρ = fun i => (bl[i]?).map (·.2) := ⟨_, rfl⟩
  have hρ1 : ∀ i p, bl[i]? = some p → ρ (0 + i) = some p.2 := fun i p hp => by rw [hρ, Nat.zero_add]; simp [hp]
  obtain ⟨hv, hb⟩ := ho.vr ρ hρ1
  have hR : R s0 ρ W := by
    refine ⟨fun i L h => ?_, fun i b L h1 h2 => ?_, fun i j L M bi bj _ _ _ e3 _ e5 _ => ?_⟩
    · rw [hρ] at h
      obtain ⟨p, hp, rfl⟩ := Option.map_eq_some_iff.1 h
      exact ho.lt p (List.mem_of_getElem? hp)
    · rw [hget] at h1
      rw [hρ] at h2
      obtain ⟨p, hp, rfl⟩ := Option.map_eq_some_iff.1 h1
      simp [hp] at h2
      subst h2
      exact hb p (List.mem_of_getElem? hp)
    · rw [hown i bi e3] at e5; cases e5
  have hrd := ho.rd s0 fun i p hp => by rw [Nat.zero_add, hget, hp]; rfl
  obtain ⟨_, _, h⟩ := hs xs s0 _ _ (by unfold lawC; rw [if_pos hrd])
  have := h ρ W args (fun i hi => by rw [hρ]; simp; omega) hR hv
  refine this.mono fun e W' hp => ?_
  obtain ⟨ρ', v, rfl, hv', hst, _⟩ := hp
  simp only [VR] at hv'
  subst hv'
  exact ⟨rfl, hst.size, hst.os, hst.tape, hst.output, hst.drawn, fun b hb => hst.frame b hb fun id L blk _ _ h1 h2 => by rw [hown id blk h1] at h2; cases h2⟩
theorem trodAll_len : ∀ {ts : List TypeId} {vs : List Value} {ds : List (DataW H)} {ps : List MemPlace}, DataW.TrodAll enc P W base (fun _ => true) held ts vs ds ps → ds.length = ts.length
  | [], vs, ds, ps, h => by
    obtain ⟨rfl, rfl, rfl⟩ := trodAll_nil h
    rfl
  | t :: ts, vs, ds, ps, h => by
    obtain ⟨v, vs1, x, ds1, a, b, rfl, rfl, rfl, h1, h2⟩ := trodAll_cons h
    simp [trodAll_len h2]
end Go.AM
end
/-
  What the arguments of the statements show: numbers, nodes, states, lists of states. Own work of this project.
-/
section
set_option linter.unusedVariables false
set_option linter.unusedSimpArgs false
set_option maxRecDepth 100000
namespace Go.AM
open Go Go.Proofs

variable {P : Program} {s : St}
theorem rd_cksF {ok : TypeId → Option (List CK)} {rd : TypeId → List AV → Prop} (IH : ∀ t ks vs, ok t = some ks → rd t vs → CKs ks vs) : ∀ (fs : List Field) (at_ sz : Nat) (ks : List CK) (vs : List AV),
    cks.cksF P ok fs at_ sz = some ks → RdF rd fs vs → CKs ks vs
  | [], at_, sz, ks, vs, h, hr => by
    simp only [cks.cksF] at h
    split at h
    · injection h with h; subst h
      exact hr
    · cases h
  | f :: r, at_, sz, ks, vs, h, hr => by
    simp only [cks.cksF] at h
    split at h
    · split at h
      · rename_i ks1 hk
        split at h
        · obtain ⟨ks2, h2, rfl⟩ := Option.map_eq_some_iff.1 h
          obtain ⟨a, b, rfl, h3, h4⟩ := hr
          exact (IH _ _ _ hk h3).append (rd_cksF IH r _ _ _ _ h2 h4)
        · cases h
      · cases h
    · cases h
theorem rd_cks : ∀ (d : Nat) (t : TypeId) (ks : List CK) (vs : List AV), cks P d t = some ks → RdT P s d t vs → CKs ks vs
  | 0, t, ks, vs, h, _ => by simp [cks] at h
  | d + 1, t, ks, vs, h, hr => by
    simp only [cks] at h
    split at h
    · rename_i hu
      injection h with h; subst h
      simp only [RdT, hu] at hr
      obtain ⟨x, rfl⟩ := hr
      exact ⟨_, _, rfl, ⟨x, rfl⟩, rfl⟩
    · rename_i k hu
      injection h with h; subst h
      simp only [RdT, hu] at hr
      obtain ⟨x, rfl, hw⟩ := hr
      exact ⟨_, _, rfl, ⟨x, rfl, hw⟩, rfl⟩
    · rename_i hu
      injection h with h; subst h
      simp only [RdT, hu] at hr
      obtain ⟨x, rfl⟩ := hr
      exact ⟨_, _, rfl, ⟨x, rfl⟩, rfl⟩
    · rename_i fs hu
      simp only [RdT, hu] at hr
      exact rd_cksF (fun t ks vs h1 h2 => rd_cks d t ks vs h1 h2) _ _ _ _ _ h hr
    · cases h
def ndKs : List CK := [.i .i64, .i .i64, .i .i64, .i .i64, .i .i64, .i .i32]
theorem rd_slice {d : Nat} {t e : TypeId} {vs : List AV} (hu : P.underlying t = some (.slice e)) (h : RdT P s (d + 1) t vs) : vs = [.nils] ∨ ∃ (id n cap : Nat) (rows : List (List AV)), vs = [.sl id 0 n (some cap) (P.cellsOf e)] ∧ n ≤ cap ∧ cap ≤ maxLen ∧ rows.length = cap ∧ s.get id = some (.row rows.flatten false) ∧ ∀ r ∈ rows, RdT P s d e r ∧ r.length = P.cellsOf e := by
  simp only [RdT, hu] at h
  exact h
theorem nd_cells : Tryz.prog.cellsOf 26 = 6 := by kernel_rfl
theorem nd_cks7 : cks Tryz.prog 7 26 = some ndKs := by kernel_rfl
theorem rd_int {d : Nat} {t : TypeId} {k : IntKind} {vs : List AV} (hu : P.underlying t = some (.int k)) (h : RdT P s (d + 1) t vs) : ∃ n, vs = [.int k n] ∧ (Lit.int k n).wf = true := by
  simp only [RdT, hu] at h
  exact h
theorem rda_int {d : Nat} {t : TypeId} {k : IntKind} {v : AV} (hu : P.underlying t = some (.int k)) (h : RdA P s (d + 1) t v) : ∃ n, v = .int k n ∧ (Lit.int k n).wf = true := by
  obtain ⟨vs, h1, rfl⟩ := h
  obtain ⟨n, rfl, hw⟩ := rd_int hu h1
  exact ⟨n, by simp [argAV, hu], hw⟩
theorem lawC_some {d : Nat} {ts : List TypeId} {xs : List AV} {r : AV} {s' : St} (h : lawC P d ts xs s = some (r, s')) : RdAs P s d ts xs ∧ r = .bool true ∧ s' = s.lowed := by
  unfold lawC at h
  split at h
  · rename_i hr
    injection h with h
    obtain ⟨rfl, rfl⟩ := Prod.mk.inj h
    exact ⟨hr, rfl, rfl⟩
  · cases h
theorem rdas_1 {d : Nat} {t : TypeId} {xs : List AV} (h : RdAs P s d [t] xs) : ∃ v, xs = [v] ∧ RdA P s d t v := by
  obtain ⟨v, r, rfl, h1, h2⟩ := h
  simp only [RdAs] at h2
  subst h2
  exact ⟨v, rfl, h1⟩
theorem rdas_2 {d : Nat} {t1 t2 : TypeId} {xs : List AV} (h : RdAs P s d [t1, t2] xs) : ∃ v w, xs = [v, w] ∧ RdA P s d t1 v ∧ RdA P s d t2 w := by
  obtain ⟨v, r, rfl, h1, h2⟩ := h
  obtain ⟨w, rfl, h3⟩ := rdas_1 h2
  exact ⟨v, w, rfl, h1, h3⟩
theorem rdas_3 {d : Nat} {t1 t2 t3 : TypeId} {xs : List AV} (h : RdAs P s d [t1, t2, t3] xs) : ∃ v w u, xs = [v, w, u] ∧ RdA P s d t1 v ∧ RdA P s d t2 w ∧ RdA P s d t3 u := by
  obtain ⟨v, r, rfl, h1, h2⟩ := h
  obtain ⟨w, u, rfl, h3, h4⟩ := rdas_2 h2
  exact ⟨v, w, u, rfl, h1, h3, h4⟩
end Go.AM
end
/-
  Arguments that are structs, field by field. Own work of this project.
-/
section
set_option linter.unusedVariables false
set_option linter.unusedSimpArgs false
namespace Go.AM
open Go

variable {s t u : St}
section
variable {P : Program}
def RdTs (P : Program) (s : St) (d : Nat) : List TypeId → List AV → Prop
  | [], vs => vs = []
  | t :: r, vs => ∃ a b, vs = a ++ b ∧ RdT P s d t a ∧ RdTs P s d r b
theorem rd_fields {d : Nat} : ∀ (fs : List Field) (vs : List AV), RdF (RdT P s d) fs vs → RdTs P s d (fs.map (·.type)) vs
  | [], _, h => h
  | f :: r, vs, h => by
    obtain ⟨a, b, rfl, h1, h2⟩ := h
    exact ⟨a, b, rfl, h1, rd_fields r b h2⟩
def fieldsT (P : Program) (t : TypeId) : Option (List TypeId) := match P.underlying t with
  | some (.struct fs) => some (fs.toList.map (·.type))
  | _ => none
theorem rd_struct {d : Nat} {t : TypeId} {ts : List TypeId} {vs : List AV} (hu : fieldsT P t = some ts) (h : RdT P s (d + 1) t vs) : RdTs P s d ts vs := by
  unfold fieldsT at hu
  split at hu
  · rename_i fs hq
    injection hu with hu
    subst hu
    simp only [RdT, hq] at h
    exact rd_fields _ _ h
  · cases hu
end
end Go.AM
end
/-
  What arguments show: dots, lists of dots, contexts. Own work of this project.
-/
section
set_option linter.unusedVariables false
set_option linter.unusedSimpArgs false
set_option maxRecDepth 100000
namespace Go.AM
open Go Go.Proofs

variable {P : Program} {s : St}
def dotKs : List CK := [.i .i64, .i .i64]
theorem dot_of_ks {r : List AV} (h : CKs dotKs r) : ∃ x : Dot, r = Dot.av x := by
  simp only [dotKs, CKs] at h
  obtain ⟨_, _, rfl, ⟨a, rfl, _⟩, _, _, rfl, ⟨b, rfl, _⟩, rfl⟩ := h
  exact ⟨⟨a, b⟩, rfl⟩
theorem dots_of_rows : ∀ {rows : List (List AV)}, (∀ r ∈ rows, CKs dotKs r) → ∃ l : List Dot, rows.flatten = dotC.cells l ∧ l.length = rows.length
  | [], _ => ⟨[], rfl, rfl⟩
  | r :: rows, h => by
    obtain ⟨x, rfl⟩ := dot_of_ks (h r (by simp))
    obtain ⟨l, h1, h2⟩ := dots_of_rows (rows := rows) fun r' hr' => h r' (by simp [hr'])
    exact ⟨x :: l, by rw [List.flatten_cons, h1, cells_cons]; rfl, by simp [h2]⟩
theorem rd_dotsT {d : Nat} {t e : TypeId} (hu : P.underlying t = some (.slice e)) (hc : P.cellsOf e = 2) (hk : cks P d e = some dotKs) {vs : List AV} (h : RdT P s (d + 1) t vs) : ∃ v l, vs = [v] ∧ read dotC s v = some l := by
  rcases rd_slice hu h with rfl | ⟨id, n, cap, rows, rfl, h1, _, h3, h4, h5⟩
  · exact ⟨.nils, [], rfl, rfl⟩
  · obtain ⟨l, e1, e2⟩ := dots_of_rows fun r hr => rd_cks d _ _ _ hk (h5 r hr).1
    rw [hc]
    refine ⟨_, l.take n, rfl, ?_⟩
    have hall : read dotC s (.sl id 0 cap (some cap) 2) = some l := by
      refine read_of (C := dotC) (by omega) h4 ?_ ?_
      · have : (dotC.cells l).length = l.length * 2 := cells_len dotC l
        rw [e1, this]
        show 0 + cap * 2 ≤ _
        omega
      · have : (dotC.cells l).length = l.length * 2 := cells_len dotC l
        rw [e1, List.drop_zero, show cap * dotC.sz = (dotC.cells l).length by rw [this]; show cap * 2 = _; omega, List.take_length]
    exact read_take hall n h1
theorem int_underC : Tryz.prog.underlying 3 = some (.int .i64) := by kernel_rfl
theorem dot_cells : Tryz.prog.cellsOf 24 = 2 := by kernel_rfl
theorem dot_cks7 : cks Tryz.prog 7 24 = some dotKs := by kernel_rfl
theorem dot_fields : fieldsT Tryz.prog 24 = some [3, 3] := by kernel_rfl
theorem dots_under : Tryz.prog.underlying 39 = some (.slice 24) := by kernel_rfl
theorem arg_struct {t : TypeId} {ts : List TypeId} (h : fieldsT P t = some ts) (vs : List AV) : argAV P t vs = .agg vs := by
  unfold fieldsT at h
  split at h
  · rename_i fs hq
    simp [argAV, hq]
  · cases h
theorem rda_dots {v : AV} (h : RdA Tryz.prog s 8 39 v) : ∃ l, read dotC s v = some l := by
  obtain ⟨vs, h1, rfl⟩ := h
  obtain ⟨v, l, rfl, hr⟩ := rd_dotsT dots_under dot_cells dot_cks7 h1
  exact ⟨l, by simp [argAV, dots_under, hr]⟩
theorem rda_dot {v : AV} (h : RdA Tryz.prog s 8 24 v) : ∃ d : Dot, v = .agg (Dot.av d) := by
  obtain ⟨vs, h1, rfl⟩ := h
  rw [arg_struct dot_fields]
  obtain ⟨r1, x1, rfl, k1, r2, x2, rfl, k2, rfl⟩ := rd_struct dot_fields h1
  obtain ⟨a, rfl, _⟩ := rd_int int_underC k1
  obtain ⟨b, rfl, _⟩ := rd_int int_underC k2
  exact ⟨⟨a, b⟩, rfl⟩
end Go.AM
end
/-
  What arguments show: nodes and lists of nodes, with what their runes can be. Own work of this project.
-/
section
set_option linter.unusedVariables false
set_option linter.unusedSimpArgs false
set_option maxRecDepth 100000
namespace Go.AM
open Go Go.Proofs

variable {P : Program} {s : St}
theorem wf_i32 {x : Int} (h : (Lit.int .i32 x).wf = true) : okR x := by
  have h1 : IntKind.i32.min = -2147483648 := by decide
  have h2 : IntKind.i32.max = 2147483647 := by decide
  simp [Lit.wf, h1, h2] at h
  unfold okR
  omega
theorem nd_of_ksR {r : List AV} (h : CKs ndKs r) : ∃ x : Nd, r = Nd.av x ∧ okR x.x := by
  simp only [ndKs, CKs] at h
  obtain ⟨_, _, rfl, ⟨a, rfl, _⟩, _, _, rfl, ⟨b, rfl, _⟩, _, _, rfl, ⟨c, rfl, _⟩, _, _, rfl, ⟨d, rfl, _⟩, _, _, rfl, ⟨e, rfl, _⟩, _, _, rfl, ⟨x, rfl, hw⟩, rfl⟩ := h
  exact ⟨⟨⟨a, b⟩, ⟨c, d⟩, e, x⟩, rfl, wf_i32 hw⟩
theorem nds_of_rowsR : ∀ {rows : List (List AV)}, (∀ r ∈ rows, CKs ndKs r) → ∃ l : List Nd, rows.flatten = ndC.cells l ∧ l.length = rows.length ∧ okL l
  | [], _ => ⟨[], rfl, rfl, fun n h => by simp at h⟩
  | r :: rows, h => by
    obtain ⟨x, rfl, hx⟩ := nd_of_ksR (h r (by simp))
    obtain ⟨l, h1, h2, h3⟩ := nds_of_rowsR (rows := rows) fun r' hr' => h r' (by simp [hr'])
    exact ⟨x :: l, by rw [List.flatten_cons, h1, cells_cons]; rfl, by simp [h2], fun n hn => by
      rcases List.mem_cons.1 hn with rfl | hn
      · exact hx
      · exact h3 n hn⟩
theorem nds_under : Tryz.prog.underlying 22 = some (.slice 26) := by kernel_rfl
theorem nd_isS : ∀ vs, argAV Tryz.prog 26 vs = .agg vs := by
  intro vs
  have h : (fieldsT Tryz.prog 26).isSome = true := by kernel_rfl
  obtain ⟨ts, hts⟩ := Option.isSome_iff_exists.1 h
  exact arg_struct hts vs
theorem rda_nodes {v : AV} (h : RdA Tryz.prog s 8 22 v) : ∃ l, read ndC s v = some l ∧ okL l ∧ CapOK v := by
  obtain ⟨vs, h1, rfl⟩ := h
  rcases rd_slice nds_under h1 with rfl | ⟨id, n, cap, rows, rfl, h1, _, h3, h4, h5⟩
  · have : argAV Tryz.prog 22 [.nils] = .nils := by simp [argAV, nds_under]
    rw [this]
    exact ⟨[], rfl, fun n h => by simp at h, .nils⟩
  · have : argAV Tryz.prog 22 [.sl id 0 n (some cap) (Tryz.prog.cellsOf 26)] = .sl id 0 n (some cap) (Tryz.prog.cellsOf 26) := by simp [argAV, nds_under]
    rw [this]
    obtain ⟨l, e1, e2, e3⟩ := nds_of_rowsR fun r hr => rd_cks 7 _ _ _ nd_cks7 (h5 r hr).1
    rw [nd_cells]
    refine ⟨l.take n, ?_, fun x hx => e3 x (List.mem_of_mem_take hx), ?_⟩
    · have hall : read ndC s (.sl id 0 cap (some cap) 6) = some l := by
        refine read_of (C := ndC) (by omega) h4 ?_ ?_
        · have : (ndC.cells l).length = l.length * 6 := cells_len ndC l
          rw [e1, this]
          show 0 + cap * 6 ≤ _
          omega
        · have : (ndC.cells l).length = l.length * 6 := cells_len ndC l
          rw [e1, List.drop_zero, show cap * ndC.sz = (ndC.cells l).length by rw [this]; show cap * 6 = _; omega, List.take_length]
      exact read_take hall n h1
    · intro _ _ _ c _ e
      injection e with _ _ e1 e2
      injection e2 with e2
      omega
theorem rda_node {v : AV} (h : RdA Tryz.prog s 8 26 v) : ∃ n : Nd, v = .agg (Nd.av n) ∧ okR n.x := by
  obtain ⟨vs, h1, rfl⟩ := h
  have h8 : cks Tryz.prog 8 26 = some ndKs := by kernel_rfl
  obtain ⟨x, rfl, hx⟩ := nd_of_ksR (rd_cks 8 _ _ _ h8 h1)
  exact ⟨x, nd_isS _, hx⟩
end Go.AM
end
/-
  What the statements of layer 10 call; StoreValid, StorePuts, StoreKills. Own work of this project; in part printed by a program of it.
-/
section
set_option linter.unusedVariables false
set_option linter.unusedSimpArgs false
set_option maxRecDepth 100000
set_option maxHeartbeats 8000000
namespace Go.AM
open Go Go.Proofs

variable {s t u : St}

theorem bin_eqE (k : IntKind) (a b : Int) : binOp .eql .no (.int k a) (.int k b) = some (.bool (decide (a = b))) := bin_eql .no k a b
noncomputable def R_gives : Con := runFn (tb [(17, R_REq)]) a34
theorem s_gives : SoundAt Tryz.prog 34 R_gives := run_sound (tb_sound (l := [(17, R_REq)]) (by simpa using s_REq)) mixed Tryz.func34 k34 c34
theorem n_gives : noNxtC a34.body = true := by kernel_rfl
theorem w_gives {s : St} {va vb : AV} {a b : List Nd} (hra : read ndC s va = some a) (hrb : read ndC s vb = some b) (hla : a.length ≤ lim) (hlb : b.length ≤ lim) (w c : Int) : ∀ env : Env, elen env = a34.ntmps → (∀ i x_, [va, .int .i64 w, vb, .int .i64 c][i]? = some x_ → E env i = x_) → awp (tb [(17, R_REq)]) a34.body (fun x e t => (∀ i, x ≠ .exit i) ∧ aresults e t a34.results = some (.bool (decide (a = b) && decide (w = c))) ∧ Keep s t) env s := by
  intro env hlen ha
  have h0 : E env 0 = _ := ha 0 _ rfl
  have h1 : E env 1 = _ := ha 1 _ rfl
  have h2 : E env 2 = _ := ha 2 _ rfl
  have h3 : E env 3 = _ := ha 3 _ rfl
  have hlen : elen env = _ := hlen
  simp only [a34] at hlen
  unfold a34
  try dsimp only [oO, oG]
  have q := q_REq false hra hla hrb hlb
  simp (config := {contextual := true, maxDischargeDepth := 12}) only [tb_at, h0, h1, h2, h3, hlen, q, ↓bD, bU, forall_const, List.all_cons, List.all_nil, Option.map_some, List.map_cons, List.map_nil, ne_eq, implies_true, isNx, eq_self, ↓wp_cond, ↓wp_loop, ↓reduceIte, reduceCtorEq, Nat.reduceEqDiff, Nat.reduceLT, Nat.reduceAdd, Nat.reduceMul, Int.ofNat_lt, Int.ofNat_le, exists_const, Option.map_none, beq_self_eq_true, decide_true, ↓sg_bsl, ↓st_callf, bX, ap_mkfn, ae_callvV, callvV_fn, List.cons_append, List.nil_append, boxV_i, boxV_dot, sto_dot, ap_conv, convV_int, bslV_0, fstep_d0, fstep_d1, bsl_dot, ae_appz, ap_cap, capV_nils, slcV_nils0, slcV_sl0, wrap_0, ae_clr, boxV_f, fstep_f, lod_new2, ↓st_appf, slcV_nils0N, slcV_sl0N, bslV_0N, bin_shr1, bsl_nd, q_known]
  all_goals first | exact .refl s | skip
theorem q_gives (cl : Bool) {s : St} {va vb : AV} {a b : List Nd} (hra : read ndC s va = some a) (hrb : read ndC s vb = some b) (hla : a.length ≤ lim) (hlb : b.length ≤ lim) (w c : Int) : acall R_gives cl [va, .int .i64 w, vb, .int .i64 c] s = some (.bool (decide (a = b) && decide (w = c)), s) := run_same n_gives (by simp [a34]) rfl (w_gives (s := lowd s) (read_low' hra) (read_low' hrb) hla hlb w c)
theorem putP_len (l : List Nd) (n : Nd) : (putP l n).1.length ≤ l.length + 1 := by
  unfold putP
  split
  · have := ofP_lenS (l ++ [n])
    simpa using this
  · simp
theorem killS_len (l : List Nd) (ds : List Dot) : (killS l ds).1.length ≤ l.length := by
  unfold killS
  split
  · unfold killP
    split
    · rw [killL_len]; exact Nat.le_refl _
    · simp
  · simp
noncomputable def R_puts : Con := runFn (tb [(30, R_SPut), (34, R_gives)]) a15
theorem s_puts : SoundAt Tryz.prog 15 R_puts := run_sound (tb_sound (l := [(30, R_SPut), (34, R_gives)]) (by simpa using ⟨s_SPut, s_gives⟩)) mixed Tryz.func15 k15 c15
theorem n_puts : noNxtC a15.body = true := by kernel_rfl
theorem w_puts {s : St} {vl : AV} {l : List Nd} (hr : read ndC s vl = some l) (hl : l.length ≤ 200000) (nn : Nd) {vb : AV} {b : List Nd} (hrb : read ndC s vb = some b) (hlb : b.length ≤ lim) (c : Int) : ∀ env : Env, elen env = a15.ntmps → (∀ i x_, [vl, .agg (Nd.av nn), vb, .int .i64 c][i]? = some x_ → E env i = x_) → awp (tb [(30, R_SPut), (34, R_gives)]) a15.body (fun x e t => (∀ i, x ≠ .exit i) ∧ aresults e t a15.results = some (.bool (decide ((putP l nn).1 = b) && decide ((putP l nn).2 = c))) ∧ Keep s t) env s := by
  intro env hlen ha
  have h0 : E env 0 = _ := ha 0 _ rfl
  have h1 : E env 1 = _ := ha 1 _ rfl
  have h2 : E env 2 = _ := ha 2 _ rfl
  have h3 : E env 3 = _ := ha 3 _ rfl
  have hlen : elen env = _ := hlen
  simp only [a15] at hlen
  unfold a15
  try dsimp only [oO, oG]
  have hK1 : Keep s (s.push (.row (Nd.av nn) true)) := (Keep.refl s).push _
  obtain ⟨b1, b2, b3, b4, b5, b6⟩ := box_nd s nn (.refl _)
  obtain ⟨w, t, q1, hO, hK2⟩ := q_SPut (hK1.read hr) hl nn
  have hKa := hK1.trans hK2
  have qg := q_gives false (hO.read) (hKa.read hrb) (Nat.le_trans (putP_len l nn) (by unfold lim; omega)) hlb ((putP l nn).2) c
  simp (config := {contextual := true, maxDischargeDepth := 12}) only [tb_at, h0, h1, h2, h3, hlen, q1, qg, b1, b6, ↓bD, bU, forall_const, List.all_cons, List.all_nil, Option.map_some, List.map_cons, List.map_nil, ne_eq, implies_true, isNx, eq_self, ↓wp_cond, ↓wp_loop, ↓reduceIte, reduceCtorEq, Nat.reduceEqDiff, Nat.reduceLT, Nat.reduceAdd, Nat.reduceMul, Int.ofNat_lt, Int.ofNat_le, exists_const, Option.map_none, beq_self_eq_true, decide_true, ↓sg_bsl, ↓st_callf, bX, ap_mkfn, ae_callvV, callvV_fn, List.cons_append, List.nil_append, boxV_i, boxV_dot, sto_dot, ap_conv, convV_int, bslV_0, fstep_d0, fstep_d1, bsl_dot, ae_appz, ap_cap, capV_nils, slcV_nils0, slcV_sl0, wrap_0, ae_clr, boxV_f, fstep_f, lod_new2, ↓st_appf, slcV_nils0N, slcV_sl0N, bslV_0N, bin_shr1, bsl_nd, q_known]
  all_goals first | exact hKa | skip
theorem q_puts (cl : Bool) {s : St} {vl : AV} {l : List Nd} (hr : read ndC s vl = some l) (hl : l.length ≤ 200000) (nn : Nd) {vb : AV} {b : List Nd} (hrb : read ndC s vb = some b) (hlb : b.length ≤ lim) (c : Int) : acall R_puts cl [vl, .agg (Nd.av nn), vb, .int .i64 c] s = some (.bool (decide ((putP l nn).1 = b) && decide ((putP l nn).2 = c)), s) := run_same n_puts (by simp [a15]) rfl (w_puts (s := lowd s) (read_low' hr) hl nn (read_low' hrb) hlb c)
noncomputable def R_kills : Con := runFn (tb [(37, R_SKill), (34, R_gives)]) a19
theorem s_kills : SoundAt Tryz.prog 19 R_kills := run_sound (tb_sound (l := [(37, R_SKill), (34, R_gives)]) (by simpa using ⟨s_SKill, s_gives⟩)) mixed Tryz.func19 k19 c19
theorem n_kills : noNxtC a19.body = true := by kernel_rfl
theorem w_kills {s : St} {vl : AV} {l : List Nd} (hr : read ndC s vl = some l) (hl : l.length ≤ 200000) {vd : AV} {ds : List Dot} (hrd : read dotC s vd = some ds) (hld : ds.length ≤ 200000) {vb : AV} {b : List Nd} (hrb : read ndC s vb = some b) (hlb : b.length ≤ lim) (c : Int) : ∀ env : Env, elen env = a19.ntmps → (∀ i x_, [vl, vd, vb, .int .i64 c][i]? = some x_ → E env i = x_) → awp (tb [(37, R_SKill), (34, R_gives)]) a19.body (fun x e t => (∀ i, x ≠ .exit i) ∧ aresults e t a19.results = some (.bool (decide ((killS l ds).1 = b) && decide ((killS l ds).2 = c))) ∧ Keep s t) env s := by
  intro env hlen ha
  have h0 : E env 0 = _ := ha 0 _ rfl
  have h1 : E env 1 = _ := ha 1 _ rfl
  have h2 : E env 2 = _ := ha 2 _ rfl
  have h3 : E env 3 = _ := ha 3 _ rfl
  have hlen : elen env = _ := hlen
  simp only [a19] at hlen
  unfold a19
  try dsimp only [oO, oG]
  obtain ⟨w, t, q1, hO, hKa⟩ := q_SKill hr hl hrd hld
  have qg := q_gives false (hO.read) (hKa.read hrb) (Nat.le_trans (killS_len l ds) (by unfold lim; omega)) hlb ((killS l ds).2) c
  simp (config := {contextual := true, maxDischargeDepth := 12}) only [tb_at, h0, h1, h2, h3, hlen, q1, qg, ↓bD, bU, forall_const, List.all_cons, List.all_nil, Option.map_some, List.map_cons, List.map_nil, ne_eq, implies_true, isNx, eq_self, ↓wp_cond, ↓wp_loop, ↓reduceIte, reduceCtorEq, Nat.reduceEqDiff, Nat.reduceLT, Nat.reduceAdd, Nat.reduceMul, Int.ofNat_lt, Int.ofNat_le, exists_const, Option.map_none, beq_self_eq_true, decide_true, ↓sg_bsl, ↓st_callf, bX, ap_mkfn, ae_callvV, callvV_fn, List.cons_append, List.nil_append, boxV_i, boxV_dot, sto_dot, ap_conv, convV_int, bslV_0, fstep_d0, fstep_d1, bsl_dot, ae_appz, ap_cap, capV_nils, slcV_nils0, slcV_sl0, wrap_0, ae_clr, boxV_f, fstep_f, lod_new2, ↓st_appf, slcV_nils0N, slcV_sl0N, bslV_0N, bin_shr1, bsl_nd, q_known]
  all_goals first | exact hKa | skip
theorem q_kills (cl : Bool) {s : St} {vl : AV} {l : List Nd} (hr : read ndC s vl = some l) (hl : l.length ≤ 200000) {vd : AV} {ds : List Dot} (hrd : read dotC s vd = some ds) (hld : ds.length ≤ 200000) {vb : AV} {b : List Nd} (hrb : read ndC s vb = some b) (hlb : b.length ≤ lim) (c : Int) : acall R_kills cl [vl, vd, vb, .int .i64 c] s = some (.bool (decide ((killS l ds).1 = b) && decide ((killS l ds).2 = c)), s) := run_same n_kills (by simp [a19]) rfl (w_kills (s := lowd s) (read_low' hr) hl (read_low' hrd) hld (read_low' hrb) hlb c)
noncomputable def R_finds : Con := runFn (tb [(36, R_SFind)]) a13
theorem s_finds : SoundAt Tryz.prog 13 R_finds := run_sound (tb_sound (l := [(36, R_SFind)]) (by simpa using s_SFind)) mixed Tryz.func13 k13 c13
theorem n_finds : noNxtC a13.body = true := by kernel_rfl
theorem w_finds {s : St} {vl : AV} {l : List Nd} (hr : read ndC s vl = some l) (hl : l.length ≤ lim) (d : Dot) (m : Nd) (c : Int) : ∀ env : Env, elen env = a13.ntmps → (∀ i x_, [vl, .agg (Dot.av d), .agg (Nd.av m), .int .i64 c][i]? = some x_ → E env i = x_) → awp (tb [(36, R_SFind)]) a13.body (fun x e t => (∀ i, x ≠ .exit i) ∧ aresults e t a13.results = some (.bool (decide ((findP l d).1 = m) && decide ((findP l d).2 = c))) ∧ Keep s t) env s := by
  intro env hlen ha
  have h0 : E env 0 = _ := ha 0 _ rfl
  have h1 : E env 1 = _ := ha 1 _ rfl
  have h2 : E env 2 = _ := ha 2 _ rfl
  have h3 : E env 3 = _ := ha 3 _ rfl
  have hlen : elen env = _ := hlen
  simp only [a13] at hlen
  unfold a13
  try dsimp only [oO, oG]
  have hK1 : Keep s (s.push (.row (Dot.av d) true)) := (Keep.refl s).push _
  have hK2 : Keep s ((s.push (.row (Dot.av d) true)).push (.row (Nd.av m) true)) := hK1.push _
  obtain ⟨b1, b2, b3, b4⟩ := box_dot s d ((Keep.refl _).push (.row (Nd.av m) true))
  obtain ⟨c1, c2, c3, c4, c5, c6⟩ := box_nd (s.push (.row (Dot.av d) true)) m (.refl _)
  have q := q_SFind false (hK2.read hr) hl d
  simp (config := {contextual := true, maxDischargeDepth := 12}) only [tb_at, h0, h1, h2, h3, hlen, b1, b4, c1, c6, q, ↓bD, bU, forall_const, List.all_cons, List.all_nil, Option.map_some, List.map_cons, List.map_nil, ne_eq, implies_true, isNx, eq_self, ↓wp_cond, ↓wp_loop, ↓reduceIte, reduceCtorEq, Nat.reduceEqDiff, Nat.reduceLT, Nat.reduceAdd, Nat.reduceMul, Int.ofNat_lt, Int.ofNat_le, exists_const, Option.map_none, beq_self_eq_true, decide_true, ↓sg_bsl, ↓st_callf, bX, ap_mkfn, ae_callvV, callvV_fn, List.cons_append, List.nil_append, boxV_i, boxV_dot, sto_dot, ap_conv, convV_int, bslV_0, fstep_d0, fstep_d1, bsl_dot, ae_appz, ap_cap, capV_nils, slcV_nils0, slcV_sl0, wrap_0, ae_clr, boxV_f, fstep_f, lod_new2, ↓st_appf, slcV_nils0N, slcV_sl0N, bslV_0N, bin_shr1, bsl_nd, q_known]
  all_goals first | exact hK2 | skip
theorem q_finds (cl : Bool) {s : St} {vl : AV} {l : List Nd} (hr : read ndC s vl = some l) (hl : l.length ≤ lim) (d : Dot) (m : Nd) (c : Int) : acall R_finds cl [vl, .agg (Dot.av d), .agg (Nd.av m), .int .i64 c] s = some (.bool (decide ((findP l d).1 = m) && decide ((findP l d).2 = c)), s) := run_same n_finds (by simp [a13]) rfl (w_finds (s := lowd s) (read_low' hr) hl d m c)

end Go.AM
end
/-
  StorePuts. Own work of this project; in part printed by a program of it.
-/
section
set_option linter.unusedVariables false
set_option linter.unusedSimpArgs false
set_option maxRecDepth 100000
set_option maxHeartbeats 8000000
namespace Go.AM
open Go Go.Proofs

variable {s t u : St}

theorem idx_at {l : List Nd} {d : Dot} (h : hasN l d = true) : ∃ (k : Nat) (x : Nd), idxN l (fun y => decide (y.d = d)) = (k : Int) ∧ l[k]? = some x ∧ x.d = d := by
  rcases idxN_cases l (fun y => decide (y.d = d)) with ⟨_, h2⟩ | ⟨i, x, h1, h2, h3, _⟩
  · obtain ⟨x, hx, e⟩ := hasN_iff.1 h
    have := h2 x hx
    simp [e] at this
  · exact ⟨i, x, h1, h2, by simpa using h3⟩
theorem findP_no {l : List Nd} {d : Dot} (hst : storeL l = true) (hdv : d.valid = true) (h : hasN l d = false) : findP l d = (nd0, 9) := by
  unfold findP
  rw [if_pos ⟨hst, hdv⟩]
  rcases getN_at (store_sorted hst) d with ⟨h1, _⟩ | ⟨_, h2⟩
  · rw [fnd_has (store_sorted hst), h] at h1; cases h1
  · rw [h2]
theorem findP_yes {l : List Nd} {d : Dot} (hst : storeL l = true) (hdv : d.valid = true) {x : Nd} (hx : x ∈ l) (e : x.d = d) : findP l d = (x, 0) := by
  unfold findP
  rw [if_pos ⟨hst, hdv⟩, ← e, getN_mem (store_sorted hst) hx]
theorem findP_bad {l : List Nd} {d : Dot} (h : ¬ (storeL l = true ∧ d.valid = true)) : findP l d = (nd0, 2) := by unfold findP; rw [if_neg h]
theorem nds_copy {vl : AV} {l : List Nd} (hr : read ndC s vl = some l) (hl : l.length ≤ 4000000) : ∃ v t, appV s 6 48 .nils vl = some (v, t) ∧ Own ndC s t v l ∧ Keep s t := by
  obtain ⟨v', t', hap, hK, hO⟩ := appV_list (.refl s) (.nil ndC s s) hr 48 (by simp [roomBytes]; omega)
  exact ⟨v', t', hap, by simpa using hO, hK⟩
theorem dots_copy {vl : AV} {l : List Dot} (hr : read dotC s vl = some l) (hl : l.length ≤ 4000000) : ∃ v t, appV s 2 16 .nils vl = some (v, t) ∧ Own dotC s t v l ∧ Keep s t := by
  obtain ⟨v', t', hap, hK, hO⟩ := appV_list (.refl s) (.nil dotC s s) hr 16 (by simp [roomBytes]; omega)
  exact ⟨v', t', hap, by simpa using hO, hK⟩
theorem s_StorePuts : SoundAt Tryz.prog 3 (lawC Tryz.prog 8 [22, 24, 26]) :=
  con_keep (tb_sound (l := [(9, closed [] (.bool true)), (10, R_RStV), (11, R_RFnd), (12, R_RDVal), (13, R_finds), (14, R_RNVal), (15, R_puts), (16, R_RPut), (17, R_REq)]) (by simpa using ⟨s_known, s_RStV, s_RFnd, s_RDVal, s_finds, s_RNVal, s_puts, s_RPut, s_REq⟩)) mixed Tryz.func3 k3 c3 fun args s r s' h => by
    obtain ⟨hh, rfl, rfl⟩ := lawC_some h
    obtain ⟨v0, w0, u0, rfl, hv0, hw0, hu0⟩ := rdas_3 hh
    obtain ⟨l, hr, ho, hc⟩ := rda_nodes hv0
    obtain ⟨d, rfl⟩ := rda_dot hw0
    obtain ⟨nn, rfl, hx⟩ := rda_node hu0
    refine ⟨rfl, rfl, by simp [a3], fun env hlen ha => ?_⟩
    have h0 : E env 0 = _ := ha 0 _ rfl
    have h1 : E env 1 = _ := ha 1 _ rfl
    have h2 : E env 2 = _ := ha 2 _ rfl
    have hlen : elen env = _ := hlen
    simp only [a3] at hlen
    unfold a3
    try dsimp only [oO, oG]
    obtain ⟨vl, hvl⟩ : ∃ vl, vl = v0 := ⟨_, rfl⟩
    subst hvl
    have hL := lenV_read hr
    have hKs : Keep s ((s.push (.row (Dot.av d) true)).push (.row (Nd.av nn) true)) := ((Keep.refl s).push _).push _
    obtain ⟨bd1, bd2, bd3, bd4⟩ := box_dot s d ((Keep.refl _).push (.row (Nd.av nn) true))
    obtain ⟨bn1, bn2, bn3, bn4, bn5, bn6⟩ := box_nd (s.push (.row (Dot.av d) true)) nn (.refl _)
    by_cases hlz : 60 < l.length
    · have hz := eq_true (show (60 : Int) < (l.length : Int) by omega)
      simp (config := {contextual := true, maxDischargeDepth := 12}) only [tb_at, h0, h1, h2, hlen, hL, hz, ↓bD, bU, forall_const, List.all_cons, List.all_nil, Option.map_some, List.map_cons, List.map_nil, ne_eq, implies_true, isNx, eq_self, ↓wp_cond, ↓wp_loop, ↓reduceIte, reduceCtorEq, Nat.reduceEqDiff, Nat.reduceLT, Nat.reduceAdd, Nat.reduceMul, Int.ofNat_lt, Int.ofNat_le, exists_const, Option.map_none, beq_self_eq_true, decide_true, ↓sg_bsl, ↓st_callf, bX, ap_mkfn, ae_callvV, callvV_fn, List.cons_append, List.nil_append, boxV_i, boxV_dot, sto_dot, ap_conv, convV_int, bslV_0, fstep_d0, fstep_d1, bsl_dot, ae_appz, ap_cap, capV_nils, slcV_nils0, slcV_sl0, wrap_0, ae_clr, boxV_f, fstep_f, lod_new2, ↓st_appf, slcV_nils0N, slcV_sl0N, bslV_0N, bin_shr1, bsl_nd, q_known]
      all_goals first | exact hKs | skip
    have hz := eq_false (show ¬ (60 : Int) < (l.length : Int) by omega)
    have hr2 := hKs.read hr
    have hlm : l.length ≤ lim := by unfold lim; omega
    have hl2 : l.length ≤ 200000 := by omega
    have qv := q_RStV false hr2 hlm ho
    have qi := q_RFnd false hr2 hlm d
    have qd := q_RDVal false d (s := (s.push (.row (Dot.av d) true)).push (.row (Nd.av nn) true))
    have qn := q_RNVal false hx (s := (s.push (.row (Dot.av d) true)).push (.row (Nd.av nn) true))
    have qfb : ∀ m c, findP l d = (m, c) → acall R_finds false [vl, .agg (Dot.av d), .agg (Nd.av m), .int .i64 c] ((s.push (.row (Dot.av d) true)).push (.row (Nd.av nn) true)) = some (.bool true, (s.push (.row (Dot.av d) true)).push (.row (Nd.av nn) true)) := fun m c h => by
      rw [q_finds false hr2 hlm d m c, h]; simp
    have qpb : putP l nn = ([], 2) → acall R_puts false [vl, .agg (Nd.av nn), .nils, .int .i64 2] ((s.push (.row (Dot.av d) true)).push (.row (Nd.av nn) true)) = some (.bool true, (s.push (.row (Dot.av d) true)).push (.row (Nd.av nn) true)) := fun h => by
      rw [q_puts false hr2 hl2 nn (read_nils ndC _) (by simp) 2, h]; simp
    cases hst : storeL l
    · rw [hst] at qv
      have qf := qfb _ _ (findP_bad (by simp [hst]))
      have qf : acall R_finds false [vl, .agg (Dot.av d), .agg (Nd.av ⟨⟨0, 0⟩, ⟨0, 0⟩, 0, 0⟩), .int .i64 2] ((s.push (.row (Dot.av d) true)).push (.row (Nd.av nn) true)) = some (.bool true, (s.push (.row (Dot.av d) true)).push (.row (Nd.av nn) true)) := qf
      have qf' : acall R_finds false [vl, .agg (Dot.av d), .agg [.int .i64 0, .int .i64 0, .int .i64 0, .int .i64 0, .int .i64 0, .int .i32 0], .int .i64 2] ((s.push (.row (Dot.av d) true)).push (.row (Nd.av nn) true)) = some (.bool true, (s.push (.row (Dot.av d) true)).push (.row (Nd.av nn) true)) := qf
      have qp := qpb (by unfold putP; rw [hst]; rfl)
      simp (config := {contextual := true, maxDischargeDepth := 12}) only [tb_at, h0, h1, h2, hlen, hL, hz, bd1, bd4, bn1, bn6, qv, qi, qd, qn, qf, qf', qp, notV_bool, Bool.not_true, Bool.not_false, pickV_t, pickV_f, bin_eqE, ↓bD, bU, forall_const, List.all_cons, List.all_nil, Option.map_some, List.map_cons, List.map_nil, ne_eq, implies_true, isNx, eq_self, ↓wp_cond, ↓wp_loop, ↓reduceIte, reduceCtorEq, Nat.reduceEqDiff, Nat.reduceLT, Nat.reduceAdd, Nat.reduceMul, Int.ofNat_lt, Int.ofNat_le, exists_const, Option.map_none, beq_self_eq_true, decide_true, ↓sg_bsl, ↓st_callf, bX, ap_mkfn, ae_callvV, callvV_fn, List.cons_append, List.nil_append, boxV_i, boxV_dot, sto_dot, ap_conv, convV_int, bslV_0, fstep_d0, fstep_d1, bsl_dot, ae_appz, ap_cap, capV_nils, slcV_nils0, slcV_sl0, wrap_0, ae_clr, boxV_f, fstep_f, lod_new2, ↓st_appf, slcV_nils0N, slcV_sl0N, bslV_0N, bin_shr1, bsl_nd, q_known]
      all_goals first | exact hKs | skip
    rw [hst] at qv
    have hs := store_sorted hst
    cases hdv : d.valid
    · rw [hdv] at qd
      have qf := qfb _ _ (findP_bad (by simp [hdv]))
      have qf : acall R_finds false [vl, .agg (Dot.av d), .agg (Nd.av ⟨⟨0, 0⟩, ⟨0, 0⟩, 0, 0⟩), .int .i64 2] ((s.push (.row (Dot.av d) true)).push (.row (Nd.av nn) true)) = some (.bool true, (s.push (.row (Dot.av d) true)).push (.row (Nd.av nn) true)) := qf
      have qf' : acall R_finds false [vl, .agg (Dot.av d), .agg [.int .i64 0, .int .i64 0, .int .i64 0, .int .i64 0, .int .i64 0, .int .i32 0], .int .i64 2] ((s.push (.row (Dot.av d) true)).push (.row (Nd.av nn) true)) = some (.bool true, (s.push (.row (Dot.av d) true)).push (.row (Nd.av nn) true)) := qf
      cases hnv : nn.valid
      · rw [hnv] at qn
        have qp := qpb (by unfold putP; rw [hst, if_pos rfl]; exact ofP_bad (by rw [List.all_append]; simp [hnv]))
        simp (config := {contextual := true, maxDischargeDepth := 12}) only [tb_at, h0, h1, h2, hlen, hL, hz, bd1, bd4, bn1, bn6, qv, qi, qd, qn, qp, qf, qf', notV_bool, Bool.not_true, Bool.not_false, pickV_t, pickV_f, bin_eqE, ↓bD, bU, forall_const, List.all_cons, List.all_nil, Option.map_some, List.map_cons, List.map_nil, ne_eq, implies_true, isNx, eq_self, ↓wp_cond, ↓wp_loop, ↓reduceIte, reduceCtorEq, Nat.reduceEqDiff, Nat.reduceLT, Nat.reduceAdd, Nat.reduceMul, Int.ofNat_lt, Int.ofNat_le, exists_const, Option.map_none, beq_self_eq_true, decide_true, ↓sg_bsl, ↓st_callf, bX, ap_mkfn, ae_callvV, callvV_fn, List.cons_append, List.nil_append, boxV_i, boxV_dot, sto_dot, ap_conv, convV_int, bslV_0, fstep_d0, fstep_d1, bsl_dot, ae_appz, ap_cap, capV_nils, slcV_nils0, slcV_sl0, wrap_0, ae_clr, boxV_f, fstep_f, lod_new2, ↓st_appf, slcV_nils0N, slcV_sl0N, bslV_0N, bin_shr1, bsl_nd, q_known]
        all_goals first | exact hKs | skip
      · rw [hnv] at qn
        obtain ⟨u1, t1, hap, hO1, hK1⟩ := nds_copy hr2 (by omega)
        obtain ⟨cn1, cn2, cn3, cn4, cn5, cn6⟩ := box_nd (s.push (.row (Dot.av d) true)) nn hK1
        obtain ⟨w, t2, qr, hO2, hK2⟩ := q_RPut (hK1.read hr2) hc hl2 nn
        obtain ⟨dn1, dn2, dn3, dn4, dn5, dn6⟩ := box_nd (s.push (.row (Dot.av d) true)) nn (hK1.trans hK2)
        have hr3 := hK2.read hO1.read
        have hpe : putP l nn = rput l nn := by unfold putP; rw [hst, if_pos rfl]; exact put_eq hst hnv
        have qp := q_puts false hr3 hl2 nn hO2.read (Nat.le_trans (rput_len l nn) (by unfold lim; omega)) (rput l nn).2
        rw [hpe, decide_eq_true rfl, decide_eq_true rfl] at qp
        have qe := q_REq false hr3 hlm ((hK1.trans hK2).read hr2) hlm
        have qe' := q_REq true hr3 hlm ((hK1.trans hK2).read hr2) hlm
        rw [decide_eq_true rfl] at qe qe'
        simp (config := {contextual := true, maxDischargeDepth := 12}) only [tb_at, h0, h1, h2, hlen, hL, hz, bd1, bd4, bn1, bn6, qv, qi, qd, qn, hap, cn1, cn6, qr, dn1, dn6, qp, qe, qe', Bool.true_and, qf, qf', notV_bool, Bool.not_true, Bool.not_false, pickV_t, pickV_f, bin_eqE, ↓bD, bU, forall_const, List.all_cons, List.all_nil, Option.map_some, List.map_cons, List.map_nil, ne_eq, implies_true, isNx, eq_self, ↓wp_cond, ↓wp_loop, ↓reduceIte, reduceCtorEq, Nat.reduceEqDiff, Nat.reduceLT, Nat.reduceAdd, Nat.reduceMul, Int.ofNat_lt, Int.ofNat_le, exists_const, Option.map_none, beq_self_eq_true, decide_true, ↓sg_bsl, ↓st_callf, bX, ap_mkfn, ae_callvV, callvV_fn, List.cons_append, List.nil_append, boxV_i, boxV_dot, sto_dot, ap_conv, convV_int, bslV_0, fstep_d0, fstep_d1, bsl_dot, ae_appz, ap_cap, capV_nils, slcV_nils0, slcV_sl0, wrap_0, ae_clr, boxV_f, fstep_f, lod_new2, ↓st_appf, slcV_nils0N, slcV_sl0N, bslV_0N, bin_shr1, bsl_nd, q_known]
        all_goals first | exact (hKs.trans hK1).trans hK2 | skip
    rw [hdv] at qd
    have hzi := idx_has l d
    cases hh : hasN l d
    · rw [hh] at hzi
      have qf := qfb _ _ (findP_no hst hdv hh)
      have qf : acall R_finds false [vl, .agg (Dot.av d), .agg (Nd.av ⟨⟨0, 0⟩, ⟨0, 0⟩, 0, 0⟩), .int .i64 9] ((s.push (.row (Dot.av d) true)).push (.row (Nd.av nn) true)) = some (.bool true, (s.push (.row (Dot.av d) true)).push (.row (Nd.av nn) true)) := qf
      have qf' : acall R_finds false [vl, .agg (Dot.av d), .agg [.int .i64 0, .int .i64 0, .int .i64 0, .int .i64 0, .int .i64 0, .int .i32 0], .int .i64 9] ((s.push (.row (Dot.av d) true)).push (.row (Nd.av nn) true)) = some (.bool true, (s.push (.row (Dot.av d) true)).push (.row (Nd.av nn) true)) := qf
      cases hnv : nn.valid
      · rw [hnv] at qn
        have qp := qpb (by unfold putP; rw [hst, if_pos rfl]; exact ofP_bad (by rw [List.all_append]; simp [hnv]))
        simp (config := {contextual := true, maxDischargeDepth := 12}) only [tb_at, h0, h1, h2, hlen, hL, hz, bd1, bd4, bn1, bn6, qv, qi, qd, qn, qp, qf, qf', hzi, notV_bool, Bool.not_true, Bool.not_false, pickV_t, pickV_f, bin_eqE, ↓bD, bU, forall_const, List.all_cons, List.all_nil, Option.map_some, List.map_cons, List.map_nil, ne_eq, implies_true, isNx, eq_self, ↓wp_cond, ↓wp_loop, ↓reduceIte, reduceCtorEq, Nat.reduceEqDiff, Nat.reduceLT, Nat.reduceAdd, Nat.reduceMul, Int.ofNat_lt, Int.ofNat_le, exists_const, Option.map_none, beq_self_eq_true, decide_true, ↓sg_bsl, ↓st_callf, bX, ap_mkfn, ae_callvV, callvV_fn, List.cons_append, List.nil_append, boxV_i, boxV_dot, sto_dot, ap_conv, convV_int, bslV_0, fstep_d0, fstep_d1, bsl_dot, ae_appz, ap_cap, capV_nils, slcV_nils0, slcV_sl0, wrap_0, ae_clr, boxV_f, fstep_f, lod_new2, ↓st_appf, slcV_nils0N, slcV_sl0N, bslV_0N, bin_shr1, bsl_nd, q_known]
        all_goals first | exact hKs | skip
      · rw [hnv] at qn
        obtain ⟨u1, t1, hap, hO1, hK1⟩ := nds_copy hr2 (by omega)
        obtain ⟨cn1, cn2, cn3, cn4, cn5, cn6⟩ := box_nd (s.push (.row (Dot.av d) true)) nn hK1
        obtain ⟨w, t2, qr, hO2, hK2⟩ := q_RPut (hK1.read hr2) hc hl2 nn
        obtain ⟨dn1, dn2, dn3, dn4, dn5, dn6⟩ := box_nd (s.push (.row (Dot.av d) true)) nn (hK1.trans hK2)
        have hr3 := hK2.read hO1.read
        have hpe : putP l nn = rput l nn := by unfold putP; rw [hst, if_pos rfl]; exact put_eq hst hnv
        have qp := q_puts false hr3 hl2 nn hO2.read (Nat.le_trans (rput_len l nn) (by unfold lim; omega)) (rput l nn).2
        rw [hpe, decide_eq_true rfl, decide_eq_true rfl] at qp
        have qe := q_REq false hr3 hlm ((hK1.trans hK2).read hr2) hlm
        have qe' := q_REq true hr3 hlm ((hK1.trans hK2).read hr2) hlm
        rw [decide_eq_true rfl] at qe qe'
        simp (config := {contextual := true, maxDischargeDepth := 12}) only [tb_at, h0, h1, h2, hlen, hL, hz, bd1, bd4, bn1, bn6, qv, qi, qd, qn, hap, cn1, cn6, qr, dn1, dn6, qp, qe, qe', Bool.true_and, qf, qf', hzi, notV_bool, Bool.not_true, Bool.not_false, pickV_t, pickV_f, bin_eqE, ↓bD, bU, forall_const, List.all_cons, List.all_nil, Option.map_some, List.map_cons, List.map_nil, ne_eq, implies_true, isNx, eq_self, ↓wp_cond, ↓wp_loop, ↓reduceIte, reduceCtorEq, Nat.reduceEqDiff, Nat.reduceLT, Nat.reduceAdd, Nat.reduceMul, Int.ofNat_lt, Int.ofNat_le, exists_const, Option.map_none, beq_self_eq_true, decide_true, ↓sg_bsl, ↓st_callf, bX, ap_mkfn, ae_callvV, callvV_fn, List.cons_append, List.nil_append, boxV_i, boxV_dot, sto_dot, ap_conv, convV_int, bslV_0, fstep_d0, fstep_d1, bsl_dot, ae_appz, ap_cap, capV_nils, slcV_nils0, slcV_sl0, wrap_0, ae_clr, boxV_f, fstep_f, lod_new2, ↓st_appf, slcV_nils0N, slcV_sl0N, bslV_0N, bin_shr1, bsl_nd, q_known]
        all_goals first | exact (hKs.trans hK1).trans hK2 | skip
    · obtain ⟨k, x, hk, hxk, hxd⟩ := idx_at hh
      rw [hk] at qi
      have hzi := eq_false (show ¬ (k : Int) < 0 by omega)
      obtain ⟨a1, a2, a3, a5, a6, a4⟩ := nd_lods hr hKs hxk
      have i1 := nd_idx hr hxk .i64
      have qf := qfb _ _ (findP_yes hst hdv (mem_at hxk) hxd)
      cases hnv : nn.valid
      · rw [hnv] at qn
        have qp := qpb (by unfold putP; rw [hst, if_pos rfl]; exact ofP_bad (by rw [List.all_append]; simp [hnv]))
        simp (config := {contextual := true, maxDischargeDepth := 12}) only [tb_at, h0, h1, h2, hlen, hL, hz, bd1, bd4, bn1, bn6, qv, qi, qd, qn, qp, qf, hzi, a1, a4, i1, notV_bool, Bool.not_true, Bool.not_false, pickV_t, pickV_f, bin_eqE, ↓bD, bU, forall_const, List.all_cons, List.all_nil, Option.map_some, List.map_cons, List.map_nil, ne_eq, implies_true, isNx, eq_self, ↓wp_cond, ↓wp_loop, ↓reduceIte, reduceCtorEq, Nat.reduceEqDiff, Nat.reduceLT, Nat.reduceAdd, Nat.reduceMul, Int.ofNat_lt, Int.ofNat_le, exists_const, Option.map_none, beq_self_eq_true, decide_true, ↓sg_bsl, ↓st_callf, bX, ap_mkfn, ae_callvV, callvV_fn, List.cons_append, List.nil_append, boxV_i, boxV_dot, sto_dot, ap_conv, convV_int, bslV_0, fstep_d0, fstep_d1, bsl_dot, ae_appz, ap_cap, capV_nils, slcV_nils0, slcV_sl0, wrap_0, ae_clr, boxV_f, fstep_f, lod_new2, ↓st_appf, slcV_nils0N, slcV_sl0N, bslV_0N, bin_shr1, bsl_nd, q_known]
        all_goals first | exact hKs | skip
      · rw [hnv] at qn
        obtain ⟨u1, t1, hap, hO1, hK1⟩ := nds_copy hr2 (by omega)
        obtain ⟨cn1, cn2, cn3, cn4, cn5, cn6⟩ := box_nd (s.push (.row (Dot.av d) true)) nn hK1
        obtain ⟨w, t2, qr, hO2, hK2⟩ := q_RPut (hK1.read hr2) hc hl2 nn
        obtain ⟨dn1, dn2, dn3, dn4, dn5, dn6⟩ := box_nd (s.push (.row (Dot.av d) true)) nn (hK1.trans hK2)
        have hr3 := hK2.read hO1.read
        have hpe : putP l nn = rput l nn := by unfold putP; rw [hst, if_pos rfl]; exact put_eq hst hnv
        have qp := q_puts false hr3 hl2 nn hO2.read (Nat.le_trans (rput_len l nn) (by unfold lim; omega)) (rput l nn).2
        rw [hpe, decide_eq_true rfl, decide_eq_true rfl] at qp
        have qe := q_REq false hr3 hlm ((hK1.trans hK2).read hr2) hlm
        have qe' := q_REq true hr3 hlm ((hK1.trans hK2).read hr2) hlm
        rw [decide_eq_true rfl] at qe qe'
        simp (config := {contextual := true, maxDischargeDepth := 12}) only [tb_at, h0, h1, h2, hlen, hL, hz, bd1, bd4, bn1, bn6, qv, qi, qd, qn, hap, cn1, cn6, qr, dn1, dn6, qp, qe, qe', Bool.true_and, qf, hzi, a1, a4, i1, notV_bool, Bool.not_true, Bool.not_false, pickV_t, pickV_f, bin_eqE, ↓bD, bU, forall_const, List.all_cons, List.all_nil, Option.map_some, List.map_cons, List.map_nil, ne_eq, implies_true, isNx, eq_self, ↓wp_cond, ↓wp_loop, ↓reduceIte, reduceCtorEq, Nat.reduceEqDiff, Nat.reduceLT, Nat.reduceAdd, Nat.reduceMul, Int.ofNat_lt, Int.ofNat_le, exists_const, Option.map_none, beq_self_eq_true, decide_true, ↓sg_bsl, ↓st_callf, bX, ap_mkfn, ae_callvV, callvV_fn, List.cons_append, List.nil_append, boxV_i, boxV_dot, sto_dot, ap_conv, convV_int, bslV_0, fstep_d0, fstep_d1, bsl_dot, ae_appz, ap_cap, capV_nils, slcV_nils0, slcV_sl0, wrap_0, ae_clr, boxV_f, fstep_f, lod_new2, ↓st_appf, slcV_nils0N, slcV_sl0N, bslV_0N, bin_shr1, bsl_nd, q_known]
        all_goals first | exact (hKs.trans hK1).trans hK2 | skip

end Go.AM
end
/-
  StoreKills, StoreValid. Own work of this project; in part printed by a program of it.
-/
section
set_option linter.unusedVariables false
set_option linter.unusedSimpArgs false
set_option maxRecDepth 100000
set_option maxHeartbeats 8000000
namespace Go.AM
open Go Go.Proofs

variable {s t u : St}

theorem killS_ok {l : List Nd} {ds : List Dot} (h : storeL l = true) (k : ds.all Dot.valid = true) : killS l ds = killP l ds := by unfold killS; rw [if_pos ⟨h, k⟩]
theorem killS_bad {l : List Nd} {ds : List Dot} (h : ¬ (storeL l = true ∧ ds.all Dot.valid = true)) : killS l ds = ([], 2) := by unfold killS; rw [if_neg h]
theorem killP_len (l : List Nd) (ds : List Dot) : (killP l ds).1.length ≤ l.length := by
  unfold killP
  split
  · rw [killL_len]; exact Nat.le_refl _
  · simp
theorem s_StoreKills : SoundAt Tryz.prog 4 (lawC Tryz.prog 8 [22, 39]) :=
  con_keep (tb_sound (l := [(9, closed [] (.bool true)), (10, R_RStV), (18, R_RDots), (19, R_kills), (20, R_RKill), (17, R_REq), (21, R_RSame)]) (by simpa using ⟨s_known, s_RStV, s_RDots, s_kills, s_RKill, s_REq, s_RSame⟩)) mixed Tryz.func4 k4 c4 fun args s r s' h => by
    obtain ⟨hh, rfl, rfl⟩ := lawC_some h
    obtain ⟨vl, vd, rfl, hv0, hw0⟩ := rdas_2 hh
    obtain ⟨l, hr, ho, hc⟩ := rda_nodes hv0
    obtain ⟨ds, hrd⟩ := rda_dots hw0
    refine ⟨rfl, rfl, by simp [a4], fun env hlen ha => ?_⟩
    have h0 : E env 0 = _ := ha 0 _ rfl
    have h1 : E env 1 = _ := ha 1 _ rfl
    have hlen : elen env = _ := hlen
    simp only [a4] at hlen
    unfold a4
    try dsimp only [oO, oG]
    have hL := lenV_read hr
    have hLd := lenV_read hrd
    by_cases hlz : 60 < l.length
    · have hz := eq_true (show (60 : Int) < (l.length : Int) by omega)
      simp (config := {contextual := true, maxDischargeDepth := 12}) only [tb_at, h0, h1, hlen, hL, hz, notV_bool, Bool.not_true, Bool.not_false, pickV_t, pickV_f, ↓bD, bU, forall_const, List.all_cons, List.all_nil, Option.map_some, List.map_cons, List.map_nil, ne_eq, implies_true, isNx, eq_self, ↓wp_cond, ↓wp_loop, ↓reduceIte, reduceCtorEq, Nat.reduceEqDiff, Nat.reduceLT, Nat.reduceAdd, Nat.reduceMul, Int.ofNat_lt, Int.ofNat_le, exists_const, Option.map_none, beq_self_eq_true, decide_true, ↓sg_bsl, ↓st_callf, bX, ap_mkfn, ae_callvV, callvV_fn, List.cons_append, List.nil_append, boxV_i, boxV_dot, sto_dot, ap_conv, convV_int, bslV_0, fstep_d0, fstep_d1, bsl_dot, ae_appz, ap_cap, capV_nils, slcV_nils0, slcV_sl0, wrap_0, ae_clr, boxV_f, fstep_f, lod_new2, ↓st_appf, slcV_nils0N, slcV_sl0N, bslV_0N, bin_shr1, bsl_nd, q_known]
      all_goals first | exact .refl s | skip
    have hz := eq_false (show ¬ (60 : Int) < (l.length : Int) by omega)
    by_cases hld : 40 < ds.length
    · have hz2 := eq_true (show (40 : Int) < (ds.length : Int) by omega)
      simp (config := {contextual := true, maxDischargeDepth := 12}) only [tb_at, h0, h1, hlen, hL, hLd, hz, hz2, notV_bool, Bool.not_true, Bool.not_false, pickV_t, pickV_f, ↓bD, bU, forall_const, List.all_cons, List.all_nil, Option.map_some, List.map_cons, List.map_nil, ne_eq, implies_true, isNx, eq_self, ↓wp_cond, ↓wp_loop, ↓reduceIte, reduceCtorEq, Nat.reduceEqDiff, Nat.reduceLT, Nat.reduceAdd, Nat.reduceMul, Int.ofNat_lt, Int.ofNat_le, exists_const, Option.map_none, beq_self_eq_true, decide_true, ↓sg_bsl, ↓st_callf, bX, ap_mkfn, ae_callvV, callvV_fn, List.cons_append, List.nil_append, boxV_i, boxV_dot, sto_dot, ap_conv, convV_int, bslV_0, fstep_d0, fstep_d1, bsl_dot, ae_appz, ap_cap, capV_nils, slcV_nils0, slcV_sl0, wrap_0, ae_clr, boxV_f, fstep_f, lod_new2, ↓st_appf, slcV_nils0N, slcV_sl0N, bslV_0N, bin_shr1, bsl_nd, q_known]
      all_goals first | exact .refl s | skip
    have hz2 := eq_false (show ¬ (40 : Int) < (ds.length : Int) by omega)
    have hlm : l.length ≤ lim := by unfold lim; omega
    have hdm : ds.length ≤ lim := by unfold lim; omega
    have qv := q_RStV false hr hlm ho
    have qd := q_RDots false hrd hdm
    have qkb : killS l ds = ([], 2) → acall R_kills false [vl, vd, .nils, .int .i64 2] s = some (.bool true, s) := fun h => by
      rw [q_kills false hr (by omega) hrd (by omega) (read_nils ndC _) (by simp) 2, h]; simp
    cases hst : storeL l
    · rw [hst] at qv
      have qk := qkb (killS_bad (by simp [hst]))
      simp (config := {contextual := true, maxDischargeDepth := 12}) only [tb_at, h0, h1, hlen, hL, hLd, hz, hz2, qv, qk, notV_bool, Bool.not_true, Bool.not_false, pickV_t, pickV_f, ↓bD, bU, forall_const, List.all_cons, List.all_nil, Option.map_some, List.map_cons, List.map_nil, ne_eq, implies_true, isNx, eq_self, ↓wp_cond, ↓wp_loop, ↓reduceIte, reduceCtorEq, Nat.reduceEqDiff, Nat.reduceLT, Nat.reduceAdd, Nat.reduceMul, Int.ofNat_lt, Int.ofNat_le, exists_const, Option.map_none, beq_self_eq_true, decide_true, ↓sg_bsl, ↓st_callf, bX, ap_mkfn, ae_callvV, callvV_fn, List.cons_append, List.nil_append, boxV_i, boxV_dot, sto_dot, ap_conv, convV_int, bslV_0, fstep_d0, fstep_d1, bsl_dot, ae_appz, ap_cap, capV_nils, slcV_nils0, slcV_sl0, wrap_0, ae_clr, boxV_f, fstep_f, lod_new2, ↓st_appf, slcV_nils0N, slcV_sl0N, bslV_0N, bin_shr1, bsl_nd, q_known]
      all_goals first | exact .refl s | skip
    rw [hst] at qv
    cases hdv : ds.all Dot.valid
    · rw [hdv] at qd
      have qk := qkb (killS_bad (by simp [hdv]))
      simp (config := {contextual := true, maxDischargeDepth := 12}) only [tb_at, h0, h1, hlen, hL, hLd, hz, hz2, qv, qd, qk, notV_bool, Bool.not_true, Bool.not_false, pickV_t, pickV_f, ↓bD, bU, forall_const, List.all_cons, List.all_nil, Option.map_some, List.map_cons, List.map_nil, ne_eq, implies_true, isNx, eq_self, ↓wp_cond, ↓wp_loop, ↓reduceIte, reduceCtorEq, Nat.reduceEqDiff, Nat.reduceLT, Nat.reduceAdd, Nat.reduceMul, Int.ofNat_lt, Int.ofNat_le, exists_const, Option.map_none, beq_self_eq_true, decide_true, ↓sg_bsl, ↓st_callf, bX, ap_mkfn, ae_callvV, callvV_fn, List.cons_append, List.nil_append, boxV_i, boxV_dot, sto_dot, ap_conv, convV_int, bslV_0, fstep_d0, fstep_d1, bsl_dot, ae_appz, ap_cap, capV_nils, slcV_nils0, slcV_sl0, wrap_0, ae_clr, boxV_f, fstep_f, lod_new2, ↓st_appf, slcV_nils0N, slcV_sl0N, bslV_0N, bin_shr1, bsl_nd, q_known]
      all_goals first | exact .refl s | skip
    rw [hdv] at qd
    obtain ⟨u1, t1, hap1, hO1, hK1⟩ := nds_copy hr (by omega)
    obtain ⟨u2, t2, hap2, hO2, hK2⟩ := dots_copy (hK1.read hrd) (by omega)
    have hK12 := hK1.trans hK2
    obtain ⟨w, t3, qr, hO3, hK3⟩ := q_RKill (hK12.read hr) (by omega) (hK12.read hrd) (by omega)
    have hK13 := hK12.trans hK3
    have r1 := (hK2.trans hK3).read hO1.read
    have r2 := hK3.read hO2.read
    have qk := q_kills false r1 (by omega) r2 (by omega) hO3.read (Nat.le_trans (killP_len l ds) hlm) (killP l ds).2
    rw [killS_ok hst hdv, decide_eq_true rfl, decide_eq_true rfl] at qk
    have qe := q_REq true r1 hlm (hK13.read hr) hlm
    have qs := q_RSame true r2 hdm (hK13.read hrd) hdm
    have qe' := q_REq false r1 hlm (hK13.read hr) hlm
    have qs' := q_RSame false r2 hdm (hK13.read hrd) hdm
    rw [decide_eq_true rfl] at qe qs qe' qs'
    simp (config := {contextual := true, maxDischargeDepth := 12}) only [tb_at, h0, h1, hlen, hL, hLd, hz, hz2, qv, qd, hap1, hap2, qr, qk, qe, qs, qe', qs', Bool.true_and, notV_bool, Bool.not_true, Bool.not_false, pickV_t, pickV_f, ↓bD, bU, forall_const, List.all_cons, List.all_nil, Option.map_some, List.map_cons, List.map_nil, ne_eq, implies_true, isNx, eq_self, ↓wp_cond, ↓wp_loop, ↓reduceIte, reduceCtorEq, Nat.reduceEqDiff, Nat.reduceLT, Nat.reduceAdd, Nat.reduceMul, Int.ofNat_lt, Int.ofNat_le, exists_const, Option.map_none, beq_self_eq_true, decide_true, ↓sg_bsl, ↓st_callf, bX, ap_mkfn, ae_callvV, callvV_fn, List.cons_append, List.nil_append, boxV_i, boxV_dot, sto_dot, ap_conv, convV_int, bslV_0, fstep_d0, fstep_d1, bsl_dot, ae_appz, ap_cap, capV_nils, slcV_nils0, slcV_sl0, wrap_0, ae_clr, boxV_f, fstep_f, lod_new2, ↓st_appf, slcV_nils0N, slcV_sl0N, bslV_0N, bin_shr1, bsl_nd, q_known]
    all_goals first | exact hK13 | skip

end Go.AM
end
/-
  StoreValid. Own work of this project; in part printed by a program of it.
-/
section
set_option linter.unusedVariables false
set_option linter.unusedSimpArgs false
set_option maxRecDepth 100000
set_option maxHeartbeats 8000000
namespace Go.AM
open Go Go.Proofs

variable {s t u : St}
noncomputable def R_StEq : Con := runFn (tb [(66, R_EqN)]) a32
theorem s_StEq : SoundAt Tryz.prog 32 R_StEq := run_sound (tb_sound (l := [(66, R_EqN)]) (by simpa using s_EqN)) mixed Tryz.func32 k32 c32
theorem n_StEq : noNxtC a32.body = true := by kernel_rfl
theorem w_StEq {s : St} {va vb : AV} {a b : List Nd} (hra : read ndC s va = some a) (hrb : read ndC s vb = some b) (hla : a.length ≤ lim) (hlb : b.length ≤ lim) : ∀ env : Env, elen env = a32.ntmps → (∀ i x_, [va, vb][i]? = some x_ → E env i = x_) → awp (tb [(66, R_EqN)]) a32.body (fun x e t => (∀ i, x ≠ .exit i) ∧ aresults e t a32.results = some (.bool (decide (a = b))) ∧ Keep s t) env s := by
  intro env hlen ha
  have h0 : E env 0 = _ := ha 0 _ rfl
  have h1 : E env 1 = _ := ha 1 _ rfl
  have hlen : elen env = _ := hlen
  simp only [a32] at hlen
  unfold a32
  try dsimp only [oO, oG]
  have q := q_EqN false hra hla hrb hlb
  simp (config := {contextual := true, maxDischargeDepth := 12}) only [tb_at, h0, h1, hlen, q, ↓bD, bU, forall_const, List.all_cons, List.all_nil, Option.map_some, List.map_cons, List.map_nil, ne_eq, implies_true, isNx, eq_self, ↓wp_cond, ↓wp_loop, ↓reduceIte, reduceCtorEq, Nat.reduceEqDiff, Nat.reduceLT, Nat.reduceAdd, Nat.reduceMul, Int.ofNat_lt, Int.ofNat_le, exists_const, Option.map_none, beq_self_eq_true, decide_true, ↓sg_bsl, ↓st_callf, bX, ap_mkfn, ae_callvV, callvV_fn, List.cons_append, List.nil_append, boxV_i, boxV_dot, sto_dot, ap_conv, convV_int, bslV_0, fstep_d0, fstep_d1, bsl_dot, ae_appz, ap_cap, capV_nils, slcV_nils0, slcV_sl0, wrap_0, ae_clr, boxV_f, fstep_f, lod_new2, ↓st_appf, slcV_nils0N, slcV_sl0N, bslV_0N, bin_shr1, bsl_nd, q_known]
  all_goals first | exact .refl s | skip
theorem q_StEq (cl : Bool) {s : St} {va vb : AV} {a b : List Nd} (hra : read ndC s va = some a) (hrb : read ndC s vb = some b) (hla : a.length ≤ lim) (hlb : b.length ≤ lim) : acall R_StEq cl [va, vb] s = some (.bool (decide (a = b)), s) := run_same n_StEq (by simp [a32]) rfl (w_StEq (s := lowd s) (read_low' hra) (read_low' hrb) hla hlb)
theorem s_StoreValid : SoundAt Tryz.prog 7 (lawC Tryz.prog 8 [22, 22]) :=
  con_keep (tb_sound (l := [(9, closed [] (.bool true)), (31, conL ndC fValid), (10, R_RStV), (32, R_StEq), (17, R_REq), (33, R_ROf), (29, conF ndC (pL ndC gOf)), (34, R_gives)]) (by simpa using ⟨s_known, s_StValid, s_RStV, s_StEq, s_REq, s_ROf, s_Of, s_gives⟩)) mixed Tryz.func7 k7 c7 fun args s r s' h => by
    obtain ⟨hh, rfl, rfl⟩ := lawC_some h
    obtain ⟨va, vb, rfl, hv0, hw0⟩ := rdas_2 hh
    obtain ⟨a, hra, hoa, hca⟩ := rda_nodes hv0
    obtain ⟨b, hrb, hob, hcb⟩ := rda_nodes hw0
    refine ⟨rfl, rfl, by simp [a7], fun env hlen ha => ?_⟩
    have h0 : E env 0 = _ := ha 0 _ rfl
    have h1 : E env 1 = _ := ha 1 _ rfl
    have hlen : elen env = _ := hlen
    simp only [a7] at hlen
    unfold a7
    try dsimp only [oO, oG]
    have hL := lenV_read hra
    have hLb := lenV_read hrb
    by_cases hlz : 60 < a.length
    · have hz := eq_true (show (60 : Int) < (a.length : Int) by omega)
      simp (config := {contextual := true, maxDischargeDepth := 12}) only [tb_at, h0, h1, hlen, hL, hz, notV_bool, Bool.not_true, Bool.not_false, pickV_t, pickV_f, ↓bD, bU, forall_const, List.all_cons, List.all_nil, Option.map_some, List.map_cons, List.map_nil, ne_eq, implies_true, isNx, eq_self, ↓wp_cond, ↓wp_loop, ↓reduceIte, reduceCtorEq, Nat.reduceEqDiff, Nat.reduceLT, Nat.reduceAdd, Nat.reduceMul, Int.ofNat_lt, Int.ofNat_le, exists_const, Option.map_none, beq_self_eq_true, decide_true, ↓sg_bsl, ↓st_callf, bX, ap_mkfn, ae_callvV, callvV_fn, List.cons_append, List.nil_append, boxV_i, boxV_dot, sto_dot, ap_conv, convV_int, bslV_0, fstep_d0, fstep_d1, bsl_dot, ae_appz, ap_cap, capV_nils, slcV_nils0, slcV_sl0, wrap_0, ae_clr, boxV_f, fstep_f, lod_new2, ↓st_appf, slcV_nils0N, slcV_sl0N, bslV_0N, bin_shr1, bsl_nd, q_known]
      all_goals first | exact .refl s | skip
    have hz := eq_false (show ¬ (60 : Int) < (a.length : Int) by omega)
    by_cases hlz2 : 60 < b.length
    · have hz2 := eq_true (show (60 : Int) < (b.length : Int) by omega)
      simp (config := {contextual := true, maxDischargeDepth := 12}) only [tb_at, h0, h1, hlen, hL, hLb, hz, hz2, notV_bool, Bool.not_true, Bool.not_false, pickV_t, pickV_f, ↓bD, bU, forall_const, List.all_cons, List.all_nil, Option.map_some, List.map_cons, List.map_nil, ne_eq, implies_true, isNx, eq_self, ↓wp_cond, ↓wp_loop, ↓reduceIte, reduceCtorEq, Nat.reduceEqDiff, Nat.reduceLT, Nat.reduceAdd, Nat.reduceMul, Int.ofNat_lt, Int.ofNat_le, exists_const, Option.map_none, beq_self_eq_true, decide_true, ↓sg_bsl, ↓st_callf, bX, ap_mkfn, ae_callvV, callvV_fn, List.cons_append, List.nil_append, boxV_i, boxV_dot, sto_dot, ap_conv, convV_int, bslV_0, fstep_d0, fstep_d1, bsl_dot, ae_appz, ap_cap, capV_nils, slcV_nils0, slcV_sl0, wrap_0, ae_clr, boxV_f, fstep_f, lod_new2, ↓st_appf, slcV_nils0N, slcV_sl0N, bslV_0N, bin_shr1, bsl_nd, q_known]
      all_goals first | exact .refl s | skip
    have hz2 := eq_false (show ¬ (60 : Int) < (b.length : Int) by omega)
    have hlm : a.length ≤ lim := by unfold lim; omega
    have hlmb : b.length ≤ lim := by unfold lim; omega
    have q1 := q_StValid false hra hlm
    have q2 := q_RStV false hra hlm hoa
    have q3 := q_StEq false hra hrb hlm hlmb
    have q4 := q_REq false hra hlm hrb hlmb
    have q5 := q_StEq false hra hra hlm hlm
    rw [decide_eq_true rfl] at q5
    obtain ⟨u1, t0, hap, hO1, hK1⟩ := nds_copy hra (by omega)
    obtain ⟨w2, t1, q6, hO2, hK2⟩ := q_ROf (hK1.read hra) (by omega) hoa
    have hru := hK2.read hO1.read
    obtain ⟨w3, t2, q7, hO3, hK3⟩ := q_SOf hru hlm
    have hol := ofP_lenS a
    have q8 := q_gives false hO3.read (hK3.read hO2.read) (by omega) (by omega) (ofP a).2 (ofP a).2
    rw [decide_eq_true rfl, decide_eq_true rfl] at q8
    have hLw := lenV_read hO3.read
    have hKa : Keep s t2 := (hK1.trans hK2).trans hK3
    have hsv : (!(storeL a == storeL a)) = false := by simp
    have hse : (!(decide (a = b) == decide (a = b))) = false := by simp
    simp (config := {contextual := true, maxDischargeDepth := 12}) only [tb_at, h0, h1, hlen, hL, hLb, hz, hz2, q1, q2, q3, q4, q5, q6, q7, q8, hap, hsv, hse, hLw, bin_neb, beq_self_eq_true, notV_bool, Bool.not_true, Bool.not_false, pickV_t, pickV_f, ↓bD, bU, forall_const, List.all_cons, List.all_nil, Option.map_some, List.map_cons, List.map_nil, ne_eq, implies_true, isNx, eq_self, ↓wp_cond, ↓wp_loop, ↓reduceIte, reduceCtorEq, Nat.reduceEqDiff, Nat.reduceLT, Nat.reduceAdd, Nat.reduceMul, Int.ofNat_lt, Int.ofNat_le, exists_const, Option.map_none, beq_self_eq_true, decide_true, ↓sg_bsl, ↓st_callf, bX, ap_mkfn, ae_callvV, callvV_fn, List.cons_append, List.nil_append, boxV_i, boxV_dot, sto_dot, ap_conv, convV_int, bslV_0, fstep_d0, fstep_d1, bsl_dot, ae_appz, ap_cap, capV_nils, slcV_nils0, slcV_sl0, wrap_0, ae_clr, boxV_f, fstep_f, lod_new2, ↓st_appf, slcV_nils0N, slcV_sl0N, bslV_0N, bin_shr1, bsl_nd, q_known]
    all_goals first | exact .refl s | skip
    obtain ⟨I, hI⟩ : ∃ I : Nat → Env → St → Prop, ∀ n e t, I n e t = (Keep t1 t ∧ ∃ i : Nat, n + i = (ofP a).1.length ∧ elen e = 78 ∧ E e 0 = va ∧ E e 5 = u1 ∧ E e 8 = w3 ∧ E e 58 = w3 ∧ E e 59 = .int .i64 ((ofP a).1.length : Int) ∧ E e 60 = .int .i64 (i : Int) ∧ ∃ m : List Nd, m.length = (ofP a).1.length ∧ Own ndC t1 t w3 m) := ⟨fun n e t => (Keep t1 t ∧ ∃ i : Nat, n + i = (ofP a).1.length ∧ elen e = 78 ∧ E e 0 = va ∧ E e 5 = u1 ∧ E e 8 = w3 ∧ E e 58 = w3 ∧ E e 59 = .int .i64 ((ofP a).1.length : Int) ∧ E e 60 = .int .i64 (i : Int) ∧ ∃ m : List Nd, m.length = (ofP a).1.length ∧ Own ndC t1 t w3 m), fun _ _ _ => rfl⟩
    refine lwp_inv I (n := (ofP a).1.length) ?_ ?_
    · rw [hI]
      exact ⟨hK3, 0, by omega, (by simp only [bE, Nat.reduceEqDiff, ne_eq, not_false_eq_true, Nat.reduceLT, hlen]; try rfl), (by simp only [bE, Nat.reduceEqDiff, ne_eq, not_false_eq_true, Nat.reduceLT, hlen, h0]; try rfl), (by simp only [bE, Nat.reduceEqDiff, ne_eq, not_false_eq_true, Nat.reduceLT, hlen]; try rfl), (by simp only [bE, Nat.reduceEqDiff, ne_eq, not_false_eq_true, Nat.reduceLT, hlen]; try rfl), (by simp only [bE, Nat.reduceEqDiff, ne_eq, not_false_eq_true, Nat.reduceLT, hlen]; try rfl), (by simp only [bE, Nat.reduceEqDiff, ne_eq, not_false_eq_true, Nat.reduceLT, hlen, hLw]; try rfl), (by simp only [bE, Nat.reduceEqDiff, ne_eq, not_false_eq_true, Nat.reduceLT, hlen]; try rfl), ⟨_, rfl, hO3⟩⟩
    clear h0 h1 hlen q1 q2 q3 q4 q5 hap q6 q7 q8
    intro n e t hi
    rw [hI] at hi
    obtain ⟨hK, i, hni, he, e0, e5, e8, e58, e59, e60, m, hml, hm⟩ := hi
    by_cases hlt : i < (ofP a).1.length
    · have hw2 := wrap_add1 (n := i) (by omega)
      obtain ⟨x, hx⟩ := getsome (show i < m.length by omega)
      obtain ⟨a1, a2, a3, a5, a6, a4⟩ := nd_lods hm.read (.refl _) hx
      have i1 := nd_idx hm.read hx .i64
      rcases hm with ⟨rfl, hm0⟩ | ⟨j, rfl, hm0, hj0, hg⟩
      · rw [hm0] at hx; simp at hx
      have eb : bid (.sl j 0 m.length none ndC.sz) = j := rfl
      have eo : boff (.sl j 0 m.length none ndC.sz) = 0 := rfl
      rw [eb, eo, Nat.zero_add] at a5 i1
      obtain ⟨y, hy⟩ : ∃ y : Nd, y = { x with t := IntKind.i64.wrap (x.t + 1) } := ⟨_, rfl⟩
      have st1 := sto_field (k := 4) (y := y) (v := .int .i64 (IntKind.i64.wrap (x.t + 1))) hg hx (by decide) (by rw [hy]; rfl) rfl rfl
      simp (config := {contextual := true, maxDischargeDepth := 12}) only [tb_at, he, e0, e5, e8, e58, e59, e60, hlt, hw2, a5, i1, st1, ↓bD, bU, forall_const, List.all_cons, List.all_nil, Option.map_some, List.map_cons, List.map_nil, ne_eq, implies_true, isNx, eq_self, ↓wp_cond, ↓wp_loop, ↓reduceIte, reduceCtorEq, Nat.reduceEqDiff, Nat.reduceLT, Nat.reduceAdd, Nat.reduceMul, Int.ofNat_lt, Int.ofNat_le, exists_const, Option.map_none, beq_self_eq_true, decide_true, ↓sg_bsl, ↓st_callf, bX, ap_mkfn, ae_callvV, callvV_fn, List.cons_append, List.nil_append, boxV_i, boxV_dot, sto_dot, ap_conv, convV_int, bslV_0, fstep_d0, fstep_d1, bsl_dot, ae_appz, ap_cap, capV_nils, slcV_nils0, slcV_sl0, wrap_0, ae_clr, boxV_f, fstep_f, lod_new2, ↓st_appf, slcV_nils0N, slcV_sl0N, bslV_0N, bin_shr1, bsl_nd, q_known]
      refine ⟨n - 1, by omega, ?_⟩
      rw [hI]
      exact ⟨hK.put _ hj0 (St.get_lt hg), i + 1, by omega, (by simp only [bE, Nat.reduceEqDiff, ne_eq, not_false_eq_true, Nat.reduceLT, he, e0, e5, e8, e58, e59, e60]; try rfl), (by simp only [bE, Nat.reduceEqDiff, ne_eq, not_false_eq_true, Nat.reduceLT, he, e0, e5, e8, e58, e59, e60]; try rfl), (by simp only [bE, Nat.reduceEqDiff, ne_eq, not_false_eq_true, Nat.reduceLT, he, e0, e5, e8, e58, e59, e60]; try rfl), (by simp only [bE, Nat.reduceEqDiff, ne_eq, not_false_eq_true, Nat.reduceLT, he, e0, e5, e8, e58, e59, e60]; try rfl), (by simp only [bE, Nat.reduceEqDiff, ne_eq, not_false_eq_true, Nat.reduceLT, he, e0, e5, e8, e58, e59, e60]; try rfl), (by simp only [bE, Nat.reduceEqDiff, ne_eq, not_false_eq_true, Nat.reduceLT, he, e0, e5, e8, e58, e59, e60]; try rfl), (by simp only [bE, Nat.reduceEqDiff, ne_eq, not_false_eq_true, Nat.reduceLT, he, e0, e5, e8, e58, e59, e60]; try rfl), ⟨m.set i y, by rw [List.length_set]; exact hml, .inr ⟨j, by rw [List.length_set], fun e => by simp at e; exact hm0 e, hj0, St.get_put_same hg⟩⟩⟩
    · obtain rfl : i = (ofP a).1.length := by omega
      have hKt : Keep s t := (hK1.trans hK2).trans hK
      have q9 := q_REq false (hK.read hru) hlm (hKt.read hra) hlm
      rw [decide_eq_true rfl] at q9
      simp (config := {contextual := true, maxDischargeDepth := 12}) only [tb_at, he, e0, e5, e8, e58, e59, e60, hlt, q9, ↓bD, bU, forall_const, List.all_cons, List.all_nil, Option.map_some, List.map_cons, List.map_nil, ne_eq, implies_true, isNx, eq_self, ↓wp_cond, ↓wp_loop, ↓reduceIte, reduceCtorEq, Nat.reduceEqDiff, Nat.reduceLT, Nat.reduceAdd, Nat.reduceMul, Int.ofNat_lt, Int.ofNat_le, exists_const, Option.map_none, beq_self_eq_true, decide_true, ↓sg_bsl, ↓st_callf, bX, ap_mkfn, ae_callvV, callvV_fn, List.cons_append, List.nil_append, boxV_i, boxV_dot, sto_dot, ap_conv, convV_int, bslV_0, fstep_d0, fstep_d1, bsl_dot, ae_appz, ap_cap, capV_nils, slcV_nils0, slcV_sl0, wrap_0, ae_clr, boxV_f, fstep_f, lod_new2, ↓st_appf, slcV_nils0N, slcV_sl0N, bslV_0N, bin_shr1, bsl_nd, q_known]
      all_goals first | exact hKt | skip

end Go.AM
end
