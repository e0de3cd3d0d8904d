/-
  StoreOrders. Own work of this project; in part printed by a program of it.
-/
import Derived.Test.YtiihldccikdfiaaGreatP5
section
set_option linter.unusedVariables false
set_option linter.unusedSimpArgs false
set_option maxRecDepth 100000
set_option maxHeartbeats 8000000
namespace Go.AM
open Go Go.Proofs

variable {s t u : St}

/-- A list of one's own, or a literal of one node. -/
def LitOK (s t : St) (v : AV) (l : List Nd) : Prop := Own ndC s t v l ∨ ∃ j x, v = .sl j 0 1 (some 1) 6 ∧ l = [x] ∧ s.next ≤ j ∧ t.get j = some (.row (Nd.av x) true)
theorem LitOK.read {v : AV} {l : List Nd} (h : LitOK s t v l) : AM.read ndC t v = some l := by
  rcases h with h | ⟨j, x, rfl, rfl, _, hg⟩
  · exact h.read
  · exact read_of (C := ndC) (n := 1) rfl hg (by simp [ndC, Nd.av]) rfl
theorem LitOK.mono {v : AV} {l : List Nd} (h : LitOK s t v l) (k : ∀ id b, t.get id = some b → u.get id = some b) : LitOK s u v l :=
  h.imp (fun h => h.mono k) fun ⟨j, x, h1, h2, h3, h4⟩ => ⟨j, x, h1, h2, h3, k _ _ h4⟩
theorem LitOK.app {v w : AV} {l m : List Nd} (hK : Keep s t) (h : LitOK s t v l) (hr : AM.read ndC t w = some m) (hb : l.length + m.length ≤ 4000000) : ∃ v' t', appV t 6 48 v w = some (v', t') ∧ Keep s t' ∧ LitOK s t' v' (l ++ m) := by
  rcases h with h | ⟨j, x, rfl, rfl, hj, hg⟩
  · obtain ⟨v', t', q1, q2, q3⟩ := appV_list hK h hr 48 (by unfold roomBytes; omega)
    exact ⟨v', t', q1, q2, .inl q3⟩
  · have e1 : shown t 6 w = some (ndC.cells m) := read_shown hr
    have e2 : lenOf w = some m.length := read_len hr
    by_cases h0 : m = []
    · subst h0
      refine ⟨_, t, ?_, hK, .inr ⟨j, x, rfl, by simp, hj, hg⟩⟩
      simp only [appV, e1, e2, aappend, if_true, hg, List.length_nil]
    · have h0' : m.length ≠ 0 := by simpa using h0
      have e3 : ([x] ++ m).length = 1 + m.length := by simp; omega
      refine ⟨.sl t.next 0 (1 + m.length) none 6, t.push (.row (Nd.av x ++ ndC.cells m) true), ?_, hK.push _, .inl (.inr ⟨t.next, by rw [e3]; rfl, by simp, hK.next, St.get_push_new _ _⟩)⟩
      simp only [appV, e1, e2, aappend, if_true, hg, if_neg h0']
      rw [if_pos ⟨by simp [Nd.av], by simp at hb; simp [roomBytes]; omega⟩, if_neg (by omega)]
      simp [Nd.av]
theorem sput_next {l : List Nd} (hv : l.all Nd.valid = true) (hn : NC (· ∈ l)) {i : Nat} {x : Nd} (hx : l[i]? = some x) : putP (ofP (l.take i)).1 x = ofP (l.take (i + 1)) ∧ (ofP (l.take (i + 1))).2 = 0 := by
  have hsub : ∀ y, y ∈ l.take i ++ [x] → y ∈ l := fun y hy => by
    rcases List.mem_append.1 hy with h | h
    · exact List.mem_of_mem_take h
    · rw [List.mem_singleton.1 h]; exact mem_at hx
  have hv2 : (l.take i ++ [x]).all Nd.valid = true := List.all_eq_true.2 fun y hy => List.all_eq_true.1 hv y (hsub y hy)
  obtain ⟨h1, h2, h3⟩ := put_step hv2 (hn.sub hsub)
  rw [take_snoc hx]
  exact ⟨by unfold putP; rw [if_pos h3, h1], h2⟩
theorem ofP_fail {l : List Nd} (h : (ofP l).2 ≠ 0) : (ofP l).1 = [] := by
  cases hv : l.all Nd.valid
  · rw [ofP_bad hv]
  · by_cases hn : NC (· ∈ l)
    · obtain ⟨j, h1, _⟩ := ofP_res hv hn
      rw [h1] at h
      exact absurd rfl h
    · rw [ofP_clash hv hn]
theorem wrap_I {x : Int} (h1 : -4611686018427387904 ≤ x) (h2 : x < 4611686018427387904) : IntKind.i64.wrap x = x := by
  have e : (2 : Int) ^ IntKind.i64.bits = 18446744073709551616 := by decide
  have e3 : (2 : Int) ^ (IntKind.i64.bits - 1) = 9223372036854775808 := by decide
  have e2 : IntKind.i64.signed = true := rfl
  simp only [IntKind.wrap, e, e2, e3]
  simp
  omega
theorem bin_remS (e : EK) {a b : Nat} (h : b ≠ 0) : binOp .rem e (.int .i64 (a : Int)) (.int .i64 (b : Int)) = some (.int .i64 ((a % b : Nat) : Int)) := by
  simp only [binOp, if_true, intOp]
  rw [if_neg (by omega)]
  rfl
theorem u8_underS : Tryz.prog.underlying 5 = some (.int .u8) := by kernel_rfl
theorem wf_u8 {x : Int} (h : (Lit.int .u8 x).wf = true) : ∃ n : Nat, x = (n : Int) ∧ n ≤ 255 := by
  have h1 : IntKind.u8.min = 0 := by decide
  have h2 : IntKind.u8.max = 255 := by decide
  simp [Lit.wf, h1, h2] at h
  exact ⟨x.toNat, by omega, by omega⟩
def backL (l : List Nd) (k j : Nat) (x0 : Nd) : List Nd := ([x0] ++ l.take k) ++ (l.drop j).reverse
theorem back_mem {l : List Nd} {k : Nat} {x0 : Nd} (h : x0 ∈ l) (y : Nd) : y ∈ backL l k k x0 ↔ y ∈ l := by
  unfold backL
  simp only [List.mem_append, List.mem_singleton, List.mem_reverse]
  constructor
  · rintro ((rfl | q) | q)
    · exact h
    · exact List.mem_of_mem_take q
    · exact List.mem_of_mem_drop q
  · intro q
    rw [← List.take_append_drop k l] at q
    rcases List.mem_append.1 q with q | q
    · exact .inl (.inr q)
    · exact .inr q
theorem s_StoreOrders : SoundAt Tryz.prog 6 (lawC Tryz.prog 8 [22, 5]) :=
  con_keep (tb_sound (l := [(9, closed [] (.bool true)), (29, conF ndC (pL ndC gOf)), (30, R_SPut), (17, R_REq)]) (by simpa using ⟨s_known, s_Of, s_SPut, s_REq⟩)) mixed Tryz.func6 k6 c6 fun args s r s' h => by
    obtain ⟨hh, rfl, rfl⟩ := lawC_some h
    obtain ⟨vl, u0, rfl, hv0, hu0⟩ := rdas_2 hh
    obtain ⟨l, hr, ho, hc⟩ := rda_nodes hv0
    obtain ⟨tn, rfl, htn⟩ := rda_int u8_underS hu0
    obtain ⟨tu, rfl, htu⟩ := wf_u8 htn
    refine ⟨rfl, rfl, by simp [a6], fun env hlen ha => ?_⟩
    have h0 : E env 0 = _ := ha 0 _ rfl
    have h1 : E env 1 = _ := ha 1 _ rfl
    have hlen : elen env = _ := hlen
    simp only [a6] at hlen
    unfold a6
    try dsimp only [oO, oG]
    have hL := lenV_read hr
    by_cases hlz : 40 < l.length
    · have hz := eq_true (show (40 : Int) < (l.length : Int) by omega)
      simp (config := {contextual := true, maxDischargeDepth := 12}) only [tb_at, h0, h1, hlen, hL, hz, ↓bD, bU, forall_const, List.all_cons, List.all_nil, Option.map_some, List.map_cons, List.map_nil, ne_eq, implies_true, isNx, eq_self, ↓wp_cond, ↓wp_loop, ↓reduceIte, reduceCtorEq, Nat.reduceEqDiff, Nat.reduceLT, Nat.reduceAdd, Nat.reduceMul, Int.ofNat_lt, Int.ofNat_le, exists_const, Option.map_none, beq_self_eq_true, decide_true, ↓sg_bsl, ↓st_callf, bX, ap_mkfn, ae_callvV, callvV_fn, List.cons_append, List.nil_append, boxV_i, boxV_dot, sto_dot, ap_conv, convV_int, bslV_0, fstep_d0, fstep_d1, bsl_dot, ae_appz, ap_cap, capV_nils, slcV_nils0, slcV_sl0, wrap_0, ae_clr, boxV_f, fstep_f, lod_new2, ↓st_appf, slcV_nils0N, slcV_sl0N, bslV_0N, bin_shr1, bsl_nd, q_known]
      all_goals first | exact .refl s | skip
    have hz := eq_false (show ¬ (40 : Int) < (l.length : Int) by omega)
    have hlm : l.length ≤ lim := by unfold lim; omega
    obtain ⟨w1, t1, q1, hO1, hK1⟩ := q_SOf hr hlm
    have hL1 := lenV_read hO1.read
    by_cases hl0 : l.length = 0
    · have hln : l = [] := List.length_eq_zero_iff.1 hl0
      have hz0 := eq_true (show (l.length : Int) = 0 by omega)
      have e0 : ofP l = ([], 0) := by rw [hln]; exact of_nil
      rw [e0] at q1 hL1
      have hL1 : lenV w1 = some (.int .i64 0) := hL1
      have h00 : ((0 : Int) = 0) = True := eq_true rfl
      simp (config := {contextual := true, maxDischargeDepth := 12}) only [tb_at, h0, h1, hlen, hL, hz, q1, hL1, hz0, h00, decide_true, Bool.true_and, ↓bD, bU, forall_const, List.all_cons, List.all_nil, Option.map_some, List.map_cons, List.map_nil, ne_eq, implies_true, isNx, eq_self, ↓wp_cond, ↓wp_loop, ↓reduceIte, reduceCtorEq, Nat.reduceEqDiff, Nat.reduceLT, Nat.reduceAdd, Nat.reduceMul, Int.ofNat_lt, Int.ofNat_le, exists_const, Option.map_none, beq_self_eq_true, decide_true, ↓sg_bsl, ↓st_callf, bX, ap_mkfn, ae_callvV, callvV_fn, List.cons_append, List.nil_append, boxV_i, boxV_dot, sto_dot, ap_conv, convV_int, bslV_0, fstep_d0, fstep_d1, bsl_dot, ae_appz, ap_cap, capV_nils, slcV_nils0, slcV_sl0, wrap_0, ae_clr, boxV_f, fstep_f, lod_new2, ↓st_appf, slcV_nils0N, slcV_sl0N, bslV_0N, bin_shr1, bsl_nd, q_known]
      all_goals first | exact hK1 | skip
    have hz0 := eq_false (show ¬ (l.length : Int) = 0 by omega)
    obtain ⟨k, hkd⟩ : ∃ k, k = tu % l.length := ⟨_, rfl⟩
    have hkl : k < l.length := by rw [hkd]; exact Nat.mod_lt _ (by omega)
    have hcv := wrap_nat (n := tu) (by omega)
    have hrm := bin_remS .no (a := tu) hl0
    rw [← hkd] at hrm
    obtain ⟨x0, hx0⟩ := getsome hkl
    have hKR : Keep s (t1.reserve 1) := hK1.trans (keep_reserve _ 1)
    obtain ⟨a1, a2, a3, a5, a6, a4⟩ := nd_lods hr hK1 hx0
    obtain ⟨a1', a2', a3', a5', a6', a4'⟩ := nd_lods hr hKR hx0
    have i1 := nd_idx hr hx0 .i64
    obtain ⟨v1, sl1, rd1⟩ := slc_hi (C := ndC) hr hc (k := .i64) (i := (k : Int)) rfl (by omega)
    have sl1 : slcV 6 vl none (some (.int .i64 (k : Int))) = some v1 := sl1
    have hKT : Keep s (t1.push (.row (Nd.av x0) true)) := hK1.push _
    have hlit : LitOK t1 (t1.push (.row (Nd.av x0) true)) (.sl t1.next 0 1 (some 1) 6) [x0] := .inr ⟨t1.next, x0, rfl, rfl, Nat.le_refl _, St.get_push_new _ _⟩
    obtain ⟨b0, t2, hap, hK2, hB0⟩ := hlit.app ((Keep.refl t1).push _) (rd1 _ hKT) (by rw [List.length_take]; simp; omega)
    have hwl : IntKind.i64.wrap ((l.length : Int) - 1) = (l.length : Int) - ((0 : Nat) : Int) - 1 := by
      rw [wrap_I (by omega) (by omega)]; omega
    have hB00 : LitOK t1 t2 b0 (backL l k (l.length - 0) x0) := by
      have e : backL l k (l.length - 0) x0 = [x0] ++ l.take k := by unfold backL; simp
      rw [e]; exact hB0
    simp (config := {contextual := true, maxDischargeDepth := 12}) only [tb_at, h0, h1, hlen, hL, hz, hz0, q1, hcv, hrm, a1, a4, a1', a4', i1, sl1, hap, hwl, ↓bD, bU, forall_const, List.all_cons, List.all_nil, Option.map_some, List.map_cons, List.map_nil, ne_eq, implies_true, isNx, eq_self, ↓wp_cond, ↓wp_loop, ↓reduceIte, reduceCtorEq, Nat.reduceEqDiff, Nat.reduceLT, Nat.reduceAdd, Nat.reduceMul, Int.ofNat_lt, Int.ofNat_le, exists_const, Option.map_none, beq_self_eq_true, decide_true, ↓sg_bsl, ↓st_callf, bX, ap_mkfn, ae_callvV, callvV_fn, List.cons_append, List.nil_append, boxV_i, boxV_dot, sto_dot, ap_conv, convV_int, bslV_0, fstep_d0, fstep_d1, bsl_dot, ae_appz, ap_cap, capV_nils, slcV_nils0, slcV_sl0, wrap_0, ae_clr, boxV_f, fstep_f, lod_new2, ↓st_appf, slcV_nils0N, slcV_sl0N, bslV_0N, bin_shr1, bsl_nd, q_known]
    obtain ⟨I, hI⟩ : ∃ I : Nat → Env → St → Prop, ∀ n e t, I n e t = (Keep t1 t ∧ ∃ i : Nat, n + i = l.length - k ∧ elen e = 122 ∧ E e 0 = vl ∧ E e 5 = w1 ∧ E e 6 = .int .i64 (ofP l).2 ∧ E e 7 = .int .i64 (k : Int) ∧ E e 9 = .int .i64 ((l.length : Int) - (i : Int) - 1) ∧ LitOK t1 t (E e 8) (backL l k (l.length - i) x0)) := ⟨fun n e t => (Keep t1 t ∧ ∃ i : Nat, n + i = l.length - k ∧ elen e = 122 ∧ E e 0 = vl ∧ E e 5 = w1 ∧ E e 6 = .int .i64 (ofP l).2 ∧ E e 7 = .int .i64 (k : Int) ∧ E e 9 = .int .i64 ((l.length : Int) - (i : Int) - 1) ∧ LitOK t1 t (E e 8) (backL l k (l.length - i) x0)), fun _ _ _ => rfl⟩
    refine lwp_inv I (n := (l.length - k)) ?_ ?_
    · rw [hI]
      exact ⟨hK2, 0, by omega, (by simp only [bE, Nat.reduceEqDiff, ne_eq, not_false_eq_true, Nat.reduceLT, hlen]; try rfl), (by simp only [bE, Nat.reduceEqDiff, ne_eq, not_false_eq_true, Nat.reduceLT, hlen, h0]; try rfl), (by simp only [bE, Nat.reduceEqDiff, ne_eq, not_false_eq_true, Nat.reduceLT, hlen]; try rfl), (by simp only [bE, Nat.reduceEqDiff, ne_eq, not_false_eq_true, Nat.reduceLT, hlen]; try rfl), (by simp only [bE, Nat.reduceEqDiff, ne_eq, not_false_eq_true, Nat.reduceLT, hlen]; try rfl), (by simp only [bE, Nat.reduceEqDiff, ne_eq, not_false_eq_true, Nat.reduceLT, hlen]; try rfl), by simp only [bE, Nat.reduceEqDiff, ne_eq, not_false_eq_true, Nat.reduceLT, hlen]; exact hB00⟩
    clear h0 h1 hlen q1 hap
    intro n e t hi
    rw [hI] at hi
    obtain ⟨hK, i, hni, he, e0, e5, e6, e7, e9, hB⟩ := hi
    by_cases hlt : i < l.length - k
    · obtain ⟨p, hp⟩ : ∃ p, l.length - i = p + 1 := ⟨l.length - i - 1, by omega⟩
      have ep : (l.length : Int) - (i : Int) - 1 = (p : Int) := by omega
      rw [ep] at e9
      obtain ⟨x, hx⟩ := getsome (show p < l.length by omega)
      have hcd := eq_true (show (k : Int) ≤ (p : Int) by omega)
      have hwp : IntKind.i64.wrap ((p : Int) - 1) = (l.length : Int) - ((i + 1 : Nat) : Int) - 1 := by
        rw [wrap_I (by omega) (by omega)]; omega
      obtain ⟨a1, a2, a3, a5, a6, a4⟩ := nd_lods hr (hK1.trans hK) hx
      have i1 := nd_idx hr hx .i64
      have hsn : backL l k (l.length - (i + 1)) x0 = backL l k (l.length - i) x0 ++ [x] := by
        have e1 : l.length - (i + 1) = p := by omega
        unfold backL
        rw [e1, hp, drop_at hx, List.reverse_cons, ← List.append_assoc]
      have hbl : (backL l k (l.length - i) x0).length ≤ 200 := by unfold backL; simp; omega
      have hrx : read ndC (t.push (.row (Nd.av x) true)) (.sl t.next 0 1 (some 1) 6) = some [x] := read_of (C := ndC) (n := 1) rfl (St.get_push_new _ _) (by simp [Nd.av, ndC]) rfl
      obtain ⟨b2, t3, ap2, hK3, hB3⟩ := (hB.mono fun id b hb => get_push_some (.row (Nd.av x) true) hb).app (hK.push _) hrx (by simp; omega)
      simp (config := {contextual := true, maxDischargeDepth := 12}) only [tb_at, he, e0, e5, e6, e7, e9, hcd, a1, a4, i1, ap2, hwp, ↓bD, bU, forall_const, List.all_cons, List.all_nil, Option.map_some, List.map_cons, List.map_nil, ne_eq, implies_true, isNx, eq_self, ↓wp_cond, ↓wp_loop, ↓reduceIte, reduceCtorEq, Nat.reduceEqDiff, Nat.reduceLT, Nat.reduceAdd, Nat.reduceMul, Int.ofNat_lt, Int.ofNat_le, exists_const, Option.map_none, beq_self_eq_true, decide_true, ↓sg_bsl, ↓st_callf, bX, ap_mkfn, ae_callvV, callvV_fn, List.cons_append, List.nil_append, boxV_i, boxV_dot, sto_dot, ap_conv, convV_int, bslV_0, fstep_d0, fstep_d1, bsl_dot, ae_appz, ap_cap, capV_nils, slcV_nils0, slcV_sl0, wrap_0, ae_clr, boxV_f, fstep_f, lod_new2, ↓st_appf, slcV_nils0N, slcV_sl0N, bslV_0N, bin_shr1, bsl_nd, q_known]
      refine ⟨n - 1, by omega, ?_⟩
      rw [hI]
      exact ⟨hK3, i + 1, by omega, (by simp only [bE, Nat.reduceEqDiff, ne_eq, not_false_eq_true, Nat.reduceLT, he, e0, e5, e6, e7]; try rfl), (by simp only [bE, Nat.reduceEqDiff, ne_eq, not_false_eq_true, Nat.reduceLT, he, e0, e5, e6, e7]; try rfl), (by simp only [bE, Nat.reduceEqDiff, ne_eq, not_false_eq_true, Nat.reduceLT, he, e0, e5, e6, e7]; try rfl), (by simp only [bE, Nat.reduceEqDiff, ne_eq, not_false_eq_true, Nat.reduceLT, he, e0, e5, e6, e7]; try rfl), (by simp only [bE, Nat.reduceEqDiff, ne_eq, not_false_eq_true, Nat.reduceLT, he, e0, e5, e6, e7]; try rfl), (by simp only [bE, Nat.reduceEqDiff, ne_eq, not_false_eq_true, Nat.reduceLT, he, e0, e5, e6, e7]; try rfl), by simp only [bE, Nat.reduceEqDiff, ne_eq, not_false_eq_true, Nat.reduceLT, he]; rw [hsn]; exact hB3⟩
    · obtain rfl : i = l.length - k := by omega
      have hkk : l.length - (l.length - k) = k := by omega
      rw [hkk] at hB
      have hcd := eq_false (show ¬ (k : Int) ≤ (l.length : Int) - ((l.length - k : Nat) : Int) - 1 by omega)
      generalize hb1 : E e 8 = b1 at hB
      have hbl : (backL l k k x0).length ≤ 200 := by unfold backL; simp; omega
      have hbm := back_mem (k := k) (mem_at hx0)
      obtain ⟨w2, t3, q2, hO2, hK3⟩ := q_SOf hB.read (by unfold lim; omega)
      rw [ofP_congr hbm] at q2 hO2
      have hL2 := lenV_read hO2.read
      have hKA := hK.trans hK3
      have hKs3 := hK1.trans hKA
      by_cases he0 : (ofP l).2 = 0
      · have hzz := eq_true he0
        obtain ⟨_, hnc, hval⟩ := ofP_store he0
        have hval2 : (backL l k k x0).all Nd.valid = true := List.all_eq_true.2 fun y hy => List.all_eq_true.1 hval y ((hbm y).1 hy)
        have hnc2 : NC (· ∈ backL l k k x0) := hnc.sub fun y hy => (hbm y).1 hy
        have hBr := hK3.read hB.read
        have hLB := lenV_read hBr
        have hon : Own ndC s t3 .nils (ofP ((backL l k k x0).take 0)).1 := by rw [List.take_zero, of_nil]; exact .nil _ _ _
        simp (config := {contextual := true, maxDischargeDepth := 12}) only [tb_at, he, e0, e5, e6, e7, e9, hb1, hcd, q2, hzz, hLB, ↓bD, bU, forall_const, List.all_cons, List.all_nil, Option.map_some, List.map_cons, List.map_nil, ne_eq, implies_true, isNx, eq_self, ↓wp_cond, ↓wp_loop, ↓reduceIte, reduceCtorEq, Nat.reduceEqDiff, Nat.reduceLT, Nat.reduceAdd, Nat.reduceMul, Int.ofNat_lt, Int.ofNat_le, exists_const, Option.map_none, beq_self_eq_true, decide_true, ↓sg_bsl, ↓st_callf, bX, ap_mkfn, ae_callvV, callvV_fn, List.cons_append, List.nil_append, boxV_i, boxV_dot, sto_dot, ap_conv, convV_int, bslV_0, fstep_d0, fstep_d1, bsl_dot, ae_appz, ap_cap, capV_nils, slcV_nils0, slcV_sl0, wrap_0, ae_clr, boxV_f, fstep_f, lod_new2, ↓st_appf, slcV_nils0N, slcV_sl0N, bslV_0N, bin_shr1, bsl_nd, q_known]
        obtain ⟨I2, hI2⟩ : ∃ I : Nat → Env → St → Prop, ∀ n e t, I n e t = (Keep t3 t ∧ ∃ i : Nat, n + i = (backL l k k x0).length ∧ elen e = 122 ∧ E e 5 = w1 ∧ E e 10 = w2 ∧ E e 95 = b1 ∧ E e 96 = .int .i64 ((backL l k k x0).length : Int) ∧ E e 97 = .int .i64 (i : Int) ∧ Own ndC s t (E e 12) (ofP ((backL l k k x0).take i)).1) := ⟨fun n e t => (Keep t3 t ∧ ∃ i : Nat, n + i = (backL l k k x0).length ∧ elen e = 122 ∧ E e 5 = w1 ∧ E e 10 = w2 ∧ E e 95 = b1 ∧ E e 96 = .int .i64 ((backL l k k x0).length : Int) ∧ E e 97 = .int .i64 (i : Int) ∧ Own ndC s t (E e 12) (ofP ((backL l k k x0).take i)).1), fun _ _ _ => rfl⟩
        refine lwp_inv I2 (n := (backL l k k x0).length) ?_ ?_
        · rw [hI2]
          exact ⟨.refl _, 0, by omega, (by simp only [bE, Nat.reduceEqDiff, ne_eq, not_false_eq_true, Nat.reduceLT, he]; try rfl), (by simp only [bE, Nat.reduceEqDiff, ne_eq, not_false_eq_true, Nat.reduceLT, he, e5]; try rfl), (by simp only [bE, Nat.reduceEqDiff, ne_eq, not_false_eq_true, Nat.reduceLT, he]; try rfl), (by simp only [bE, Nat.reduceEqDiff, ne_eq, not_false_eq_true, Nat.reduceLT, he]; try rfl), (by simp only [bE, Nat.reduceEqDiff, ne_eq, not_false_eq_true, Nat.reduceLT, he, hLB]; try rfl), (by simp only [bE, Nat.reduceEqDiff, ne_eq, not_false_eq_true, Nat.reduceLT, he]; try rfl), by simp only [bE, Nat.reduceEqDiff, ne_eq, not_false_eq_true, Nat.reduceLT, he]; exact hon⟩
        clear hni he e0 e6 e7 e9 hb1
        intro n e t hi
        rw [hI2] at hi
        obtain ⟨hK, i, hni, he, e5, e10, e95, e96, e97, hO⟩ := hi
        have hOl : (ofP l).1.length ≤ lim := Nat.le_trans (ofP_lenS l) hlm
        have hKst := hKs3.trans hK
        by_cases hlt : i < (backL l k k x0).length
        · obtain ⟨x, hx⟩ := getsome hlt
          have hw2 := wrap_add1 (n := i) (by omega)
          obtain ⟨a1, a2, a3, a5, a6, a4⟩ := nd_lods hBr hK hx
          have i1 := nd_idx hBr hx .i64
          obtain ⟨hp1, hp2⟩ := sput_next hval2 hnc2 hx
          have hln := ofP_lenS ((backL l k k x0).take i)
          rw [List.length_take] at hln
          obtain ⟨w, t5, q3, hO', hK'⟩ := q_SPut (hO.lowed.push (.row (Nd.av x) true)).read (by omega) x
          rw [hp1] at q3 hO'
          rw [hp2] at q3
          have h00 : ((0 : Int) = 0) = True := eq_true rfl
          simp (config := {contextual := true, maxDischargeDepth := 12}) only [tb_at, he, e5, e10, e95, e96, e97, hlt, hw2, a1, a4, i1, q3, h00, ↓bD, bU, forall_const, List.all_cons, List.all_nil, Option.map_some, List.map_cons, List.map_nil, ne_eq, implies_true, isNx, eq_self, ↓wp_cond, ↓wp_loop, ↓reduceIte, reduceCtorEq, Nat.reduceEqDiff, Nat.reduceLT, Nat.reduceAdd, Nat.reduceMul, Int.ofNat_lt, Int.ofNat_le, exists_const, Option.map_none, beq_self_eq_true, decide_true, ↓sg_bsl, ↓st_callf, bX, ap_mkfn, ae_callvV, callvV_fn, List.cons_append, List.nil_append, boxV_i, boxV_dot, sto_dot, ap_conv, convV_int, bslV_0, fstep_d0, fstep_d1, bsl_dot, ae_appz, ap_cap, capV_nils, slcV_nils0, slcV_sl0, wrap_0, ae_clr, boxV_f, fstep_f, lod_new2, ↓st_appf, slcV_nils0N, slcV_sl0N, bslV_0N, bin_shr1, bsl_nd, q_known]
          refine ⟨n - 1, by omega, ?_⟩
          rw [hI2]
          exact ⟨(hK.lowed.push _).trans hK', i + 1, by omega, (by simp only [bE, Nat.reduceEqDiff, ne_eq, not_false_eq_true, Nat.reduceLT, he, e5, e10, e95, e96, e97]; try rfl), (by simp only [bE, Nat.reduceEqDiff, ne_eq, not_false_eq_true, Nat.reduceLT, he, e5, e10, e95, e96, e97]; try rfl), (by simp only [bE, Nat.reduceEqDiff, ne_eq, not_false_eq_true, Nat.reduceLT, he, e5, e10, e95, e96, e97]; try rfl), (by simp only [bE, Nat.reduceEqDiff, ne_eq, not_false_eq_true, Nat.reduceLT, he, e5, e10, e95, e96, e97]; try rfl), (by simp only [bE, Nat.reduceEqDiff, ne_eq, not_false_eq_true, Nat.reduceLT, he, e5, e10, e95, e96, e97]; try rfl), (by simp only [bE, Nat.reduceEqDiff, ne_eq, not_false_eq_true, Nat.reduceLT, he, e5, e10, e95, e96, e97]; try rfl), by simp only [bE, Nat.reduceEqDiff, ne_eq, not_false_eq_true, Nat.reduceLT, he]; exact hO'.from (hKst.lowed.push _).next⟩
        · obtain rfl : i = (backL l k k x0).length := by omega
          rw [List.take_length, ofP_congr hbm] at hO
          have r1 := (hKA.trans hK).read hO1.read
          have r2 := hK.read hO2.read
          have q4 := q_REq false r1 hOl r2 hOl
          have q5 := q_REq false r1 hOl hO.read hOl
          rw [decide_eq_true rfl] at q4 q5
          simp (config := {contextual := true, maxDischargeDepth := 12}) only [tb_at, he, e5, e10, e95, e96, e97, hlt, q4, q5, ↓bD, bU, forall_const, List.all_cons, List.all_nil, Option.map_some, List.map_cons, List.map_nil, ne_eq, implies_true, isNx, eq_self, ↓wp_cond, ↓wp_loop, ↓reduceIte, reduceCtorEq, Nat.reduceEqDiff, Nat.reduceLT, Nat.reduceAdd, Nat.reduceMul, Int.ofNat_lt, Int.ofNat_le, exists_const, Option.map_none, beq_self_eq_true, decide_true, ↓sg_bsl, ↓st_callf, bX, ap_mkfn, ae_callvV, callvV_fn, List.cons_append, List.nil_append, boxV_i, boxV_dot, sto_dot, ap_conv, convV_int, bslV_0, fstep_d0, fstep_d1, bsl_dot, ae_appz, ap_cap, capV_nils, slcV_nils0, slcV_sl0, wrap_0, ae_clr, boxV_f, fstep_f, lod_new2, ↓st_appf, slcV_nils0N, slcV_sl0N, bslV_0N, bin_shr1, bsl_nd, q_known]
          all_goals first | exact hKst | skip
      · have hzz := eq_false he0
        have hf := ofP_fail he0
        rw [hf] at hL2 hL1
        have hL1' : lenV w1 = some (.int .i64 0) := hL1
        have hL2' : lenV w2 = some (.int .i64 0) := hL2
        have h00 : ((0 : Int) = 0) = True := eq_true rfl
        simp (config := {contextual := true, maxDischargeDepth := 12}) only [tb_at, he, e0, e5, e6, e7, e9, hb1, hcd, q2, hzz, hL1', hL2', h00, decide_false, decide_true, Bool.not_false, Bool.not_true, Bool.true_and, ↓bD, bU, forall_const, List.all_cons, List.all_nil, Option.map_some, List.map_cons, List.map_nil, ne_eq, implies_true, isNx, eq_self, ↓wp_cond, ↓wp_loop, ↓reduceIte, reduceCtorEq, Nat.reduceEqDiff, Nat.reduceLT, Nat.reduceAdd, Nat.reduceMul, Int.ofNat_lt, Int.ofNat_le, exists_const, Option.map_none, beq_self_eq_true, decide_true, ↓sg_bsl, ↓st_callf, bX, ap_mkfn, ae_callvV, callvV_fn, List.cons_append, List.nil_append, boxV_i, boxV_dot, sto_dot, ap_conv, convV_int, bslV_0, fstep_d0, fstep_d1, bsl_dot, ae_appz, ap_cap, capV_nils, slcV_nils0, slcV_sl0, wrap_0, ae_clr, boxV_f, fstep_f, lod_new2, ↓st_appf, slcV_nils0N, slcV_sl0N, bslV_0N, bin_shr1, bsl_nd, q_known]
        all_goals first | exact hKs3 | skip

end Go.AM
end
