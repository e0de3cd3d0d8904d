/-
  slices.Grow and Concat; vector.Merge and Raise. Own work of this project; in part printed by a program of it.
-/
import Derived.Test.YtiihldccikdfiaaGreatP3
import Derived.Shelf.SlSortCmp.WholeK
import Derived.Ground.SlsfProg
import Derived.Shelf.SlGeneric
import Derived.Test.YtiihldccikdfiaaGreatProg
import Derived.Shelf.SlSortCmp.NoneTotal
section
set_option linter.unusedVariables false
set_option linter.unusedSimpArgs false
set_option maxRecDepth 100000
set_option maxHeartbeats 8000000
namespace Go.AM
open Go Go.Proofs

variable {s t u : St}

def appzV (s : St) (sz bytes : Nat) (z : List AV) (a x : AV) : Option (AV × St) := match x with
  | .int .i64 n => if 0 ≤ n ∧ n ≤ 9223372036854775807 ∧ z.length = sz then aappend s sz bytes a (zeros z n.toNat) n.toNat else none
  | _ => none
theorem ae_appz {call : Nat → List AV → St → Option (AV × St)} {env : Env} (sz b : Nat) (z : List AV) (a x : AO) : aeff call env s (.appz sz b z a x) = appzV s sz b z (aev env a) (aev env x) := nrfl rfl
def capV : AV → Option AV
  | .sl _ _ _ (some c) _ => some (.int .i64 (c : Int))
  | .nils => some (.int .i64 0)
  | _ => none
theorem ap_cap {env : Env} (x : AO) : apure env (.cap x) = capV (aev env x) := nrfl (by
  simp only [apure, capV]
  cases aev env x with
  | sl id off len cap z => cases cap <;> rfl
  | _ => rfl)
theorem capV_nils : capV .nils = some (.int .i64 0) := nrfl rfl
theorem slcV_nils0 : slcV 2 .nils none (some (.int .i64 0)) = some .nils := nrfl rfl
theorem slcV_sl0 (j n : Nat) : slcV 2 (.sl j 0 n none 2) none (some (.int .i64 0)) = some (.sl j 0 0 none 2) := nrfl (by
  simp [slcV, optNat, asNatIn])
theorem appz_nil {n : Nat} (h0 : 0 < n) (hn : n ≤ 4000000) : appzV s 2 16 [.int .i64 0, .int .i64 0] .nils (.int .i64 (n : Int)) = some (.sl s.next 0 n none 2, s.push (.row (zeros [.int .i64 0, .int .i64 0] n) true)) := by
  simp only [appzV]
  rw [if_pos ⟨by omega, by omega, rfl⟩, Int.toNat_natCast]
  simp only [aappend]
  rw [if_neg (by omega), if_pos (by unfold roomBytes; omega)]
theorem wrap_0 : IntKind.i64.wrap (0 - 0) = 0 := by decide
theorem wrap_m0 {n : Nat} (h : n < 4611686018427387904) : IntKind.i64.wrap ((n : Int) - 0) = (n : Int) := by
  rw [Int.sub_zero]
  exact wrap_nat h
/-- Grown, but still empty; or a list of the caller's own. -/
def PreOwn (s t : St) (v : AV) (l : List Dot) : Prop := Own dotC s t v l ∨ (l = [] ∧ ∃ j cs, v = .sl j 0 0 none 2 ∧ s.next ≤ j ∧ t.get j = some (.row cs true))
theorem PreOwn.read {v : AV} {l : List Dot} (h : PreOwn s t v l) : read dotC t v = some l := by
  rcases h with h | ⟨rfl, j, cs, rfl, _, h⟩
  · exact h.read
  · exact read_of (C := dotC) (n := 0) rfl h (by omega) (by simp [cells_nil])
theorem PreOwn.mono {v : AV} {l : List Dot} (h : PreOwn s t v l) (k : ∀ id b, t.get id = some b → u.get id = some b) : PreOwn s u v l := h.imp (fun h => h.mono k) fun ⟨h1, j, cs, h2, h3, h4⟩ => ⟨h1, j, cs, h2, h3, k _ _ h4⟩
theorem PreOwn.app {v w : AV} {l m : List Dot} (hK : Keep s t) (h : PreOwn s t v l) (hr : AM.read dotC t w = some m) (hb : l.length + m.length ≤ 4000000) : ∃ v' t', appV t 2 16 v w = some (v', t') ∧ Keep s t' ∧ PreOwn s t' v' (l ++ m) := by
  rcases h with h | ⟨rfl, j, cs, rfl, h1, h⟩
  · obtain ⟨v', t', q1, q2, q3⟩ := appV_list hK h hr 16 (by unfold roomBytes; omega)
    exact ⟨v', t', q1, q2, .inl q3⟩
  · have h2 : dotC.sz = 2 := rfl
    simp only [appV]
    rw [← h2, read_shown hr, read_len hr]
    simp only [aappend, if_true, h]
    by_cases h0 : m.length = 0
    · have : m = [] := List.length_eq_zero_iff.1 h0
      subst this
      exact ⟨_, _, if_pos (rfl : ([] : List Dot).length = 0), hK, .inr ⟨rfl, j, cs, rfl, h1, h⟩⟩
    · rw [if_neg h0, if_pos ⟨by omega, by simp at hb; unfold roomBytes; omega⟩]
      refine ⟨_, _, rfl, (hK.put .dead h1 (St.get_lt h)).push _, .inl (.inr ⟨t.next, by simp, by simpa using h0, hK.next, ?_⟩)⟩
      have := St.get_push_new (t.put j .dead) (.row (dotC.cells m) true)
      simpa using this
noncomputable def R_GrowV : Con := runFn (tb []) a164
theorem s_GrowV : SoundAt Tryz.prog 164 R_GrowV := run_sound (tb_sound (l := []) (by simp)) mixed Tryz.func164 k164 c164
theorem n_GrowV : noNxtC a164.body = true := by kernel_rfl
theorem w_GrowV {s : St} {n : Nat} (hn : n ≤ 4000000) : ∀ env : Env, elen env = a164.ntmps → (∀ i x_, [.nils, .int .i64 (n : Int)][i]? = some x_ → E env i = x_) → awp (tb []) a164.body (fun x e t => (∀ i, x ≠ .exit i) ∧ ∃ r, aresults e t a164.results = some r ∧ PreOwn s t r [] ∧ Keep s t) env s := by
  intro env hlen ha
  have h0 : E env 0 = _ := ha 0 _ rfl
  have h1 : E env 1 = _ := ha 1 _ rfl
  have hlen : elen env = _ := hlen
  simp only [a164] at hlen
  unfold a164
  try dsimp only [oO, oG]
  have hw := wrap_m0 (n := n) (by omega)
  have hz : ((n : Int) < 0) = False := eq_false (by omega)
  by_cases h0n : n = 0
  · have hz2 : ((0 : Int) < (n : Int)) = False := eq_false (by omega)
    simp (config := {contextual := true, maxDischargeDepth := 12}) only [tb_at, h0, h1, hlen, lenV_nils, hw, hz, hz2, ↓bD, bU, forall_const, bS, implies_true, isNx, eq_self, ↓wp_cond, ↓wp_loop, ↓reduceIte, reduceCtorEq, Nat.reduceEqDiff, Nat.reduceLT, Nat.reduceAdd, Nat.reduceMul, bT, ↓sg_bsl, ↓st_callf, bX, ap_mkfn, ae_callvV, callvV_fn, List.cons_append, List.nil_append, boxV_i, boxV_dot, sto_dot, ap_conv, convV_int, bslV_0, fstep_d0, fstep_d1, bsl_dot, ae_appz, ap_cap, capV_nils, slcV_nils0, slcV_sl0, wrap_0]
    exact ⟨_, rfl, .inl (.nil _ _ _)⟩
  · have hz2 : ((0 : Int) < (n : Int)) = True := eq_true (by omega)
    have ha := appz_nil (s := s) (n := n) (by omega) hn
    simp (config := {contextual := true, maxDischargeDepth := 12}) only [tb_at, h0, h1, hlen, lenV_nils, hw, hz, hz2, ha, ↓bD, bU, forall_const, bS, implies_true, isNx, eq_self, ↓wp_cond, ↓wp_loop, ↓reduceIte, reduceCtorEq, Nat.reduceEqDiff, Nat.reduceLT, Nat.reduceAdd, Nat.reduceMul, bT, ↓sg_bsl, ↓st_callf, bX, ap_mkfn, ae_callvV, callvV_fn, List.cons_append, List.nil_append, boxV_i, boxV_dot, sto_dot, ap_conv, convV_int, bslV_0, fstep_d0, fstep_d1, bsl_dot, ae_appz, ap_cap, capV_nils, slcV_nils0, slcV_sl0, wrap_0]
    exact ⟨_, rfl, .inr ⟨rfl, s.next, _, rfl, Nat.le_refl _, St.get_push_new _ _⟩⟩
theorem q_GrowV {s : St} {n : Nat} (hn : n ≤ 4000000) : ∃ w t, acall R_GrowV false [.nils, .int .i64 (n : Int)] s = some (w, t) ∧ PreOwn s t w [] ∧ Keep s t :=
  run_any n_GrowV (by simp [a164]) (fun r t t' hg hn hq => hq.mono fun id b hb => by rw [hg]; exact hb) (fun r t hgr hk hq => by
    rcases hq with hq | ⟨_, j, cs, rfl, _⟩
    · obtain ⟨rfl, _⟩ := hq.ground hgr
      exact .inl (.nil _ _ _)
    · cases hgr) (w_GrowV (s := lowd s) hn)
noncomputable def R_GrowD : Con := runFn (tb []) a155
theorem s_GrowD : SoundAt Tryz.prog 155 R_GrowD := run_sound (tb_sound (l := []) (by simp)) mixed Tryz.func155 k155 c155
theorem n_GrowD : noNxtC a155.body = true := by kernel_rfl
theorem w_GrowD {s : St} {n : Nat} (hn : n ≤ 4000000) : ∀ env : Env, elen env = a155.ntmps → (∀ i x_, [.nils, .int .i64 (n : Int)][i]? = some x_ → E env i = x_) → awp (tb []) a155.body (fun x e t => (∀ i, x ≠ .exit i) ∧ ∃ r, aresults e t a155.results = some r ∧ PreOwn s t r [] ∧ Keep s t) env s := by
  intro env hlen ha
  have h0 : E env 0 = _ := ha 0 _ rfl
  have h1 : E env 1 = _ := ha 1 _ rfl
  have hlen : elen env = _ := hlen
  simp only [a155] at hlen
  unfold a155
  try dsimp only [oO, oG]
  have hw := wrap_m0 (n := n) (by omega)
  have hz : ((n : Int) < 0) = False := eq_false (by omega)
  by_cases h0n : n = 0
  · have hz2 : ((0 : Int) < (n : Int)) = False := eq_false (by omega)
    simp (config := {contextual := true, maxDischargeDepth := 12}) only [tb_at, h0, h1, hlen, lenV_nils, hw, hz, hz2, ↓bD, bU, forall_const, bS, implies_true, isNx, eq_self, ↓wp_cond, ↓wp_loop, ↓reduceIte, reduceCtorEq, Nat.reduceEqDiff, Nat.reduceLT, Nat.reduceAdd, Nat.reduceMul, bT, ↓sg_bsl, ↓st_callf, bX, ap_mkfn, ae_callvV, callvV_fn, List.cons_append, List.nil_append, boxV_i, boxV_dot, sto_dot, ap_conv, convV_int, bslV_0, fstep_d0, fstep_d1, bsl_dot, ae_appz, ap_cap, capV_nils, slcV_nils0, slcV_sl0, wrap_0]
    exact ⟨_, rfl, .inl (.nil _ _ _)⟩
  · have hz2 : ((0 : Int) < (n : Int)) = True := eq_true (by omega)
    have ha := appz_nil (s := s) (n := n) (by omega) hn
    simp (config := {contextual := true, maxDischargeDepth := 12}) only [tb_at, h0, h1, hlen, lenV_nils, hw, hz, hz2, ha, ↓bD, bU, forall_const, bS, implies_true, isNx, eq_self, ↓wp_cond, ↓wp_loop, ↓reduceIte, reduceCtorEq, Nat.reduceEqDiff, Nat.reduceLT, Nat.reduceAdd, Nat.reduceMul, bT, ↓sg_bsl, ↓st_callf, bX, ap_mkfn, ae_callvV, callvV_fn, List.cons_append, List.nil_append, boxV_i, boxV_dot, sto_dot, ap_conv, convV_int, bslV_0, fstep_d0, fstep_d1, bsl_dot, ae_appz, ap_cap, capV_nils, slcV_nils0, slcV_sl0, wrap_0]
    exact ⟨_, rfl, .inr ⟨rfl, s.next, _, rfl, Nat.le_refl _, St.get_push_new _ _⟩⟩
theorem q_GrowD {s : St} {n : Nat} (hn : n ≤ 4000000) : ∃ w t, acall R_GrowD false [.nils, .int .i64 (n : Int)] s = some (w, t) ∧ PreOwn s t w [] ∧ Keep s t :=
  run_any n_GrowD (by simp [a155]) (fun r t t' hg hn hq => hq.mono fun id b hb => by rw [hg]; exact hb) (fun r t hgr hk hq => by
    rcases hq with hq | ⟨_, j, cs, rfl, _⟩
    · obtain ⟨rfl, _⟩ := hq.ground hgr
      exact .inl (.nil _ _ _)
    · cases hgr) (w_GrowD (s := lowd s) hn)

theorem two_facts {j : Nat} {a b : AV} {own : Bool} (h : t.get j = some (.row [a, b] own)) : iadV 1 (.sl j 0 2 (some 2) 1) (.int .i64 0) = some (.ptr j 0) ∧ iadV 1 (.sl j 0 2 (some 2) 1) (.int .i64 1) = some (.ptr j 1) := by
  constructor <;> simp [iadV]
theorem bsl2D {a b : AV} {la lb : List Dot} (ha : read dotC s a = some la) (hb : read dotC s b = some lb) : bslV [.nils, .nils] 2 1 [(0, a), (1, b)] = some (fun id => .sl id 0 2 (some 2) 1, .row [a, b] true) := by
  obtain ⟨a1, a2⟩ := read_oneD ha
  obtain ⟨b1, b2⟩ := read_oneD hb
  simp [bslV, fillP, aev, a1, a2, b1, b2, setAt]
theorem wrap_addn {n m : Nat} (h : n + m < 4611686018427387904) : IntKind.i64.wrap ((n : Int) + (m : Int)) = ((n + m : Nat) : Int) := by
  have := wrap_nat (n := n + m) h
  rwa [Int.natCast_add] at this ⊢
noncomputable def R_ConcV : Con := runFn (tb [(164, R_GrowV)]) a160
theorem s_ConcV : SoundAt Tryz.prog 160 R_ConcV := run_sound (tb_sound (l := [(164, R_GrowV)]) (by simpa using s_GrowV)) mixed Tryz.func160 k160 c160
theorem n_ConcV : noNxtC a160.body = true := by kernel_rfl
theorem w_ConcV {s : St} {j : Nat} {a b : AV} {la lb : List Dot} {own : Bool} (hj : s.get j = some (.row [a, b] own)) (hra : read dotC s a = some la) (hrb : read dotC s b = some lb) (hla : la.length ≤ lim) (hlb : lb.length ≤ lim) : ∀ env : Env, elen env = a160.ntmps → (∀ i x_, [.sl j 0 2 (some 2) 1][i]? = some x_ → E env i = x_) → awp (tb [(164, R_GrowV)]) a160.body (fun x e t => (∀ i, x ≠ .exit i) ∧ ∃ r, aresults e t a160.results = some r ∧ read dotC t r = some (la ++ lb) ∧ Keep s t) env s := by
  intro env hlen ha
  have h0 : E env 0 = _ := ha 0 _ rfl
  have hlen : elen env = _ := hlen
  simp only [a160] at hlen
  unfold a160
  try dsimp only [oO, oG]
  have hL2 : lenV (.sl j 0 2 (some 2) 1) = some (.int .i64 2) := rfl
  obtain ⟨j1, j2, jlt⟩ := row2_lod hj
  obtain ⟨x1, x2⟩ := two_facts hj
  have hLa := lenV_read hra
  have hLb := lenV_read hrb
  have wa : IntKind.i64.wrap (((0 : Nat) : Int) + (la.length : Int)) = (la.length : Int) := by
    have := wrap_addn (n := 0) (m := la.length) (by unfold lim at hla; omega)
    rwa [Nat.zero_add] at this
  have wb := wrap_addn (n := la.length) (m := lb.length) (by unfold lim at hla hlb; omega)
  have z1 : ((la.length : Int) < 0) = False := eq_false (by omega)
  have z2 : (((la.length + lb.length : Nat) : Int) < 0) = False := eq_false (by omega)
  simp (config := {contextual := true, maxDischargeDepth := 12}) only [tb_at, h0, hlen, hL2, ↓bD, bU, forall_const, bS, implies_true, isNx, eq_self, ↓wp_cond, ↓wp_loop, ↓reduceIte, reduceCtorEq, Nat.reduceEqDiff, Nat.reduceLT, Nat.reduceAdd, Nat.reduceMul, bT, ↓sg_bsl, ↓st_callf, bX, ap_mkfn, ae_callvV, callvV_fn, List.cons_append, List.nil_append, boxV_i, boxV_dot, sto_dot, ap_conv, convV_int, bslV_0, fstep_d0, fstep_d1, bsl_dot, ae_appz, ap_cap, capV_nils, slcV_nils0, slcV_sl0, wrap_0]
  obtain ⟨I, hI⟩ : ∃ I : Nat → Env → St → Prop, ∀ n e t, I n e t = (t = s ∧ ∃ i : Nat, n + i = 2 ∧ elen e = 36 ∧ E e 0 = .sl j 0 2 (some 2) 1 ∧ E e 9 = .sl j 0 2 (some 2) 1 ∧ E e 10 = .int .i64 2 ∧ E e 11 = .int .i64 (i : Int) ∧ E e 3 = .int .i64 (((if i = 0 then 0 else if i = 1 then la.length else la.length + lb.length) : Nat) : Int) ∧ i ≤ 2) := ⟨fun n e t => (t = s ∧ ∃ i : Nat, n + i = 2 ∧ elen e = 36 ∧ E e 0 = .sl j 0 2 (some 2) 1 ∧ E e 9 = .sl j 0 2 (some 2) 1 ∧ E e 10 = .int .i64 2 ∧ E e 11 = .int .i64 (i : Int) ∧ E e 3 = .int .i64 (((if i = 0 then 0 else if i = 1 then la.length else la.length + lb.length) : Nat) : Int) ∧ i ≤ 2), fun _ _ _ => rfl⟩
  refine lwp_inv I (n := 2) ?_ ?_
  · rw [hI]
    exact ⟨rfl, 0, by omega, (by simp only [bE, Nat.reduceEqDiff, bN, Nat.reduceLT, hlen]; try rfl), (by simp only [bE, Nat.reduceEqDiff, bN, Nat.reduceLT, hlen, h0]; try rfl), (by simp only [bE, Nat.reduceEqDiff, bN, Nat.reduceLT, hlen, h0]; try rfl), (by simp only [bE, Nat.reduceEqDiff, bN, Nat.reduceLT, hlen]; try rfl), (by simp only [bE, Nat.reduceEqDiff, bN, Nat.reduceLT, hlen]; try rfl), (by simp only [bE, Nat.reduceEqDiff, bN, Nat.reduceLT, hlen]; try rfl), by omega⟩
  intro n e t hi
  rw [hI] at hi
  obtain ⟨hK, i, hni, he, e0, e9, e10, e11, e3, hi2⟩ := hi
  have hK := hK.symm
  subst hK
  have w01 : IntKind.i64.wrap (0 + 1) = 1 := by decide
  have w11 : IntKind.i64.wrap (1 + 1) = 2 := by decide
  by_cases hi0 : i = 0
  · subst hi0
    have zz : (((0 : Nat) : Int) < 2) = True := eq_true (by decide)
    simp only [if_true] at e3
    have e11 : E e 11 = .int .i64 0 := e11
    simp (config := {contextual := true, maxDischargeDepth := 12}) only [tb_at, he, e0, e9, e10, e11, e3, hL2, zz, j1, jlt, x1, hLa, wa, z1, w01, Int.reduceLT, ↓bD, bU, forall_const, bS, implies_true, isNx, eq_self, ↓wp_cond, ↓wp_loop, ↓reduceIte, reduceCtorEq, Nat.reduceEqDiff, Nat.reduceLT, Nat.reduceAdd, Nat.reduceMul, bT, ↓sg_bsl, ↓st_callf, bX, ap_mkfn, ae_callvV, callvV_fn, List.cons_append, List.nil_append, boxV_i, boxV_dot, sto_dot, ap_conv, convV_int, bslV_0, fstep_d0, fstep_d1, bsl_dot, ae_appz, ap_cap, capV_nils, slcV_nils0, slcV_sl0, wrap_0]
    refine ⟨1, by omega, ?_⟩
    rw [hI]
    exact ⟨rfl, 1, by omega, (by simp only [bE, Nat.reduceEqDiff, bN, Nat.reduceLT, he, e0, e9, e10, e11, e3]; try rfl), (by simp only [bE, Nat.reduceEqDiff, bN, Nat.reduceLT, he, e0, e9, e10, e11, e3]; try rfl), (by simp only [bE, Nat.reduceEqDiff, bN, Nat.reduceLT, he, e0, e9, e10, e11, e3]; try rfl), (by simp only [bE, Nat.reduceEqDiff, bN, Nat.reduceLT, he, e0, e9, e10, e11, e3]; try rfl), (by simp only [bE, Nat.reduceEqDiff, bN, Nat.reduceLT, he, e0, e9, e10, e11, e3]; try rfl), (by simp only [bE, Nat.reduceEqDiff, bN, Nat.reduceLT, he, e0, e9, e10, e11, e3]; try rfl), by omega⟩
  by_cases hi1 : i = 1
  · subst hi1
    simp only [if_true, Nat.one_ne_zero, if_false] at e3
    have e11 : E e 11 = .int .i64 1 := e11
    simp (config := {contextual := true, maxDischargeDepth := 12}) only [tb_at, he, e0, e9, e10, e11, e3, hL2, j2, jlt, x2, hLb, wb, z2, w11, Int.reduceLT, ↓bD, bU, forall_const, bS, implies_true, isNx, eq_self, ↓wp_cond, ↓wp_loop, ↓reduceIte, reduceCtorEq, Nat.reduceEqDiff, Nat.reduceLT, Nat.reduceAdd, Nat.reduceMul, bT, ↓sg_bsl, ↓st_callf, bX, ap_mkfn, ae_callvV, callvV_fn, List.cons_append, List.nil_append, boxV_i, boxV_dot, sto_dot, ap_conv, convV_int, bslV_0, fstep_d0, fstep_d1, bsl_dot, ae_appz, ap_cap, capV_nils, slcV_nils0, slcV_sl0, wrap_0]
    refine ⟨0, by omega, ?_⟩
    rw [hI]
    exact ⟨rfl, 2, by omega, (by simp only [bE, Nat.reduceEqDiff, bN, Nat.reduceLT, he, e0, e9, e10, e11, e3]; try rfl), (by simp only [bE, Nat.reduceEqDiff, bN, Nat.reduceLT, he, e0, e9, e10, e11, e3]; try rfl), (by simp only [bE, Nat.reduceEqDiff, bN, Nat.reduceLT, he, e0, e9, e10, e11, e3]; try rfl), (by simp only [bE, Nat.reduceEqDiff, bN, Nat.reduceLT, he, e0, e9, e10, e11, e3]; try rfl), (by simp only [bE, Nat.reduceEqDiff, bN, Nat.reduceLT, he, e0, e9, e10, e11, e3]; try rfl), (by simp only [bE, Nat.reduceEqDiff, bN, Nat.reduceLT, he, e0, e9, e10, e11, e3]; try rfl), by omega⟩
  obtain rfl : i = 2 := by omega
  simp only [Nat.reduceEqDiff, if_false] at e3
  have e11 : E e 11 = .int .i64 2 := e11
  obtain ⟨w0, t1, hgr, hP0, hK1⟩ := q_GrowV (s := s) (n := la.length + lb.length) (by unfold lim at hla hlb; omega)
  simp (config := {contextual := true, maxDischargeDepth := 12}) only [tb_at, he, e0, e9, e10, e11, e3, hL2, hgr, Int.reduceLT, ↓bD, bU, forall_const, bS, implies_true, isNx, eq_self, ↓wp_cond, ↓wp_loop, ↓reduceIte, reduceCtorEq, Nat.reduceEqDiff, Nat.reduceLT, Nat.reduceAdd, Nat.reduceMul, bT, ↓sg_bsl, ↓st_callf, bX, ap_mkfn, ae_callvV, callvV_fn, List.cons_append, List.nil_append, boxV_i, boxV_dot, sto_dot, ap_conv, convV_int, bslV_0, fstep_d0, fstep_d1, bsl_dot, ae_appz, ap_cap, capV_nils, slcV_nils0, slcV_sl0, wrap_0]
  obtain ⟨I2, hI2⟩ : ∃ I : Nat → Env → St → Prop, ∀ n e t, I n e t = (Keep s t ∧ ∃ i : Nat, n + i = 2 ∧ elen e = 36 ∧ E e 25 = .sl j 0 2 (some 2) 1 ∧ E e 26 = .int .i64 2 ∧ E e 27 = .int .i64 (i : Int) ∧ i ≤ 2 ∧ PreOwn s t (E e 6) (if i = 0 then [] else if i = 1 then la else la ++ lb)) := ⟨fun n e t => (Keep s t ∧ ∃ i : Nat, n + i = 2 ∧ elen e = 36 ∧ E e 25 = .sl j 0 2 (some 2) 1 ∧ E e 26 = .int .i64 2 ∧ E e 27 = .int .i64 (i : Int) ∧ i ≤ 2 ∧ PreOwn s t (E e 6) (if i = 0 then [] else if i = 1 then la else la ++ lb)), fun _ _ _ => rfl⟩
  refine lwp_inv I2 (n := 2) ?_ ?_
  · rw [hI2]
    exact ⟨hK1, 0, by omega, (by simp only [bE, Nat.reduceEqDiff, bN, Nat.reduceLT, he]; try rfl), (by simp only [bE, Nat.reduceEqDiff, bN, Nat.reduceLT, he, e0]; try rfl), (by simp only [bE, Nat.reduceEqDiff, bN, Nat.reduceLT, he]; try rfl), (by simp only [bE, Nat.reduceEqDiff, bN, Nat.reduceLT, he]; try rfl), by omega, by simp only [bE, Nat.reduceEqDiff, bN, Nat.reduceLT, he]; exact hP0⟩
  clear e11 e3 he e0 hgr hP0 hK1
  intro n e t2 hi
  rw [hI2] at hi
  obtain ⟨hK, i, hni, he, e25, e26, e27, hi2, hP⟩ := hi
  have hj2 := hK.blk hj
  obtain ⟨j1, j2, jlt⟩ := row2_lod hj2
  by_cases hi0 : i = 0
  · subst hi0
    simp only [if_true] at hP
    have e27 : E e 27 = .int .i64 0 := e27
    obtain ⟨v', t', hap, hK', hP'⟩ := hP.app hK (hK.read hra) (by simp; unfold lim at hla; omega)
    simp (config := {contextual := true, maxDischargeDepth := 12}) only [tb_at, he, e25, e26, e27, j1, jlt, x1, hap, w01, Int.reduceLT, ↓bD, bU, forall_const, bS, implies_true, isNx, eq_self, ↓wp_cond, ↓wp_loop, ↓reduceIte, reduceCtorEq, Nat.reduceEqDiff, Nat.reduceLT, Nat.reduceAdd, Nat.reduceMul, bT, ↓sg_bsl, ↓st_callf, bX, ap_mkfn, ae_callvV, callvV_fn, List.cons_append, List.nil_append, boxV_i, boxV_dot, sto_dot, ap_conv, convV_int, bslV_0, fstep_d0, fstep_d1, bsl_dot, ae_appz, ap_cap, capV_nils, slcV_nils0, slcV_sl0, wrap_0]
    refine ⟨1, by omega, ?_⟩
    rw [hI2]
    exact ⟨hK', 1, by omega, (by simp only [bE, Nat.reduceEqDiff, bN, Nat.reduceLT, he]; try rfl), (by simp only [bE, Nat.reduceEqDiff, bN, Nat.reduceLT, he, e25]; try rfl), (by simp only [bE, Nat.reduceEqDiff, bN, Nat.reduceLT, he, e26]; try rfl), (by simp only [bE, Nat.reduceEqDiff, bN, Nat.reduceLT, he]; try rfl), by omega, by simp only [bE, Nat.reduceEqDiff, bN, Nat.reduceLT, he]; exact hP'⟩
  by_cases hi1 : i = 1
  · subst hi1
    simp only [if_true, Nat.one_ne_zero, if_false] at hP
    have e27 : E e 27 = .int .i64 1 := e27
    obtain ⟨v', t', hap, hK', hP'⟩ := hP.app hK (hK.read hrb) (by unfold lim at hla hlb; omega)
    simp (config := {contextual := true, maxDischargeDepth := 12}) only [tb_at, he, e25, e26, e27, j2, jlt, x2, hap, w11, Int.reduceLT, ↓bD, bU, forall_const, bS, implies_true, isNx, eq_self, ↓wp_cond, ↓wp_loop, ↓reduceIte, reduceCtorEq, Nat.reduceEqDiff, Nat.reduceLT, Nat.reduceAdd, Nat.reduceMul, bT, ↓sg_bsl, ↓st_callf, bX, ap_mkfn, ae_callvV, callvV_fn, List.cons_append, List.nil_append, boxV_i, boxV_dot, sto_dot, ap_conv, convV_int, bslV_0, fstep_d0, fstep_d1, bsl_dot, ae_appz, ap_cap, capV_nils, slcV_nils0, slcV_sl0, wrap_0]
    refine ⟨0, by omega, ?_⟩
    rw [hI2]
    exact ⟨hK', 2, by omega, (by simp only [bE, Nat.reduceEqDiff, bN, Nat.reduceLT, he]; try rfl), (by simp only [bE, Nat.reduceEqDiff, bN, Nat.reduceLT, he, e25]; try rfl), (by simp only [bE, Nat.reduceEqDiff, bN, Nat.reduceLT, he, e26]; try rfl), (by simp only [bE, Nat.reduceEqDiff, bN, Nat.reduceLT, he]; try rfl), by omega, by simp only [bE, Nat.reduceEqDiff, bN, Nat.reduceLT, he]; exact hP'⟩
  obtain rfl : i = 2 := by omega
  simp only [Nat.reduceEqDiff, if_false] at hP
  have e27 : E e 27 = .int .i64 2 := e27
  simp (config := {contextual := true, maxDischargeDepth := 12}) only [tb_at, he, e25, e26, e27, Int.reduceLT, ↓bD, bU, forall_const, bS, implies_true, isNx, eq_self, ↓wp_cond, ↓wp_loop, ↓reduceIte, reduceCtorEq, Nat.reduceEqDiff, Nat.reduceLT, Nat.reduceAdd, Nat.reduceMul, bT, ↓sg_bsl, ↓st_callf, bX, ap_mkfn, ae_callvV, callvV_fn, List.cons_append, List.nil_append, boxV_i, boxV_dot, sto_dot, ap_conv, convV_int, bslV_0, fstep_d0, fstep_d1, bsl_dot, ae_appz, ap_cap, capV_nils, slcV_nils0, slcV_sl0, wrap_0]
  first | exact ⟨_, rfl, hP.read, hK⟩ | exact ⟨hP.read, hK⟩
theorem q_ConcV {s : St} {j : Nat} {a b : AV} {la lb : List Dot} {own : Bool} (hj : s.get j = some (.row [a, b] own)) (hra : read dotC s a = some la) (hrb : read dotC s b = some lb) (hla : la.length ≤ lim) (hlb : lb.length ≤ lim) : ∃ w t, acall R_ConcV false [.sl j 0 2 (some 2) 1] s = some (w, t) ∧ read dotC t w = some (la ++ lb) ∧ Keep s t :=
  run_any n_ConcV (by simp [a160]) (fun r t t' hg hn hq => read_mono hq fun id b hrb => by rw [hg]; exact hrb) (fun r t hgr hk hq => by
    obtain ⟨rfl, h⟩ := read_ground hq hgr
    rw [h]; rfl) (w_ConcV (s := lowd s) hj (read_low' hra) (read_low' hrb) hla hlb)
noncomputable def R_ConcD : Con := runFn (tb [(155, R_GrowD)]) a137
theorem s_ConcD : SoundAt Tryz.prog 137 R_ConcD := run_sound (tb_sound (l := [(155, R_GrowD)]) (by simpa using s_GrowD)) mixed Tryz.func137 k137 c137
theorem n_ConcD : noNxtC a137.body = true := by kernel_rfl
theorem w_ConcD {s : St} {j : Nat} {a b : AV} {la lb : List Dot} {own : Bool} (hj : s.get j = some (.row [a, b] own)) (hra : read dotC s a = some la) (hrb : read dotC s b = some lb) (hla : la.length ≤ lim) (hlb : lb.length ≤ lim) : ∀ env : Env, elen env = a137.ntmps → (∀ i x_, [.sl j 0 2 (some 2) 1][i]? = some x_ → E env i = x_) → awp (tb [(155, R_GrowD)]) a137.body (fun x e t => (∀ i, x ≠ .exit i) ∧ ∃ r, aresults e t a137.results = some r ∧ read dotC t r = some (la ++ lb) ∧ Keep s t) env s := by
  intro env hlen ha
  have h0 : E env 0 = _ := ha 0 _ rfl
  have hlen : elen env = _ := hlen
  simp only [a137] at hlen
  unfold a137
  try dsimp only [oO, oG]
  have hL2 : lenV (.sl j 0 2 (some 2) 1) = some (.int .i64 2) := rfl
  obtain ⟨j1, j2, jlt⟩ := row2_lod hj
  obtain ⟨x1, x2⟩ := two_facts hj
  have hLa := lenV_read hra
  have hLb := lenV_read hrb
  have wa : IntKind.i64.wrap (((0 : Nat) : Int) + (la.length : Int)) = (la.length : Int) := by
    have := wrap_addn (n := 0) (m := la.length) (by unfold lim at hla; omega)
    rwa [Nat.zero_add] at this
  have wb := wrap_addn (n := la.length) (m := lb.length) (by unfold lim at hla hlb; omega)
  have z1 : ((la.length : Int) < 0) = False := eq_false (by omega)
  have z2 : (((la.length + lb.length : Nat) : Int) < 0) = False := eq_false (by omega)
  simp (config := {contextual := true, maxDischargeDepth := 12}) only [tb_at, h0, hlen, hL2, ↓bD, bU, forall_const, bS, implies_true, isNx, eq_self, ↓wp_cond, ↓wp_loop, ↓reduceIte, reduceCtorEq, Nat.reduceEqDiff, Nat.reduceLT, Nat.reduceAdd, Nat.reduceMul, bT, ↓sg_bsl, ↓st_callf, bX, ap_mkfn, ae_callvV, callvV_fn, List.cons_append, List.nil_append, boxV_i, boxV_dot, sto_dot, ap_conv, convV_int, bslV_0, fstep_d0, fstep_d1, bsl_dot, ae_appz, ap_cap, capV_nils, slcV_nils0, slcV_sl0, wrap_0]
  obtain ⟨I, hI⟩ : ∃ I : Nat → Env → St → Prop, ∀ n e t, I n e t = (t = s ∧ ∃ i : Nat, n + i = 2 ∧ elen e = 36 ∧ E e 0 = .sl j 0 2 (some 2) 1 ∧ E e 9 = .sl j 0 2 (some 2) 1 ∧ E e 10 = .int .i64 2 ∧ E e 11 = .int .i64 (i : Int) ∧ E e 3 = .int .i64 (((if i = 0 then 0 else if i = 1 then la.length else la.length + lb.length) : Nat) : Int) ∧ i ≤ 2) := ⟨fun n e t => (t = s ∧ ∃ i : Nat, n + i = 2 ∧ elen e = 36 ∧ E e 0 = .sl j 0 2 (some 2) 1 ∧ E e 9 = .sl j 0 2 (some 2) 1 ∧ E e 10 = .int .i64 2 ∧ E e 11 = .int .i64 (i : Int) ∧ E e 3 = .int .i64 (((if i = 0 then 0 else if i = 1 then la.length else la.length + lb.length) : Nat) : Int) ∧ i ≤ 2), fun _ _ _ => rfl⟩
  refine lwp_inv I (n := 2) ?_ ?_
  · rw [hI]
    exact ⟨rfl, 0, by omega, (by simp only [bE, Nat.reduceEqDiff, bN, Nat.reduceLT, hlen]; try rfl), (by simp only [bE, Nat.reduceEqDiff, bN, Nat.reduceLT, hlen, h0]; try rfl), (by simp only [bE, Nat.reduceEqDiff, bN, Nat.reduceLT, hlen, h0]; try rfl), (by simp only [bE, Nat.reduceEqDiff, bN, Nat.reduceLT, hlen]; try rfl), (by simp only [bE, Nat.reduceEqDiff, bN, Nat.reduceLT, hlen]; try rfl), (by simp only [bE, Nat.reduceEqDiff, bN, Nat.reduceLT, hlen]; try rfl), by omega⟩
  intro n e t hi
  rw [hI] at hi
  obtain ⟨hK, i, hni, he, e0, e9, e10, e11, e3, hi2⟩ := hi
  have hK := hK.symm
  subst hK
  have w01 : IntKind.i64.wrap (0 + 1) = 1 := by decide
  have w11 : IntKind.i64.wrap (1 + 1) = 2 := by decide
  by_cases hi0 : i = 0
  · subst hi0
    have zz : (((0 : Nat) : Int) < 2) = True := eq_true (by decide)
    simp only [if_true] at e3
    have e11 : E e 11 = .int .i64 0 := e11
    simp (config := {contextual := true, maxDischargeDepth := 12}) only [tb_at, he, e0, e9, e10, e11, e3, hL2, zz, j1, jlt, x1, hLa, wa, z1, w01, Int.reduceLT, ↓bD, bU, forall_const, bS, implies_true, isNx, eq_self, ↓wp_cond, ↓wp_loop, ↓reduceIte, reduceCtorEq, Nat.reduceEqDiff, Nat.reduceLT, Nat.reduceAdd, Nat.reduceMul, bT, ↓sg_bsl, ↓st_callf, bX, ap_mkfn, ae_callvV, callvV_fn, List.cons_append, List.nil_append, boxV_i, boxV_dot, sto_dot, ap_conv, convV_int, bslV_0, fstep_d0, fstep_d1, bsl_dot, ae_appz, ap_cap, capV_nils, slcV_nils0, slcV_sl0, wrap_0]
    refine ⟨1, by omega, ?_⟩
    rw [hI]
    exact ⟨rfl, 1, by omega, (by simp only [bE, Nat.reduceEqDiff, bN, Nat.reduceLT, he, e0, e9, e10, e11, e3]; try rfl), (by simp only [bE, Nat.reduceEqDiff, bN, Nat.reduceLT, he, e0, e9, e10, e11, e3]; try rfl), (by simp only [bE, Nat.reduceEqDiff, bN, Nat.reduceLT, he, e0, e9, e10, e11, e3]; try rfl), (by simp only [bE, Nat.reduceEqDiff, bN, Nat.reduceLT, he, e0, e9, e10, e11, e3]; try rfl), (by simp only [bE, Nat.reduceEqDiff, bN, Nat.reduceLT, he, e0, e9, e10, e11, e3]; try rfl), (by simp only [bE, Nat.reduceEqDiff, bN, Nat.reduceLT, he, e0, e9, e10, e11, e3]; try rfl), by omega⟩
  by_cases hi1 : i = 1
  · subst hi1
    simp only [if_true, Nat.one_ne_zero, if_false] at e3
    have e11 : E e 11 = .int .i64 1 := e11
    simp (config := {contextual := true, maxDischargeDepth := 12}) only [tb_at, he, e0, e9, e10, e11, e3, hL2, j2, jlt, x2, hLb, wb, z2, w11, Int.reduceLT, ↓bD, bU, forall_const, bS, implies_true, isNx, eq_self, ↓wp_cond, ↓wp_loop, ↓reduceIte, reduceCtorEq, Nat.reduceEqDiff, Nat.reduceLT, Nat.reduceAdd, Nat.reduceMul, bT, ↓sg_bsl, ↓st_callf, bX, ap_mkfn, ae_callvV, callvV_fn, List.cons_append, List.nil_append, boxV_i, boxV_dot, sto_dot, ap_conv, convV_int, bslV_0, fstep_d0, fstep_d1, bsl_dot, ae_appz, ap_cap, capV_nils, slcV_nils0, slcV_sl0, wrap_0]
    refine ⟨0, by omega, ?_⟩
    rw [hI]
    exact ⟨rfl, 2, by omega, (by simp only [bE, Nat.reduceEqDiff, bN, Nat.reduceLT, he, e0, e9, e10, e11, e3]; try rfl), (by simp only [bE, Nat.reduceEqDiff, bN, Nat.reduceLT, he, e0, e9, e10, e11, e3]; try rfl), (by simp only [bE, Nat.reduceEqDiff, bN, Nat.reduceLT, he, e0, e9, e10, e11, e3]; try rfl), (by simp only [bE, Nat.reduceEqDiff, bN, Nat.reduceLT, he, e0, e9, e10, e11, e3]; try rfl), (by simp only [bE, Nat.reduceEqDiff, bN, Nat.reduceLT, he, e0, e9, e10, e11, e3]; try rfl), (by simp only [bE, Nat.reduceEqDiff, bN, Nat.reduceLT, he, e0, e9, e10, e11, e3]; try rfl), by omega⟩
  obtain rfl : i = 2 := by omega
  simp only [Nat.reduceEqDiff, if_false] at e3
  have e11 : E e 11 = .int .i64 2 := e11
  obtain ⟨w0, t1, hgr, hP0, hK1⟩ := q_GrowD (s := s) (n := la.length + lb.length) (by unfold lim at hla hlb; omega)
  simp (config := {contextual := true, maxDischargeDepth := 12}) only [tb_at, he, e0, e9, e10, e11, e3, hL2, hgr, Int.reduceLT, ↓bD, bU, forall_const, bS, implies_true, isNx, eq_self, ↓wp_cond, ↓wp_loop, ↓reduceIte, reduceCtorEq, Nat.reduceEqDiff, Nat.reduceLT, Nat.reduceAdd, Nat.reduceMul, bT, ↓sg_bsl, ↓st_callf, bX, ap_mkfn, ae_callvV, callvV_fn, List.cons_append, List.nil_append, boxV_i, boxV_dot, sto_dot, ap_conv, convV_int, bslV_0, fstep_d0, fstep_d1, bsl_dot, ae_appz, ap_cap, capV_nils, slcV_nils0, slcV_sl0, wrap_0]
  obtain ⟨I2, hI2⟩ : ∃ I : Nat → Env → St → Prop, ∀ n e t, I n e t = (Keep s t ∧ ∃ i : Nat, n + i = 2 ∧ elen e = 36 ∧ E e 25 = .sl j 0 2 (some 2) 1 ∧ E e 26 = .int .i64 2 ∧ E e 27 = .int .i64 (i : Int) ∧ i ≤ 2 ∧ PreOwn s t (E e 6) (if i = 0 then [] else if i = 1 then la else la ++ lb)) := ⟨fun n e t => (Keep s t ∧ ∃ i : Nat, n + i = 2 ∧ elen e = 36 ∧ E e 25 = .sl j 0 2 (some 2) 1 ∧ E e 26 = .int .i64 2 ∧ E e 27 = .int .i64 (i : Int) ∧ i ≤ 2 ∧ PreOwn s t (E e 6) (if i = 0 then [] else if i = 1 then la else la ++ lb)), fun _ _ _ => rfl⟩
  refine lwp_inv I2 (n := 2) ?_ ?_
  · rw [hI2]
    exact ⟨hK1, 0, by omega, (by simp only [bE, Nat.reduceEqDiff, bN, Nat.reduceLT, he]; try rfl), (by simp only [bE, Nat.reduceEqDiff, bN, Nat.reduceLT, he, e0]; try rfl), (by simp only [bE, Nat.reduceEqDiff, bN, Nat.reduceLT, he]; try rfl), (by simp only [bE, Nat.reduceEqDiff, bN, Nat.reduceLT, he]; try rfl), by omega, by simp only [bE, Nat.reduceEqDiff, bN, Nat.reduceLT, he]; exact hP0⟩
  clear e11 e3 he e0 hgr hP0 hK1
  intro n e t2 hi
  rw [hI2] at hi
  obtain ⟨hK, i, hni, he, e25, e26, e27, hi2, hP⟩ := hi
  have hj2 := hK.blk hj
  obtain ⟨j1, j2, jlt⟩ := row2_lod hj2
  by_cases hi0 : i = 0
  · subst hi0
    simp only [if_true] at hP
    have e27 : E e 27 = .int .i64 0 := e27
    obtain ⟨v', t', hap, hK', hP'⟩ := hP.app hK (hK.read hra) (by simp; unfold lim at hla; omega)
    simp (config := {contextual := true, maxDischargeDepth := 12}) only [tb_at, he, e25, e26, e27, j1, jlt, x1, hap, w01, Int.reduceLT, ↓bD, bU, forall_const, bS, implies_true, isNx, eq_self, ↓wp_cond, ↓wp_loop, ↓reduceIte, reduceCtorEq, Nat.reduceEqDiff, Nat.reduceLT, Nat.reduceAdd, Nat.reduceMul, bT, ↓sg_bsl, ↓st_callf, bX, ap_mkfn, ae_callvV, callvV_fn, List.cons_append, List.nil_append, boxV_i, boxV_dot, sto_dot, ap_conv, convV_int, bslV_0, fstep_d0, fstep_d1, bsl_dot, ae_appz, ap_cap, capV_nils, slcV_nils0, slcV_sl0, wrap_0]
    refine ⟨1, by omega, ?_⟩
    rw [hI2]
    exact ⟨hK', 1, by omega, (by simp only [bE, Nat.reduceEqDiff, bN, Nat.reduceLT, he]; try rfl), (by simp only [bE, Nat.reduceEqDiff, bN, Nat.reduceLT, he, e25]; try rfl), (by simp only [bE, Nat.reduceEqDiff, bN, Nat.reduceLT, he, e26]; try rfl), (by simp only [bE, Nat.reduceEqDiff, bN, Nat.reduceLT, he]; try rfl), by omega, by simp only [bE, Nat.reduceEqDiff, bN, Nat.reduceLT, he]; exact hP'⟩
  by_cases hi1 : i = 1
  · subst hi1
    simp only [if_true, Nat.one_ne_zero, if_false] at hP
    have e27 : E e 27 = .int .i64 1 := e27
    obtain ⟨v', t', hap, hK', hP'⟩ := hP.app hK (hK.read hrb) (by unfold lim at hla hlb; omega)
    simp (config := {contextual := true, maxDischargeDepth := 12}) only [tb_at, he, e25, e26, e27, j2, jlt, x2, hap, w11, Int.reduceLT, ↓bD, bU, forall_const, bS, implies_true, isNx, eq_self, ↓wp_cond, ↓wp_loop, ↓reduceIte, reduceCtorEq, Nat.reduceEqDiff, Nat.reduceLT, Nat.reduceAdd, Nat.reduceMul, bT, ↓sg_bsl, ↓st_callf, bX, ap_mkfn, ae_callvV, callvV_fn, List.cons_append, List.nil_append, boxV_i, boxV_dot, sto_dot, ap_conv, convV_int, bslV_0, fstep_d0, fstep_d1, bsl_dot, ae_appz, ap_cap, capV_nils, slcV_nils0, slcV_sl0, wrap_0]
    refine ⟨0, by omega, ?_⟩
    rw [hI2]
    exact ⟨hK', 2, by omega, (by simp only [bE, Nat.reduceEqDiff, bN, Nat.reduceLT, he]; try rfl), (by simp only [bE, Nat.reduceEqDiff, bN, Nat.reduceLT, he, e25]; try rfl), (by simp only [bE, Nat.reduceEqDiff, bN, Nat.reduceLT, he, e26]; try rfl), (by simp only [bE, Nat.reduceEqDiff, bN, Nat.reduceLT, he]; try rfl), by omega, by simp only [bE, Nat.reduceEqDiff, bN, Nat.reduceLT, he]; exact hP'⟩
  obtain rfl : i = 2 := by omega
  simp only [Nat.reduceEqDiff, if_false] at hP
  have e27 : E e 27 = .int .i64 2 := e27
  simp (config := {contextual := true, maxDischargeDepth := 12}) only [tb_at, he, e25, e26, e27, Int.reduceLT, ↓bD, bU, forall_const, bS, implies_true, isNx, eq_self, ↓wp_cond, ↓wp_loop, ↓reduceIte, reduceCtorEq, Nat.reduceEqDiff, Nat.reduceLT, Nat.reduceAdd, Nat.reduceMul, bT, ↓sg_bsl, ↓st_callf, bX, ap_mkfn, ae_callvV, callvV_fn, List.cons_append, List.nil_append, boxV_i, boxV_dot, sto_dot, ap_conv, convV_int, bslV_0, fstep_d0, fstep_d1, bsl_dot, ae_appz, ap_cap, capV_nils, slcV_nils0, slcV_sl0, wrap_0]
  first | exact ⟨_, rfl, hP.read, hK⟩ | exact ⟨hP.read, hK⟩
theorem q_ConcD {s : St} {j : Nat} {a b : AV} {la lb : List Dot} {own : Bool} (hj : s.get j = some (.row [a, b] own)) (hra : read dotC s a = some la) (hrb : read dotC s b = some lb) (hla : la.length ≤ lim) (hlb : lb.length ≤ lim) : ∃ w t, acall R_ConcD false [.sl j 0 2 (some 2) 1] s = some (w, t) ∧ read dotC t w = some (la ++ lb) ∧ Keep s t :=
  run_any n_ConcD (by simp [a137]) (fun r t t' hg hn hq => read_mono hq fun id b hrb => by rw [hg]; exact hrb) (fun r t hgr hk hq => by
    obtain ⟨rfl, h⟩ := read_ground hq hgr
    rw [h]; rfl) (w_ConcD (s := lowd s) hj (read_low' hra) (read_low' hrb) hla hlb)
noncomputable def R_VMerge : Con := runFn (tb [(131, R_VValid), (160, R_ConcV), (159, conF dotC (pL dotC gMade))]) a154
theorem s_VMerge : SoundAt Tryz.prog 154 R_VMerge := run_sound (tb_sound (l := [(131, R_VValid), (160, R_ConcV), (159, conF dotC (pL dotC gMade))]) (by simpa using ⟨s_VValid, s_ConcV, s_VMade⟩)) mixed Tryz.func154 k154 c154
theorem n_VMerge : noNxtC a154.body = true := by kernel_rfl
theorem w_VMerge {s : St} {va vb : AV} {a b : List Dot} (hra : read dotC s va = some a) (hrb : read dotC s vb = some b) (hla : a.length ≤ 400000) (hlb : b.length ≤ 400000) (hva : vvalid a = true) (hvb : vvalid b = true) : ∀ env : Env, elen env = a154.ntmps → (∀ i x_, [va, vb][i]? = some x_ → E env i = x_) → awp (tb [(131, R_VValid), (160, R_ConcV), (159, conF dotC (pL dotC gMade))]) a154.body (fun x e t => (∀ i, x ≠ .exit i) ∧ Keep s t ∧ ∃ w, aresults e t a154.results = some (.tup [w, .int .i64 0]) ∧ Own dotC s t w (madeL (a ++ b))) env s := by
  intro env hlen ha
  have h0 : E env 0 = _ := ha 0 _ rfl
  have h1 : E env 1 = _ := ha 1 _ rfl
  have hlen : elen env = _ := hlen
  simp only [a154] at hlen
  unfold a154
  try dsimp only [oO, oG]
  have q1 := q_VValid false hra (by unfold lim; omega)
  have q2 := q_VValid false hrb (by unfold lim; omega)
  rw [hva] at q1
  rw [hvb] at q2
  have hbs := bsl2D hra hrb
  have hK1 : Keep s (s.push (.row [va, vb] true)) := (Keep.refl s).push _
  obtain ⟨w, t1, hc, hrw, hK2⟩ := q_ConcV (St.get_push_new s (.row [va, vb] true)) (hK1.read hra) (hK1.read hrb) (by unfold lim; omega) (by unfold lim; omega)
  obtain ⟨w2, t2, hm, hK3, hO⟩ := q_VMade hrw (by rw [List.length_append]; unfold lim; omega) (by rw [List.all_append, vvalid_all hva, vvalid_all hvb]; rfl)
  simp (config := {contextual := true, maxDischargeDepth := 12}) only [tb_at, h0, h1, hlen, q1, q2, hbs, hc, hm, notV_bool, ↓bD, bU, forall_const, bS, implies_true, isNx, eq_self, ↓wp_cond, ↓wp_loop, ↓reduceIte, reduceCtorEq, Nat.reduceEqDiff, Nat.reduceLT, Nat.reduceAdd, Nat.reduceMul, bT, ↓sg_bsl, ↓st_callf, bX, ap_mkfn, ae_callvV, callvV_fn, List.cons_append, List.nil_append, boxV_i, boxV_dot, sto_dot, ap_conv, convV_int, bslV_0, fstep_d0, fstep_d1, bsl_dot, ae_appz, ap_cap, capV_nils, slcV_nils0, slcV_sl0, wrap_0]
  have hn : s.next ≤ t1.next := (hK1.trans hK2).next
  exact ⟨(hK1.trans hK2).trans hK3, _, rfl, hO.from hn⟩
theorem q_VMerge {s : St} {va vb : AV} {a b : List Dot} (hra : read dotC s va = some a) (hrb : read dotC s vb = some b) (hla : a.length ≤ 400000) (hlb : b.length ≤ 400000) (hva : vvalid a = true) (hvb : vvalid b = true) : ∃ v t, acall R_VMerge false [va, vb] s = some (.tup [v, .int .i64 0], t) ∧ Own dotC s t v (madeL (a ++ b)) ∧ Keep s t := run_fresh n_VMerge (by simp [a154]) (fun v => .tup [v, .int .i64 0]) (fun _ _ _ _ _ => rfl) (w_VMerge (s := lowd s) (read_low' hra) (read_low' hrb) hla hlb hva hvb)

theorem raise_made {l : List Dot} {d : Dot} (h : vvalid l = true) : madeL (l ++ [d]) = raiseL l d := by
  rw [madeL_merge h]
  rfl
theorem vvalid_one {d : Dot} (h : d.valid = true) : vvalid [d] = true := by
  unfold vvalid
  simp [chain, h]
noncomputable def R_VRaise : Con := runFn (tb [(154, R_VMerge)]) a134
theorem s_VRaise : SoundAt Tryz.prog 134 R_VRaise := run_sound (tb_sound (l := [(154, R_VMerge)]) (by simpa using s_VMerge)) mixed Tryz.func134 k134 c134
theorem n_VRaise : noNxtC a134.body = true := by kernel_rfl
theorem w_VRaise {s : St} {vv : AV} {l : List Dot} (hr : read dotC s vv = some l) (hl : l.length ≤ 400000) (hv : vvalid l = true) {d : Dot} (hd : d.valid = true) : ∀ env : Env, elen env = a134.ntmps → (∀ i x_, [vv, .agg (Dot.av d)][i]? = some x_ → E env i = x_) → awp (tb [(154, R_VMerge)]) a134.body (fun x e t => (∀ i, x ≠ .exit i) ∧ Keep s t ∧ ∃ w, aresults e t a134.results = some (.tup [w, .int .i64 0]) ∧ Own dotC s t w (raiseL l d)) env s := by
  intro env hlen ha
  have h0 : E env 0 = _ := ha 0 _ rfl
  have h1 : E env 1 = _ := ha 1 _ rfl
  have hlen : elen env = _ := hlen
  simp only [a134] at hlen
  unfold a134
  try dsimp only [oO, oG]
  obtain ⟨b1, b2, b3, b4⟩ := box_dot s d (.refl _)
  have hK1 : Keep s ((s.push (.row (Dot.av d) true)).push (.row (Dot.av d) true)) := ((Keep.refl s).push _).push _
  have hr1 : read dotC ((s.push (.row (Dot.av d) true)).push (.row (Dot.av d) true)) (.sl (s.push (.row (Dot.av d) true)).next 0 1 (some 1) 2) = some [d] := by
    refine read_of (C := dotC) (n := 1) rfl (St.get_push_new _ _) (by simp [Dot.av, dotC]) ?_
    rw [cells_one]
    rfl
  obtain ⟨w, t, hq, hO, hK⟩ := q_VMerge (hK1.read hr) hr1 hl (by simp) hv (vvalid_one hd)
  rw [raise_made hv] at hO
  simp (config := {contextual := true, maxDischargeDepth := 12}) only [tb_at, h0, h1, hlen, b1, hq, ↓bD, bU, forall_const, bS, implies_true, isNx, eq_self, ↓wp_cond, ↓wp_loop, ↓reduceIte, reduceCtorEq, Nat.reduceEqDiff, Nat.reduceLT, Nat.reduceAdd, Nat.reduceMul, bT, ↓sg_bsl, ↓st_callf, bX, ap_mkfn, ae_callvV, callvV_fn, List.cons_append, List.nil_append, boxV_i, boxV_dot, sto_dot, ap_conv, convV_int, bslV_0, fstep_d0, fstep_d1, bsl_dot, ae_appz, ap_cap, capV_nils, slcV_nils0, slcV_sl0, wrap_0]
  exact ⟨hK1.trans hK, _, rfl, hO.from hK1.next⟩
theorem q_VRaise {s : St} {vv : AV} {l : List Dot} (hr : read dotC s vv = some l) (hl : l.length ≤ 400000) (hv : vvalid l = true) {d : Dot} (hd : d.valid = true) : ∃ v t, acall R_VRaise false [vv, .agg (Dot.av d)] s = some (.tup [v, .int .i64 0], t) ∧ Own dotC s t v (raiseL l d) ∧ Keep s t := run_fresh n_VRaise (by simp [a134]) (fun v => .tup [v, .int .i64 0]) (fun _ _ _ _ _ => rfl) (w_VRaise (s := lowd s) (read_low' hr) hl hv hd)

end Go.AM
end
/-
  slices.Compact at dots, dot.Set, dot.Union. Own work of this project; in part printed by a program of it.
-/
section
set_option linter.unusedVariables false
set_option linter.unusedSimpArgs false
set_option maxRecDepth 100000
set_option maxHeartbeats 8000000
namespace Go.AM
open Go Go.Proofs

variable {s t u : St}

/-! ### Elements of a list of one's own -/
theorem slc_own (j n k : Nat) (cap : Option Nat) (h : k ≤ n) (hc : CapOK (.sl j 0 n cap 2)) : slcV 2 (.sl j 0 n cap 2) (some (.int .i64 (k : Int))) none = some (.sl j (k * 2) (n - k) (cap.map (· - k)) 2) ∧ slcV 2 (.sl j 0 n cap 2) none (some (.int .i64 (k : Int))) = some (.sl j 0 k cap 2) := by
  cases cap with
  | none => constructor <;> simp [slcV, optNat, asNatIn, h]
  | some c =>
    have := hc _ _ _ _ _ rfl
    constructor
    · simp [slcV, optNat, asNatIn, h]
    · have hkc : k ≤ c := by omega
      simp [slcV, optNat, asNatIn, hkc]
theorem cells_setD : ∀ (l : List Dot) (k : Nat) (d : Dot), k < l.length → setAt (dotC.cells l) (k * 2) (Dot.av d) = dotC.cells (l.set k d)
  | [], k, d, h => by simp at h
  | x :: l, 0, d, h => by
    have e : dotC.enc x = Dot.av x := rfl
    simp [setAt, cells_cons, e, Dot.av, dotC]
  | x :: l, k + 1, d, h => by
    have ih := cells_setD l k d (by simpa using h)
    have e : dotC.enc x = Dot.av x := rfl
    have h2 : (Dot.av x).length = 2 := rfl
    rw [List.set_cons_succ, cells_cons, cells_cons, ← ih, e]
    simp only [setAt]
    have e1 : (k + 1) * 2 = (Dot.av x).length + k * 2 := by rw [h2]; omega
    have e2 : (k + 1) * 2 + (Dot.av d).length = (Dot.av x).length + (k * 2 + (Dot.av d).length) := by rw [h2]; omega
    rw [e2, e1]
    have e3 : List.take ((Dot.av x).length + k * 2) (Dot.av x) = Dot.av x := List.take_of_length_le (by omega)
    have e4 : List.drop ((Dot.av x).length + (k * 2 + (Dot.av d).length)) (Dot.av x) = [] := List.drop_eq_nil_of_le (by omega)
    simp [List.take_append, List.drop_append, e3, e4]
theorem zeros_cells (m : Nat) : zeros [.int .i64 0, .int .i64 0] m = dotC.cells (List.replicate m ⟨0, 0⟩) := by
  simp [zeros, Cod.cells, dotC, Dot.av]
theorem setAt_cells (l r : List Dot) (k : Nat) (h : k + r.length = l.length) : setAt (dotC.cells l) (k * 2) (dotC.cells r) = dotC.cells (l.take k ++ r) := by
  have hk : (dotC.cells (l.take k)).length = k * 2 := by
    rw [cells_len, List.length_take]
    have : dotC.sz = 2 := rfl
    rw [this, Nat.min_eq_left (by omega)]
  have hl : dotC.cells l = dotC.cells (l.take k) ++ dotC.cells (l.drop k) := by rw [← cells_append, List.take_append_drop]
  unfold setAt
  rw [cells_append, hl, ← hk, List.take_left]
  have : ((dotC.cells (l.take k)).length + (dotC.cells r).length) = (dotC.cells (l.take k) ++ dotC.cells (l.drop k)).length := by
    rw [List.length_append, cells_len, cells_len, cells_len, List.length_drop, List.length_take]
    have : r.length = l.length - k := by omega
    rw [this]
  rw [this, List.drop_length, List.append_nil]
def clrV (s : St) (z : List AV) (x : AV) : Option (AV × St) := match x with
    | .nils => some (.tup [], s)
    | .sl id off len _ sz =>
      if len = 0 then some (.tup [], s) else
      if sz = z.length then
        match s.get id with
        | some (.row cs true) => if off + len * sz ≤ cs.length then some (.tup [], s.put id (.row (setAt cs off (zeros z len)) true)) else none
        | _ => none
      else none
    | _ => none
theorem ae_clr {call : Nat → List AV → St → Option (AV × St)} {env : Env} (z : List AV) (x : AO) : aeff call env s (.clr z x) = clrV s z (aev env x) := nrfl (by
  simp only [aeff, clrV]
  cases aev env x <;> rfl)
theorem clr_own {j n k : Nat} {cap : Option Nat} {l : List Dot} (h : t.get j = some (.row (dotC.cells l) true)) (hn : n ≤ l.length) (hk : k < n) :
    clrV t [.int .i64 0, .int .i64 0] (.sl j (k * 2) (n - k) cap 2) = some (.tup [], t.put j (.row (setAt (dotC.cells l) (k * 2) (dotC.cells (List.replicate (n - k) ⟨0, 0⟩))) true)) := by
  have h2 : dotC.sz = 2 := rfl
  simp only [clrV]
  rw [if_neg (by omega), if_pos (by rfl), h]
  simp only
  rw [if_pos (by rw [cells_len, h2]; omega), zeros_cells]
theorem sto_own {j k : Nat} {l : List Dot} (h : t.get j = some (.row (dotC.cells l) true)) (hk : k < l.length) (d : Dot) : sto t 2 (.ptr j (k * 2)) (.agg (Dot.av d)) = some (.und, t.put j (.row (dotC.cells (l.set k d)) true)) := by
  have h2 : dotC.sz = 2 := rfl
  have hcond : (AV.agg (Dot.av d)).cells.length = 2 ∧ (AV.agg (Dot.av d)).cells.all AV.one = true ∧ k * 2 + 2 ≤ (dotC.cells l).length := ⟨rfl, rfl, by rw [cells_len, h2]; omega⟩
  simp only [sto, h]
  rw [if_pos hcond]
  show some (AV.und, t.put j (.row (setAt (dotC.cells l) (k * 2) (Dot.av d)) true)) = _
  rw [cells_setD l k d hk]
theorem iad_own {j n k : Nat} {cap : Option Nat} (off : Nat) (h : k < n) : iadV 2 (.sl j off n cap 2) (.int .i64 (k : Int)) = some (.ptr j (off + k * 2)) := iadV_nat h
theorem lod_own {j k : Nat} {l : List Dot} (h : t.get j = some (.row (dotC.cells l) true)) {d : Dot} (hd : l[k]? = some d) : lod t 2 (.ptr j (k * 2)) = some (.agg (Dot.av d)) := by
  have hk := getlt hd
  have h2 : dotC.sz = 2 := rfl
  simp only [lod, h]
  rw [if_pos (by rw [cells_len, h2]; omega)]
  have := cells_at dotC l k d hd 0 2 (by decide)
  rw [h2, Nat.add_zero, List.drop_zero] at this
  rw [this]
  rfl
/-! ### Neighbours once -/
theorem dedup_snoc : ∀ (m : List Dot) (x y : Dot), m.getLast? = some y → dedup (m ++ [x]) = if y = x then dedup m else dedup m ++ [x]
  | [], x, y, h => by simp at h
  | [a], x, y, h => by
    simp at h
    subst h
    simp only [List.cons_append, List.nil_append, dedup]
    split
    · rename_i e; rw [e]
    · rfl
  | a :: b :: r, x, y, h => by
    have ih := dedup_snoc (b :: r) x y (by simpa using h)
    simp only [List.cons_append] at ih ⊢
    rw [dedup, ih, dedup]
    by_cases e : a = b
    · rw [if_pos e, if_pos e]
    · rw [if_neg e, if_neg e]
      split <;> simp
theorem dedup_step {l : List Dot} {p : Nat} {x y : Dot} (hx : l[p + 1]? = some x) (hy : l[p]? = some y) : dedup (l.take (p + 2)) = if y = x then dedup (l.take (p + 1)) else dedup (l.take (p + 1)) ++ [x] := by
  rw [take_snoc hx]
  refine dedup_snoc _ x y ?_
  rw [take_snoc hy]
  simp
theorem dedup_chain {l : List Dot} (h : ∀ k x y, k + 1 < l.length → l[k]? = some x → l[k + 1]? = some y → x ≠ y) : ∀ i, i ≤ l.length → dedup (l.take i) = l.take i
  | 0, _ => rfl
  | 1, hi => by
    obtain ⟨x, hx⟩ := getsome (l := l) (i := 0) (by omega)
    rw [take_snoc hx]
    rfl
  | i + 2, hi => by
    obtain ⟨y, hy⟩ := getsome (l := l) (i := i) (by omega)
    obtain ⟨x, hx⟩ := getsome (l := l) (i := i + 1) (by omega)
    rw [dedup_step hx hy, if_neg (h i y x (by omega) hy hx), dedup_chain h (i + 1) (by omega), ← take_snoc hx]
noncomputable def R_CompD : Con := runFn (tb []) a98
theorem s_CompD : SoundAt Tryz.prog 98 R_CompD := run_sound (tb_sound (l := []) (by simp)) mixed Tryz.func98 k98 c98
theorem n_CompD : noNxtC a98.body = true := by kernel_rfl
theorem w_CompD {s : St} {s0 : St} {v : AV} {l : List Dot} (hN : NewX dotC s0 s v l) (hc : CapOK v) (hl : l.length ≤ lim) : ∀ env : Env, elen env = a98.ntmps → (∀ i x_, [v][i]? = some x_ → E env i = x_) → awp (tb []) a98.body (fun x e t => (∀ i, x ≠ .exit i) ∧ ∃ r, aresults e t a98.results = some r ∧ (NewR dotC s0 t r (dedup l) ∧ CapOK r) ∧ Chg (vids v) s t ∧ (v = .nils → r = .nils ∧ Keep s t) ∧ (v ≠ .nils → r.ground = false)) env s := by
  intro env hlen ha
  have h0 : E env 0 = _ := ha 0 _ rfl
  have hlen : elen env = _ := hlen
  simp only [a98] at hlen
  unfold a98
  try dsimp only [oO, oG]
  rcases hN with ⟨rfl, rfl⟩ | ⟨j, cap, rfl, hj0, hg⟩
  · have hz : ((0 : Int) < 2) = True := eq_true (by decide)
    simp (config := {contextual := true, maxDischargeDepth := 12}) only [tb_at, h0, hlen, lenV_nils, hz, ↓bD, bU, forall_const, bS, implies_true, isNx, eq_self, ↓wp_cond, ↓wp_loop, ↓reduceIte, reduceCtorEq, Nat.reduceEqDiff, Nat.reduceLT, Nat.reduceAdd, Nat.reduceMul, bT, ↓sg_bsl, ↓st_callf, bX, ap_mkfn, ae_callvV, callvV_fn, List.cons_append, List.nil_append, boxV_i, boxV_dot, sto_dot, ap_conv, convV_int, bslV_0, fstep_d0, fstep_d1, bsl_dot, ae_appz, ap_cap, capV_nils, slcV_nils0, slcV_sl0, wrap_0, ae_clr]
    exact ⟨_, rfl, ⟨.nil _ _ _, .nils⟩, (Keep.refl s).chg _, rfl, fun h => absurd trivial h⟩
  have hN : NewX dotC s0 s (.sl j 0 l.length cap 2) l := .inr ⟨j, cap, rfl, hj0, hg⟩
  have hr : read dotC s (.sl j 0 l.length cap 2) = some l := hN.read
  have hjl := St.get_lt hg
  have h2 : dotC.sz = 2 := rfl
  rw [h2] at h0 hc
  by_cases hlen2 : l.length < 2
  · have hz := eq_true (show (l.length : Int) < 2 by omega)
    have hd : dedup l = l := by
      match l, hlen2 with
      | [], _ => rfl
      | [x], _ => rfl
    simp (config := {contextual := true, maxDischargeDepth := 12}) only [tb_at, h0, hlen, lenV_sl, hz, ↓bD, bU, forall_const, bS, implies_true, isNx, eq_self, ↓wp_cond, ↓wp_loop, ↓reduceIte, reduceCtorEq, Nat.reduceEqDiff, Nat.reduceLT, Nat.reduceAdd, Nat.reduceMul, bT, ↓sg_bsl, ↓st_callf, bX, ap_mkfn, ae_callvV, callvV_fn, List.cons_append, List.nil_append, boxV_i, boxV_dot, sto_dot, ap_conv, convV_int, bslV_0, fstep_d0, fstep_d1, bsl_dot, ae_appz, ap_cap, capV_nils, slcV_nils0, slcV_sl0, wrap_0, ae_clr]
    exact ⟨_, rfl, ⟨by rw [hd]; exact hN.nw, hc⟩, (Keep.refl s).chg _, fun h => h.elim, rfl⟩
  · have hz := eq_false (show ¬ (l.length : Int) < 2 by omega)
    simp (config := {contextual := true, maxDischargeDepth := 12}) only [tb_at, h0, hlen, lenV_sl, hz, ↓bD, bU, forall_const, bS, implies_true, isNx, eq_self, ↓wp_cond, ↓wp_loop, ↓reduceIte, reduceCtorEq, Nat.reduceEqDiff, Nat.reduceLT, Nat.reduceAdd, Nat.reduceMul, bT, ↓sg_bsl, ↓st_callf, bX, ap_mkfn, ae_callvV, callvV_fn, List.cons_append, List.nil_append, boxV_i, boxV_dot, sto_dot, ap_conv, convV_int, bslV_0, fstep_d0, fstep_d1, bsl_dot, ae_appz, ap_cap, capV_nils, slcV_nils0, slcV_sl0, wrap_0, ae_clr]
    obtain ⟨I, hI⟩ : ∃ I : Nat → Env → St → Prop, ∀ n e t, I n e t = (t = s ∧ ∃ i : Nat, n + i = l.length ∧ elen e = 61 ∧ E e 0 = .sl j 0 l.length cap 2 ∧ E e 3 = .int .i64 ((i + 1 : Nat) : Int) ∧ ∀ k x y, k < i → l[k]? = some x → l[k + 1]? = some y → x ≠ y) := ⟨fun n e t => (t = s ∧ ∃ i : Nat, n + i = l.length ∧ elen e = 61 ∧ E e 0 = .sl j 0 l.length cap 2 ∧ E e 3 = .int .i64 ((i + 1 : Nat) : Int) ∧ ∀ k x y, k < i → l[k]? = some x → l[k + 1]? = some y → x ≠ y), fun _ _ _ => rfl⟩
    refine lwp_inv I (n := l.length) ?_ ?_
    · rw [hI]
      exact ⟨rfl, 0, by omega, (by simp only [bE, Nat.reduceEqDiff, bN, Nat.reduceLT, hlen]; try rfl), (by simp only [bE, Nat.reduceEqDiff, bN, Nat.reduceLT, hlen, h0]; try rfl), (by simp only [bE, Nat.reduceEqDiff, bN, Nat.reduceLT, hlen]; try rfl), fun k x y hk => by omega⟩
    intro n e t hi
    rw [hI] at hi
    obtain ⟨hK, i, hni, he, e0, e3, hpre⟩ := hi
    have hK := hK.symm
    subst hK
    by_cases hlt : i + 1 < l.length
    · obtain ⟨x, hx⟩ := getsome (l := l) (i := i) (by omega)
      obtain ⟨y, hy⟩ := getsome hlt
      have hw1 := wrap_sub1 (n := i) (by unfold lim at hl; omega)
      have hw2 := wrap_add1 (n := i + 1) (by unfold lim at hl; omega)
      have i1 := iad_own (j := j) (cap := cap) 0 (show i < l.length by omega)
      have i2 := iad_own (j := j) (cap := cap) 0 hlt
      rw [Nat.zero_add] at i1 i2
      have a1 := lod_own hg hx
      have b1 := lod_own hg hy
      by_cases hp : y = x
      · have hzz := eq_true hp
        obtain ⟨sl1, _⟩ := slc_own j l.length (i + 1) cap (by omega) hc
        simp (config := {contextual := true, maxDischargeDepth := 12}) only [tb_at, he, e0, e3, lenV_sl, hlt, hw1, hw2, i1, i2, a1, b1, hzz, reserve0, sl1, ↓bD, bU, forall_const, bS, implies_true, isNx, eq_self, ↓wp_cond, ↓wp_loop, ↓reduceIte, reduceCtorEq, Nat.reduceEqDiff, Nat.reduceLT, Nat.reduceAdd, Nat.reduceMul, bT, ↓sg_bsl, ↓st_callf, bX, ap_mkfn, ae_callvV, callvV_fn, List.cons_append, List.nil_append, boxV_i, boxV_dot, sto_dot, ap_conv, convV_int, bslV_0, fstep_d0, fstep_d1, bsl_dot, ae_appz, ap_cap, capV_nils, slcV_nils0, slcV_sl0, wrap_0, ae_clr]
        obtain ⟨I2, hI2⟩ : ∃ I : Nat → Env → St → Prop, ∀ n e t, I n e t = (Chg [j] s t ∧ ∃ (q k : Nat) (L : List Dot), n + (q + 1) = l.length ∧ elen e = 61 ∧ E e 0 = .sl j 0 l.length cap 2 ∧ E e 4 = .sl j ((i + 1) * 2) (l.length - (i + 1)) (cap.map (· - (i + 1))) 2 ∧ E e 5 = .int .i64 ((q - i : Nat) : Int) ∧ E e 3 = .int .i64 (k : Int) ∧ i + 1 ≤ q ∧ q + 1 ≤ l.length ∧ k ≤ q ∧ L.length = l.length ∧ t.get j = some (.row (dotC.cells L) true) ∧ L.take k = dedup (l.take (q + 1)) ∧ k = (dedup (l.take (q + 1))).length ∧ ∀ p, q ≤ p → L[p]? = l[p]?) := ⟨fun n e t => (Chg [j] s t ∧ ∃ (q k : Nat) (L : List Dot), n + (q + 1) = l.length ∧ elen e = 61 ∧ E e 0 = .sl j 0 l.length cap 2 ∧ E e 4 = .sl j ((i + 1) * 2) (l.length - (i + 1)) (cap.map (· - (i + 1))) 2 ∧ E e 5 = .int .i64 ((q - i : Nat) : Int) ∧ E e 3 = .int .i64 (k : Int) ∧ i + 1 ≤ q ∧ q + 1 ≤ l.length ∧ k ≤ q ∧ L.length = l.length ∧ t.get j = some (.row (dotC.cells L) true) ∧ L.take k = dedup (l.take (q + 1)) ∧ k = (dedup (l.take (q + 1))).length ∧ ∀ p, q ≤ p → L[p]? = l[p]?), fun _ _ _ => rfl⟩
        have hd1 : dedup (l.take (i + 1)) = l.take (i + 1) := by
          have := dedup_chain (l := l.take (i + 1)) (fun k a b hk ha hb => by
            rw [List.length_take] at hk
            rw [List.getElem?_take] at ha hb
            rw [if_pos (by omega)] at ha hb
            exact hpre k a b (by omega) ha hb) (i + 1) (by simp; omega)
          rwa [List.take_take, Nat.min_self] at this
        have hd2 : dedup (l.take (i + 2)) = l.take (i + 1) := by rw [dedup_step hy hx, if_pos hp.symm, hd1]
        refine lwp_inv I2 (n := l.length - (i + 2)) ?_ ?_
        · rw [hI2]
          exact ⟨(Keep.refl s).chg _, i + 1, i + 1, l, by omega, (by simp only [bE, Nat.reduceEqDiff, bN, Nat.reduceLT, he]; try rfl), (by simp only [bE, Nat.reduceEqDiff, bN, Nat.reduceLT, he, e0]; try rfl), (by simp only [bE, Nat.reduceEqDiff, bN, Nat.reduceLT, he]; try rfl), by simp only [bE, Nat.reduceEqDiff, bN, Nat.reduceLT, he]; rw [show i + 1 - i = 1 by omega]; rfl, (by simp only [bE, Nat.reduceEqDiff, bN, Nat.reduceLT, he, e3]; try rfl), by omega, by omega, by omega, rfl, hg, hd2.symm, by rw [hd2, List.length_take]; omega, fun _ _ => rfl⟩
        clear he e0 e3 a1 b1 hw1 hw2 i1 i2 hni hI
        intro n e t hi
        rw [hI2] at hi
        obtain ⟨hC, q, k, L, hni, he, e0, e4, e5, e3, hiq, hq, hkq, hLl, hgt, hLk, hkd, hrest⟩ := hi
        obtain ⟨m, hm⟩ : ∃ m, q - i = m + 1 := ⟨q - i - 1, by omega⟩
        rw [hm] at e5
        by_cases hlt2 : q + 1 < l.length
        · have hltm : m + 1 < l.length - (i + 1) := by omega
          obtain ⟨a, ha'⟩ := getsome hlt2
          obtain ⟨b, hb'⟩ := getsome (l := l) (i := q) (by omega)
          have i1 := iad_own (j := j) (cap := cap.map (· - (i + 1))) ((i + 1) * 2) hltm
          have i2 := iad_own (j := j) (cap := cap.map (· - (i + 1))) ((i + 1) * 2) (show m < l.length - (i + 1) by omega)
          rw [show (i + 1) * 2 + (m + 1) * 2 = (q + 1) * 2 by omega] at i1
          rw [show (i + 1) * 2 + m * 2 = q * 2 by omega] at i2
          have a1 := lod_own hgt (show L[q + 1]? = some a by rw [hrest _ (by omega)]; exact ha')
          have b1 := lod_own hgt (show L[q]? = some b by rw [hrest _ (by omega)]; exact hb')
          have hw1 := wrap_sub1 (n := m) (by unfold lim at hl; omega)
          have hw2 := wrap_add1 (n := m + 1) (by unfold lim at hl; omega)
          have hds := dedup_step ha' hb'
          by_cases hab : a = b
          · have hz2 := eq_true hab
            rw [if_pos hab.symm] at hds
            simp (config := {contextual := true, maxDischargeDepth := 12}) only [tb_at, he, e0, e4, e5, e3, lenV_sl, hltm, i1, i2, a1, b1, hw1, hw2, hz2, reserve0, ↓bD, bU, forall_const, bS, implies_true, isNx, eq_self, ↓wp_cond, ↓wp_loop, ↓reduceIte, reduceCtorEq, Nat.reduceEqDiff, Nat.reduceLT, Nat.reduceAdd, Nat.reduceMul, bT, ↓sg_bsl, ↓st_callf, bX, ap_mkfn, ae_callvV, callvV_fn, List.cons_append, List.nil_append, boxV_i, boxV_dot, sto_dot, ap_conv, convV_int, bslV_0, fstep_d0, fstep_d1, bsl_dot, ae_appz, ap_cap, capV_nils, slcV_nils0, slcV_sl0, wrap_0, ae_clr]
            refine ⟨n - 1, by omega, ?_⟩
            rw [hI2]
            exact ⟨hC, q + 1, k, L, by omega, (by simp only [bE, Nat.reduceEqDiff, bN, Nat.reduceLT, he]; try rfl), (by simp only [bE, Nat.reduceEqDiff, bN, Nat.reduceLT, he, e0]; try rfl), (by simp only [bE, Nat.reduceEqDiff, bN, Nat.reduceLT, he, e4]; try rfl), by simp only [bE, Nat.reduceEqDiff, bN, Nat.reduceLT, he]; rw [show q + 1 - i = m + 1 + 1 by omega]; try rfl, (by simp only [bE, Nat.reduceEqDiff, bN, Nat.reduceLT, he, e3]; try rfl), by omega, by omega, by omega, hLl, hgt, by rw [hLk, hds], by rw [hds]; exact hkd, fun p hp => hrest p (by omega)⟩
          · have hz2 := eq_false hab
            rw [if_neg (fun q => hab q.symm)] at hds
            have i3 := iad_own (j := j) (cap := cap) 0 (show k < l.length by omega)
            rw [Nat.zero_add] at i3
            have st1 := sto_own hgt (show k < L.length by omega) a
            have hw3 := wrap_add1 (n := k) (by unfold lim at hl; omega)
            simp (config := {contextual := true, maxDischargeDepth := 12}) only [tb_at, he, e0, e4, e5, e3, lenV_sl, hltm, i1, i2, i3, a1, b1, st1, hw1, hw2, hw3, hz2, reserve0, ↓bD, bU, forall_const, bS, implies_true, isNx, eq_self, ↓wp_cond, ↓wp_loop, ↓reduceIte, reduceCtorEq, Nat.reduceEqDiff, Nat.reduceLT, Nat.reduceAdd, Nat.reduceMul, bT, ↓sg_bsl, ↓st_callf, bX, ap_mkfn, ae_callvV, callvV_fn, List.cons_append, List.nil_append, boxV_i, boxV_dot, sto_dot, ap_conv, convV_int, bslV_0, fstep_d0, fstep_d1, bsl_dot, ae_appz, ap_cap, capV_nils, slcV_nils0, slcV_sl0, wrap_0, ae_clr]
            refine ⟨n - 1, by omega, ?_⟩
            rw [hI2]
            refine ⟨hC.put _ (.inl (by simp)) (St.get_lt hgt), q + 1, k + 1, L.set k a, by omega, (by simp only [bE, Nat.reduceEqDiff, bN, Nat.reduceLT, he]; try rfl), (by simp only [bE, Nat.reduceEqDiff, bN, Nat.reduceLT, he, e0]; try rfl), (by simp only [bE, Nat.reduceEqDiff, bN, Nat.reduceLT, he, e4]; try rfl), by simp only [bE, Nat.reduceEqDiff, bN, Nat.reduceLT, he]; rw [show q + 1 - i = m + 1 + 1 by omega]; try rfl, (by simp only [bE, Nat.reduceEqDiff, bN, Nat.reduceLT, he, e3]; try rfl), by omega, by omega, by omega, by rw [List.length_set]; exact hLl, St.get_put_same hgt, ?_, by rw [hds, List.length_append, ← hkd]; rfl, fun p hp => ?_⟩
            · rw [hds, ← hLk, List.take_add_one, List.getElem?_set_self (by omega), List.take_set_of_le (Nat.le_refl _)]
              rfl
            · rw [List.getElem?_set_ne (by omega)]
              exact hrest p (by omega)
        · have hnm : ¬ m + 1 < l.length - (i + 1) := by omega
          have hql : q + 1 = l.length := by omega
          rw [hql, List.take_length] at hLk hkd
          obtain ⟨sl2, sl3⟩ := slc_own j l.length k cap (by omega) hc
          have hcl := clr_own (cap := cap.map (· - k)) hgt (n := l.length) (k := k) (by omega) (by omega)
          rw [setAt_cells L _ k (by rw [List.length_replicate]; omega), hLk] at hcl
          simp (config := {contextual := true, maxDischargeDepth := 12}) only [tb_at, he, e0, e4, e5, e3, lenV_sl, hnm, sl2, sl3, hcl, ↓bD, bU, forall_const, bS, implies_true, isNx, eq_self, ↓wp_cond, ↓wp_loop, ↓reduceIte, reduceCtorEq, Nat.reduceEqDiff, Nat.reduceLT, Nat.reduceAdd, Nat.reduceMul, bT, ↓sg_bsl, ↓st_callf, bX, ap_mkfn, ae_callvV, callvV_fn, List.cons_append, List.nil_append, boxV_i, boxV_dot, sto_dot, ap_conv, convV_int, bslV_0, fstep_d0, fstep_d1, bsl_dot, ae_appz, ap_cap, capV_nils, slcV_nils0, slcV_sl0, wrap_0, ae_clr]
          refine ⟨_, rfl, ⟨.inr ⟨j, cap, List.replicate (l.length - k) ⟨0, 0⟩, by rw [← hkd]; rfl, hj0, St.get_put_same hgt⟩, fun _ _ _ c _ h => by injection h with _ _ h1 h2; subst h1; subst h2; have := hc _ _ _ c _ rfl; omega⟩, hC.put _ (.inl (by simp [vids])) (St.get_lt hgt), fun h => h.elim, rfl⟩
      · have hzz := eq_false hp
        simp (config := {contextual := true, maxDischargeDepth := 12}) only [tb_at, he, e0, e3, lenV_sl, hlt, hw1, hw2, i1, i2, a1, b1, hzz, reserve0, ↓bD, bU, forall_const, bS, implies_true, isNx, eq_self, ↓wp_cond, ↓wp_loop, ↓reduceIte, reduceCtorEq, Nat.reduceEqDiff, Nat.reduceLT, Nat.reduceAdd, Nat.reduceMul, bT, ↓sg_bsl, ↓st_callf, bX, ap_mkfn, ae_callvV, callvV_fn, List.cons_append, List.nil_append, boxV_i, boxV_dot, sto_dot, ap_conv, convV_int, bslV_0, fstep_d0, fstep_d1, bsl_dot, ae_appz, ap_cap, capV_nils, slcV_nils0, slcV_sl0, wrap_0, ae_clr]
        refine ⟨n - 1, by omega, ?_⟩
        rw [hI]
        refine ⟨rfl, i + 1, by omega, (by simp only [bE, Nat.reduceEqDiff, bN, Nat.reduceLT, he, e0, e3]; try rfl), (by simp only [bE, Nat.reduceEqDiff, bN, Nat.reduceLT, he, e0, e3]; try rfl), (by simp only [bE, Nat.reduceEqDiff, bN, Nat.reduceLT, he, e0, e3]; try rfl), fun k a b hk ha hb => ?_⟩
        by_cases ek : k = i
        · subst ek
          rw [hx] at ha; rw [hy] at hb
          injection ha with ha; injection hb with hb
          subst ha; subst hb
          exact fun q => hp q.symm
        · exact hpre k a b (by omega) ha hb
    · have hd : dedup l = l := by
        have := dedup_chain (l := l) (fun k a b hk ha hb => hpre k a b (by omega) ha hb) l.length (Nat.le_refl _)
        rwa [List.take_length] at this
      have hzz : ((((i + 1 : Nat) : Int)) < (l.length : Int)) = False := eq_false (by omega)
      simp (config := {contextual := true, maxDischargeDepth := 12}) only [tb_at, he, e0, e3, lenV_sl, hzz, ↓bD, bU, forall_const, bS, implies_true, isNx, eq_self, ↓wp_cond, ↓wp_loop, ↓reduceIte, reduceCtorEq, Nat.reduceEqDiff, Nat.reduceLT, Nat.reduceAdd, Nat.reduceMul, bT, ↓sg_bsl, ↓st_callf, bX, ap_mkfn, ae_callvV, callvV_fn, List.cons_append, List.nil_append, boxV_i, boxV_dot, sto_dot, ap_conv, convV_int, bslV_0, fstep_d0, fstep_d1, bsl_dot, ae_appz, ap_cap, capV_nils, slcV_nils0, slcV_sl0, wrap_0, ae_clr]
      exact ⟨_, rfl, ⟨by rw [hd]; exact hN.nw, hc⟩, (Keep.refl s).chg _, fun h => h.elim, rfl⟩

end Go.AM
end
/-
  dot.Set and dot.Union. Own work of this project; in part printed by a program of it.
-/
section
set_option linter.unusedVariables false
set_option linter.unusedSimpArgs false
set_option maxRecDepth 100000
set_option maxHeartbeats 8000000
namespace Go.AM
open Go Go.Proofs

variable {s t u : St}

theorem newX_vids {β : Type} {C : Cod β} {v : AV} {l : List β} (h : NewX C s t v l) : ∀ id ∈ vids v, s.next ≤ id := by
  rcases h with ⟨rfl, _⟩ | ⟨j, cap, rfl, h1, _⟩
  · simp [vids]
  · intro id hid
    simp [vids] at hid
    omega
theorem newR_vids {β : Type} {C : Cod β} {v : AV} {l : List β} (h : NewR C s t v l) : ∀ id ∈ vids v, s.next ≤ id := by
  rcases h with ⟨rfl, _⟩ | ⟨j, cap, rest, rfl, h1, _⟩
  · simp [vids]
  · intro id hid
    simp [vids] at hid
    omega
theorem q_CompD {s0 : St} {v : AV} {l : List Dot} (hN : NewX dotC s0 s v l) (hc : CapOK v) (hl : l.length ≤ lim) : ∃ w t, acall R_CompD false [v] s = some (w, t) ∧ (NewR dotC s0 t w (dedup l) ∧ CapOK w) ∧ Chg (vids v) s t := by
  obtain ⟨r, t, h1, h2, h3, h4, h5⟩ := run_awp n_CompD (args := [v]) (by simp [a98]) (Q := fun r t => (NewR dotC s0 t r (dedup l) ∧ CapOK r) ∧ Chg (vids v) (lowd s) t ∧ (v = .nils → r = .nils ∧ Keep (lowd s) t) ∧ (v ≠ .nils → r.ground = false)) (w_CompD (s := lowd s) (hN.mono fun _ _ h => h) hc hl)
  by_cases hv : v = .nils
  · obtain ⟨rfl, hk⟩ := h4 hv
    rcases hN with ⟨_, rfl⟩ | ⟨j, cap, e, _⟩
    · exact ⟨.nils, s, acall_same h1 hk rfl, ⟨.nil _ _ _, .nils⟩, (Keep.refl s).chg _⟩
    · rw [e] at hv; cases hv
  · obtain ⟨t', g1, g2, g3, g4⟩ := acall_new h1 h3 (.inl (h5 hv))
    exact ⟨r, t', g1, ⟨h2.1.mono fun id b hb => by rw [g2]; exact hb, h2.2⟩, g4⟩
noncomputable def R_DSet : Con := runFn (tb [(96, R_SClD), (97, R_SSortD), (98, R_CompD)]) a78
theorem s_DSet : SoundAt Tryz.prog 78 R_DSet := run_sound (tb_sound (l := [(96, R_SClD), (97, R_SSortD), (98, R_CompD)]) (by simpa using ⟨s_SClD, s_SSortD, s_CompD⟩)) mixed Tryz.func78 k78 c78
theorem n_DSet : noNxtC a78.body = true := by kernel_rfl
theorem w_DSet {s : St} {v : AV} {l : List Dot} (hr : read dotC s v = some l) (hl : l.length ≤ lim) : ∀ env : Env, elen env = a78.ntmps → (∀ i x_, [v][i]? = some x_ → E env i = x_) → awp (tb [(96, R_SClD), (97, R_SSortD), (98, R_CompD)]) a78.body (fun x e t => (∀ i, x ≠ .exit i) ∧ ∃ r, aresults e t a78.results = some r ∧ (NewR dotC s t r (setL l) ∧ CapOK r) ∧ Keep s t) env s := by
  intro env hlen ha
  have h0 : E env 0 = _ := ha 0 _ rfl
  have hlen : elen env = _ := hlen
  simp only [a78] at hlen
  unfold a78
  try dsimp only [oO, oG]
  obtain ⟨v1, t1, q1, ⟨hN1, hc1⟩, hK1⟩ := q_SClD hr hl
  obtain ⟨t2, q2, hN2, hC2⟩ := q_SSortD hN1 hl
  obtain ⟨w, t3, q3, ⟨hN3, hcw⟩, hC3⟩ := q_CompD hN2 hc1 (by rw [sortD_len]; exact hl)
  rw [dedup_sort] at hN3
  have hK2 := hK1.chgn hC2 (newX_vids hN1)
  have hK3 := hK2.chgn hC3 (newX_vids hN2)
  simp (config := {contextual := true, maxDischargeDepth := 12}) only [tb_at, h0, hlen, q1, q2, q3, ↓bD, bU, forall_const, bS, implies_true, isNx, eq_self, ↓wp_cond, ↓wp_loop, ↓reduceIte, reduceCtorEq, Nat.reduceEqDiff, Nat.reduceLT, Nat.reduceAdd, Nat.reduceMul, bT, ↓sg_bsl, ↓st_callf, bX, ap_mkfn, ae_callvV, callvV_fn, List.cons_append, List.nil_append, boxV_i, boxV_dot, sto_dot, ap_conv, convV_int, bslV_0, fstep_d0, fstep_d1, bsl_dot, ae_appz, ap_cap, capV_nils, slcV_nils0, slcV_sl0, wrap_0, ae_clr]
  exact ⟨_, rfl, ⟨hN3, hcw⟩, hK3⟩
theorem q_DSet {s : St} {v : AV} {l : List Dot} (hr : read dotC s v = some l) (hl : l.length ≤ lim) : ∃ w t, acall R_DSet false [v] s = some (w, t) ∧ (NewR dotC s t w (setL l) ∧ CapOK w) ∧ Keep s t :=
  run_any n_DSet (by simp [a78]) (fun r t t' hg hn hq => ⟨hq.1.mono fun id b hb => by rw [hg]; exact hb, hq.2⟩) (fun r t hgr hk hq => by
    obtain ⟨rfl, h⟩ := hq.1.ground hgr
    rw [h]
    exact ⟨.nil _ _ _, .nils⟩) (w_DSet (s := lowd s) (read_low' hr) hl)
noncomputable def R_DU1 : Con := runFn (tb []) a135
theorem s_DU1 : SoundAt Tryz.prog 135 R_DU1 := run_sound (tb_sound (l := []) (by simp)) mixed Tryz.func135 k135 c135
theorem n_DU1 : noNxtC a135.body = true := by kernel_rfl
theorem w_DU1 {s : St} (d : Dot) : ∀ env : Env, elen env = a135.ntmps → (∀ i x_, [.agg (Dot.av d)][i]? = some x_ → E env i = x_) → awp (tb []) a135.body (fun x e t => (∀ i, x ≠ .exit i) ∧ aresults e t a135.results = some (.bool true) ∧ Keep s t) env s := by
  intro env hlen ha
  have h0 : E env 0 = _ := ha 0 _ rfl
  have hlen : elen env = _ := hlen
  simp only [a135] at hlen
  unfold a135
  try dsimp only [oO, oG]
  simp (config := {contextual := true, maxDischargeDepth := 12}) only [tb_at, h0, hlen, ↓bD, bU, forall_const, bS, implies_true, isNx, eq_self, ↓wp_cond, ↓wp_loop, ↓reduceIte, reduceCtorEq, Nat.reduceEqDiff, Nat.reduceLT, Nat.reduceAdd, Nat.reduceMul, bT, ↓sg_bsl, ↓st_callf, bX, ap_mkfn, ae_callvV, callvV_fn, List.cons_append, List.nil_append, boxV_i, boxV_dot, sto_dot, ap_conv, convV_int, bslV_0, fstep_d0, fstep_d1, bsl_dot, ae_appz, ap_cap, capV_nils, slcV_nils0, slcV_sl0, wrap_0, ae_clr]
  all_goals exact (Keep.refl s).push _
theorem q_DU1 (cl : Bool) {s : St} (d : Dot) : acall R_DU1 cl [.agg (Dot.av d)] s = some (.bool true, s) := run_same n_DU1 (by simp [a135]) rfl (w_DU1 (s := lowd s) d)

theorem boxV_f (f : Nat) : boxV 1 (.agg [.fn f []]) = some (fun id => .ptr id 0, .row [.fn f []] true) := nrfl rfl
theorem fstep_f (f : Nat) (K : List AV → Option (List AV)) : fstep [.nilf] 0 1 (.fn f []) K = K [.fn f []] := nrfl rfl
theorem box_fn (s : St) (f : Nat) (hK : Keep (s.push (.row [.fn f []] true)) t) : lod1 t (.ptr s.next 0) = some (.fn f []) ∧ ltN s.next t := by
  have h := hK.blk (St.get_push_new s (.row [.fn f []] true))
  exact ⟨by simp [lod1, h], St.get_lt h⟩
noncomputable def R_ChOf : Con := runFn (tb [(78, R_DSet), (135, R_DU1)]) a136
theorem s_ChOf : SoundAt Tryz.prog 136 R_ChOf := run_sound (tb_sound (l := [(78, R_DSet), (135, R_DU1)]) (by simpa using ⟨s_DSet, s_DU1⟩)) mixed Tryz.func136 k136 c136
theorem n_ChOf : noNxtC a136.body = true := by kernel_rfl
theorem w_ChOf {s : St} {v : AV} {l : List Dot} (hr : read dotC s v = some l) (hl : l.length ≤ lim) : ∀ env : Env, elen env = a136.ntmps → (∀ i x_, [.agg [.fn 135 []], v][i]? = some x_ → E env i = x_) → awp (tb [(78, R_DSet), (135, R_DU1)]) a136.body (fun x e t => (∀ i, x ≠ .exit i) ∧ ∃ r, aresults e t a136.results = some r ∧ NewR dotC s t r (setL l) ∧ Keep s t) env s := by
  intro env hlen ha
  have h0 : E env 0 = _ := ha 0 _ rfl
  have h1 : E env 1 = _ := ha 1 _ rfl
  have hlen : elen env = _ := hlen
  simp only [a136] at hlen
  unfold a136
  try dsimp only [oO, oG]
  have hL := lenV_read hr
  simp (config := {contextual := true, maxDischargeDepth := 12}) only [tb_at, h0, h1, hlen, hL, ↓bD, bU, forall_const, bS, implies_true, isNx, eq_self, ↓wp_cond, ↓wp_loop, ↓reduceIte, reduceCtorEq, Nat.reduceEqDiff, Nat.reduceLT, Nat.reduceAdd, Nat.reduceMul, bT, ↓sg_bsl, ↓st_callf, bX, ap_mkfn, ae_callvV, callvV_fn, List.cons_append, List.nil_append, boxV_i, boxV_dot, sto_dot, ap_conv, convV_int, bslV_0, fstep_d0, fstep_d1, bsl_dot, ae_appz, ap_cap, capV_nils, slcV_nils0, slcV_sl0, wrap_0, ae_clr, boxV_f, fstep_f]
  obtain ⟨I, hI⟩ : ∃ I : Nat → Env → St → Prop, ∀ n e t, I n e t = (Keep (s.push (.row [.fn 135 []] true)) t ∧ ∃ i : Nat, n + i = l.length ∧ elen e = 25 ∧ E e 2 = .ptr s.next 0 ∧ E e 8 = v ∧ E e 9 = .int .i64 (l.length : Int) ∧ E e 10 = .int .i64 (i : Int) ∧ Own dotC (s.push (.row [.fn 135 []] true)) t (E e 5) (l.take i)) := ⟨fun n e t => (Keep (s.push (.row [.fn 135 []] true)) t ∧ ∃ i : Nat, n + i = l.length ∧ elen e = 25 ∧ E e 2 = .ptr s.next 0 ∧ E e 8 = v ∧ E e 9 = .int .i64 (l.length : Int) ∧ E e 10 = .int .i64 (i : Int) ∧ Own dotC (s.push (.row [.fn 135 []] true)) t (E e 5) (l.take i)), fun _ _ _ => rfl⟩
  refine lwp_inv I (n := l.length) ?_ ?_
  · rw [hI]
    exact ⟨.refl _, 0, by omega, (by simp only [bE, Nat.reduceEqDiff, bN, Nat.reduceLT, hlen]; try rfl), (by simp only [bE, Nat.reduceEqDiff, bN, Nat.reduceLT, hlen]; try rfl), (by simp only [bE, Nat.reduceEqDiff, bN, Nat.reduceLT, hlen, h1]; try rfl), (by simp only [bE, Nat.reduceEqDiff, bN, Nat.reduceLT, hlen, hL]; try rfl), (by simp only [bE, Nat.reduceEqDiff, bN, Nat.reduceLT, hlen]; try rfl), by simp only [bE, Nat.reduceEqDiff, bN, Nat.reduceLT, hlen]; exact .nil _ _ _⟩
  intro n e t hi
  rw [hI] at hi
  obtain ⟨hK, i, hni, he, e2, e8, e9, e10, hO⟩ := hi
  obtain ⟨f1, f2⟩ := box_fn s _ hK
  have hKs : Keep s t := ((Keep.refl s).push _).trans hK
  by_cases hlt : i < l.length
  · obtain ⟨x, hx⟩ := getsome hlt
    have hw2 := wrap_add1 (n := i) (by unfold lim at hl; omega)
    obtain ⟨a1, a2, a3, a4⟩ := dot_lods hr hKs hx
    have i1 := dot_idx hr hx .i64
    have hq := q_DU1 false x (s := t.lowed.push (.row (Dot.av x) true))
    obtain ⟨v', t', hap, hK', hO'⟩ := appV_one (C := dotC) (hK.lowed.push (.row (Dot.av x) true)) (Own.push hO.lowed _) x 16 (by rw [List.length_take]; unfold lim at hl; simp [roomBytes]; omega)
    have hap : appV ((t.lowed.push (.row (Dot.av x) true)).push (.row (Dot.av x) true)) 2 16 (E e 5) (.sl (t.lowed.push (.row (Dot.av x) true)).next 0 1 (some 1) 2) = some (v', t') := hap
    simp (config := {contextual := true, maxDischargeDepth := 12}) only [tb_at, he, e2, e8, e9, e10, hL, hlt, hw2, a1, a4, i1, f1, f2, hq, hap, ↓bD, bU, forall_const, bS, implies_true, isNx, eq_self, ↓wp_cond, ↓wp_loop, ↓reduceIte, reduceCtorEq, Nat.reduceEqDiff, Nat.reduceLT, Nat.reduceAdd, Nat.reduceMul, bT, ↓sg_bsl, ↓st_callf, bX, ap_mkfn, ae_callvV, callvV_fn, List.cons_append, List.nil_append, boxV_i, boxV_dot, sto_dot, ap_conv, convV_int, bslV_0, fstep_d0, fstep_d1, bsl_dot, ae_appz, ap_cap, capV_nils, slcV_nils0, slcV_sl0, wrap_0, ae_clr, boxV_f, fstep_f]
    refine ⟨n - 1, by omega, ?_⟩
    rw [hI]
    exact ⟨hK', i + 1, by omega, (by simp only [bE, Nat.reduceEqDiff, bN, Nat.reduceLT, he, e2, e8, e9, e10]; try rfl), (by simp only [bE, Nat.reduceEqDiff, bN, Nat.reduceLT, he, e2, e8, e9, e10]; try rfl), (by simp only [bE, Nat.reduceEqDiff, bN, Nat.reduceLT, he, e2, e8, e9, e10]; try rfl), (by simp only [bE, Nat.reduceEqDiff, bN, Nat.reduceLT, he, e2, e8, e9, e10]; try rfl), (by simp only [bE, Nat.reduceEqDiff, bN, Nat.reduceLT, he, e2, e8, e9, e10]; try rfl), by simp only [bE, Nat.reduceEqDiff, bN, Nat.reduceLT, he]; rw [take_snoc hx]; exact hO'⟩
  · obtain rfl : i = l.length := by omega
    rw [List.take_length] at hO
    obtain ⟨w, t3, q3, ⟨hN3, _⟩, hK3⟩ := q_DSet hO.read hl
    simp (config := {contextual := true, maxDischargeDepth := 12}) only [tb_at, he, e2, e8, e9, e10, hL, hlt, q3, ↓bD, bU, forall_const, bS, implies_true, isNx, eq_self, ↓wp_cond, ↓wp_loop, ↓reduceIte, reduceCtorEq, Nat.reduceEqDiff, Nat.reduceLT, Nat.reduceAdd, Nat.reduceMul, bT, ↓sg_bsl, ↓st_callf, bX, ap_mkfn, ae_callvV, callvV_fn, List.cons_append, List.nil_append, boxV_i, boxV_dot, sto_dot, ap_conv, convV_int, bslV_0, fstep_d0, fstep_d1, bsl_dot, ae_appz, ap_cap, capV_nils, slcV_nils0, slcV_sl0, wrap_0, ae_clr, boxV_f, fstep_f]
    exact ⟨_, rfl, hN3.from hKs.next, hKs.trans hK3⟩
theorem q_ChOf {s : St} {v : AV} {l : List Dot} (hr : read dotC s v = some l) (hl : l.length ≤ lim) : ∃ w t, acall R_ChOf false [.agg [.fn 135 []], v] s = some (w, t) ∧ NewR dotC s t w (setL l) ∧ Keep s t :=
  run_any n_ChOf (by simp [a136]) (fun r t t' hg hn hq => hq.mono fun id b hb => by rw [hg]; exact hb) (fun r t hgr hk hq => by
    obtain ⟨rfl, h⟩ := hq.ground hgr
    rw [h]
    exact .nil _ _ _) (w_ChOf (s := lowd s) (read_low' hr) hl)
noncomputable def R_DUnion : Con := runFn (tb [(137, R_ConcD), (136, R_ChOf)]) a120
theorem s_DUnion : SoundAt Tryz.prog 120 R_DUnion := run_sound (tb_sound (l := [(137, R_ConcD), (136, R_ChOf)]) (by simpa using ⟨s_ConcD, s_ChOf⟩)) mixed Tryz.func120 k120 c120
theorem n_DUnion : noNxtC a120.body = true := by kernel_rfl
theorem w_DUnion {s : St} {va vb : AV} {a b : List Dot} (hra : read dotC s va = some a) (hrb : read dotC s vb = some b) (hla : a.length ≤ 400000) (hlb : b.length ≤ 400000) : ∀ env : Env, elen env = a120.ntmps → (∀ i x_, [va, vb][i]? = some x_ → E env i = x_) → awp (tb [(137, R_ConcD), (136, R_ChOf)]) a120.body (fun x e t => (∀ i, x ≠ .exit i) ∧ ∃ r, aresults e t a120.results = some r ∧ NewR dotC s t r (setL (a ++ b)) ∧ Keep s t) env s := by
  intro env hlen ha
  have h0 : E env 0 = _ := ha 0 _ rfl
  have h1 : E env 1 = _ := ha 1 _ rfl
  have hlen : elen env = _ := hlen
  simp only [a120] at hlen
  unfold a120
  try dsimp only [oO, oG]
  have hbs := bsl2D hra hrb
  have hK1 : Keep s (s.push (.row [va, vb] true)) := (Keep.refl s).push _
  obtain ⟨w, t1, hc, hrw, hK2⟩ := q_ConcD (St.get_push_new s (.row [va, vb] true)) (hK1.read hra) (hK1.read hrb) (by unfold lim; omega) (by unfold lim; omega)
  obtain ⟨w2, t2, hm, hN, hK3⟩ := q_ChOf hrw (by rw [List.length_append]; unfold lim; omega)
  simp (config := {contextual := true, maxDischargeDepth := 12}) only [tb_at, h0, h1, hlen, hbs, hc, hm, ↓bD, bU, forall_const, bS, implies_true, isNx, eq_self, ↓wp_cond, ↓wp_loop, ↓reduceIte, reduceCtorEq, Nat.reduceEqDiff, Nat.reduceLT, Nat.reduceAdd, Nat.reduceMul, bT, ↓sg_bsl, ↓st_callf, bX, ap_mkfn, ae_callvV, callvV_fn, List.cons_append, List.nil_append, boxV_i, boxV_dot, sto_dot, ap_conv, convV_int, bslV_0, fstep_d0, fstep_d1, bsl_dot, ae_appz, ap_cap, capV_nils, slcV_nils0, slcV_sl0, wrap_0, ae_clr, boxV_f, fstep_f]
  exact ⟨_, rfl, hN.from (hK1.trans hK2).next, (hK1.trans hK2).trans hK3⟩
theorem q_DUnion {s : St} {va vb : AV} {a b : List Dot} (hra : read dotC s va = some a) (hrb : read dotC s vb = some b) (hla : a.length ≤ 400000) (hlb : b.length ≤ 400000) : ∃ w t, acall R_DUnion false [va, vb] s = some (w, t) ∧ NewR dotC s t w (setL (a ++ b)) ∧ Keep s t :=
  run_any n_DUnion (by simp [a120]) (fun r t t' hg hn hq => hq.mono fun id b hb => by rw [hg]; exact hb) (fun r t hgr hk hq => by
    obtain ⟨rfl, h⟩ := hq.ground hgr
    rw [h]
    exact .nil _ _ _) (w_DUnion (s := lowd s) (read_low' hra) (read_low' hrb) hla hlb)

end Go.AM
end
/-
  context.Compact, Add, Of, Union, Within, Size. Own work of this project; in part printed by a program of it.
-/
section
set_option linter.unusedVariables false
set_option linter.unusedSimpArgs false
set_option maxRecDepth 100000
set_option maxHeartbeats 8000000
namespace Go.AM
open Go Go.Proofs

variable {s t u : St}

theorem app1D {v : AV} {l : List Dot} (h : Own dotC s t v l) (x : Dot) (hb : l.length + 1 ≤ 4000000) : ∃ t', appV (t.push (.row (Dot.av x) true)) 2 16 v (.sl t.next 0 1 (some 1) 2) = some (.sl (t.next + 1) 0 (l.length + 1) none 2, t') ∧ t'.get (t.next + 1) = some (.row (dotC.cells (l ++ [x])) true) ∧ Chg (vids v) t t' ∧ t'.next = t.next + 2 := by
  have hr : read dotC (t.push (.row (Dot.av x) true)) (.sl t.next 0 1 (some 1) 2) = some [x] := by
    refine read_of (C := dotC) (n := 1) rfl (St.get_push_new _ _) (by simp [Dot.av, dotC]) ?_
    rw [cells_one]
    rfl
  have h2 : dotC.sz = 2 := rfl
  have hs1 : shown (t.push (.row (Dot.av x) true)) 2 (.sl t.next 0 1 (some 1) 2) = some (dotC.cells [x]) := read_shown hr
  have hs2 : lenOf (.sl t.next 0 1 (some 1) 2) = some 1 := rfl
  simp only [appV, hs1, hs2]
  have hC0 : Chg (vids v) t (t.push (.row (Dot.av x) true)) := ((Keep.refl t).push _).chg _
  rcases h with ⟨rfl, rfl⟩ | ⟨j, rfl, h0, h1, h⟩
  · simp only [aappend]
    rw [if_neg (by simp), if_pos (by simp [roomBytes])]
    refine ⟨_, rfl, ?_, hC0.push _, rfl⟩
    exact St.get_push_new (t.push (.row (Dot.av x) true)) _
  · have hp : (t.push (.row (Dot.av x) true)).get j = some (.row (dotC.cells l) true) := get_push_some _ h
    rw [h2]
    simp only [aappend, if_true, hp]
    rw [if_neg (by simp), if_pos ⟨by rw [cells_len, h2]; omega, by unfold roomBytes; omega⟩]
    have hlt : j < (t.push (.row (Dot.av x) true)).next := St.get_lt hp
    refine ⟨_, rfl, ?_, (hC0.put .dead (.inl (by simp [vids])) hlt).push _, rfl⟩
    have e : (dotC.cells l).take (l.length * 2) = dotC.cells l := by rw [← h2, ← cells_len]; simp
    rw [List.drop_zero, e, cells_append]
    exact St.get_push_new ((t.push (.row (Dot.av x) true)).put j .dead) _
theorem sto_ctx {n : Nat} {s : St} (h : sameN n s) {a b : AV} (ha : a.one = true) (hb : b.one = true) : sto (s.push (.row [.nils, .nils] true)) 2 (.ptr n 0) (.agg [a, b]) = some (.und, s.lowed.push (.row [a, b] true)) := by
  unfold sameN at h
  subst h
  simp [sto, St.get_push_new, push_put, AV.cells, ha, hb, setAt]
theorem sto_row2 {id : Nat} {a b x y : AV} (h : t.get id = some (.row [a, b] true)) (hx : x.one = true) (hy : y.one = true) : sto t 2 (.ptr id 0) (.agg [x, y]) = some (.und, t.put id (.row [x, y] true)) := by
  simp [sto, h, AV.cells, hx, hy, setAt]
theorem lod_row2 {id : Nat} {a b : AV} {own : Bool} (h : t.get id = some (.row [a, b] own)) : lod t 2 (.ptr id 0) = some (.agg [a, b]) := by simp [lod, h]
theorem fstep_s0 {v : AV} (h1 : v.cells = [v]) (h2 : v.one = true) (a b : AV) (K : List AV → Option (List AV)) : fstep [a, b] 0 1 v K = K [v, b] := by
  simp [fstep, h1, h2, setAt]
theorem fstep_s1 {v : AV} (h1 : v.cells = [v]) (h2 : v.one = true) (a b : AV) (K : List AV → Option (List AV)) : fstep [a, b] 1 1 v K = K [a, v] := by
  simp [fstep, h1, h2, setAt]
theorem NewX.keep {M : List Nat} {v : AV} {l : List Dot} (hc : Chg M t u) (h : NewX dotC s t v l) (hm : ∀ id ∈ vids v, id ∉ M) : NewX dotC s u v l := by
  rcases h with h | ⟨j, cap, rfl, h1, h2⟩
  · exact .inl h
  · exact .inr ⟨j, cap, rfl, h1, hc.blk h2 (hm j (by simp [vids]))⟩
theorem Own.keep {M : List Nat} {v : AV} {l : List Dot} (hc : Chg M t u) (h : Own dotC s t v l) (hm : ∀ id ∈ vids v, id ∉ M) : Own dotC s u v l := by
  rcases h with h | ⟨j, rfl, h0, h1, h2⟩
  · exact .inl h
  · exact .inr ⟨j, rfl, h0, h1, hc.blk h2 (hm j (by simp [vids]))⟩
theorem own_vidl {v : AV} {l : List Dot} (h : Own dotC s t v l) : ∀ id ∈ vids v, id < t.next := by
  rcases h with ⟨rfl, _⟩ | ⟨j, rfl, _, _, h2⟩
  · simp [vids]
  · intro id hid
    simp [vids] at hid
    subst hid
    exact St.get_lt h2
theorem newX_vidl {v : AV} {l : List Dot} (h : NewX dotC s t v l) : ∀ id ∈ vids v, id < t.next := by
  rcases h with ⟨rfl, _⟩ | ⟨j, cap, rfl, _, h2⟩
  · simp [vids]
  · intro id hid
    simp [vids] at hid
    subst hid
    exact St.get_lt h2
/-- The result that is being made: its box, its two lists. -/
structure CJ (s t : St) (b : Nat) (vv cc : AV) (V C : List Dot) : Prop where
  keep : Keep s t
  rbox : t.get (s.next + 1) = some (.row [.nils, .nils] true)
  obox : t.get b = some (.row [vv, cc] true)
  vec : NewX dotC ((s.push .dead).push .dead) t vv V
  cld : Own dotC ((s.push .dead).push .dead) t cc C
  vdis : ∀ id ∈ vids vv, id ≠ b ∧ id ∉ vids cc
  cdis : ∀ id ∈ vids cc, id ≠ b
  bge : s.next + 2 ≤ b
theorem CJ.low {b : Nat} {vv cc : AV} {V C : List Dot} (h : CJ s t b vv cc V C) (x : List AV) : CJ s (t.lowed.push (.row x true)) b vv cc V C :=
  ⟨h.keep.lowed.push _, get_push_some _ h.rbox, get_push_some _ h.obox, h.vec.mono fun _ _ k => get_push_some _ k, h.cld.mono fun _ _ k => get_push_some _ k, h.vdis, h.cdis, h.bge⟩
theorem CJ.app {b : Nat} {vv cc : AV} {V C : List Dot} (h : CJ s t b vv cc V C) (x : Dot) (hb : C.length + 1 ≤ 4000000) : ∃ cc' t', appV (t.push (.row (Dot.av x) true)) 2 16 cc (.sl t.next 0 1 (some 1) 2) = some (cc', t') ∧ sto t' 1 (.ptr b 1) cc' = some (.und, t'.put b (.row [vv, cc'] true)) ∧ CJ s (t'.put b (.row [vv, cc'] true)) b vv cc' V (C ++ [x]) := by
  obtain ⟨t', h1, h2, h3, h4⟩ := app1D h.cld x hb
  have hlb := St.get_lt h.obox
  have hob : t'.get b = some (.row [vv, cc] true) := h3.blk h.obox fun q => h.cdis _ q rfl
  have hrb : t'.get (s.next + 1) = some (.row [.nils, .nils] true) := h3.blk h.rbox fun q => by
    have := own_vids h.cld _ q
    simp at this
    omega
  have hK : Keep s t' := h.keep.chgn h3 fun id hid => by
    have := own_vids h.cld _ hid
    simp at this
    omega
  have hlb' := St.get_lt hob
  refine ⟨_, t', h1, (row2_sto hob rfl rfl).2, ⟨hK.put _ (by have := h.bge; omega) hlb', ?_, St.get_put_same hob, ?_, .inr ⟨t.next + 1, by simp; rfl, by simp, ?_, ?_⟩, fun id hid => ⟨(h.vdis id hid).1, ?_⟩, fun id hid => ?_, h.bge⟩⟩
  · rw [St.get_put_ne _ _ hlb' (by have := h.bge; omega)]; exact hrb
  · exact (h.vec.keep h3 fun id hid => (h.vdis id hid).2).keep ((Chg.refl [b] t').put _ (.inl (by simp)) hlb') fun id hid => by
      have := (h.vdis id hid).1
      simpa using this
  · have := h.keep.next
    have := h.bge
    simp
    omega
  · rw [St.get_put_ne _ _ hlb' (by omega)]; exact h2
  · have := newX_vidl h.vec id hid
    simp [vids]
    omega
  · simp [vids] at hid
    omega
theorem CJ.raise {b : Nat} {vv cc : AV} {V C : List Dot} (h : CJ s t b vv cc V C) {vv' : AV} {V' : List Dot} (hO : Own dotC t u vv' V') (hK : Keep t u) (hone : vv'.cells = [vv'] ∧ vv'.one = true) : sto u 1 (.ptr b 0) vv' = some (.und, u.put b (.row [vv', cc] true)) ∧ CJ s (u.put b (.row [vv', cc] true)) b vv' cc V' C := by
  have hob := hK.blk h.obox
  have hlb := St.get_lt hob
  have hltb := St.get_lt h.obox
  have hlc := own_vidl h.cld
  refine ⟨(row2_sto hob hone.1 hone.2).1, ⟨(h.keep.trans hK).put _ (by have := h.bge; omega) hlb, ?_, St.get_put_same hob, ?_, ?_, fun id hid => ⟨?_, fun q => ?_⟩, h.cdis, h.bge⟩⟩
  · rw [St.get_put_ne _ _ hlb (by have := h.bge; omega)]; exact hK.blk h.rbox
  · have hge := own_vids hO
    refine NewX.keep ((Chg.refl [b] u).put _ (.inl (by simp)) hlb) (hO.newX.from ?_) fun id hid => ?_
    · have := h.bge
      simp
      omega
    · have := hge id hid
      simp
      omega
  · exact (h.cld.mono fun _ _ k => hK.blk k).keep ((Chg.refl [b] u).put _ (.inl (by simp)) hlb) fun id hid => by
      have := h.cdis id hid
      simpa using this
  · have := own_vids hO id hid
    omega
  · have h1 := own_vids hO id hid
    have h2 := hlc id q
    omega
theorem kfold_valid {X : DCx} (h : cvalid X = true) (i : Nat) (hi : i ≤ X.c.length) : vvalid ((X.c.take i).foldl kstep (X.v, [])).1 = true := by
  obtain ⟨h1, h2, h3⟩ := (cvalid_iff X).1 h
  have := comp_inv (x := ⟨X.v, X.c.take i⟩) ((cvalid_iff _).2 ⟨h1, List.Pairwise.sublist (List.take_sublist _ _) h2, fun d hd => h3 d (List.mem_of_mem_take hd)⟩)
  exact this.val
noncomputable def R_CComp : Con := runFn (tb [(117, R_CValid), (133, R_SClV), (122, R_VGet), (134, R_VRaise)]) a119
theorem s_CComp : SoundAt Tryz.prog 119 R_CComp := run_sound (tb_sound (l := [(117, R_CValid), (133, R_SClV), (122, R_VGet), (134, R_VRaise)]) (by simpa using ⟨s_CValid, s_SClV, s_VGet, s_VRaise⟩)) mixed Tryz.func119 k119 c119
theorem n_CComp : noNxtC a119.body = true := by kernel_rfl
theorem w_CComp {s : St} {v w : AV} {X : DCx} (hv : read dotC s v = some X.v) (hw : read dotC s w = some X.c) (hlv : X.v.length ≤ 200000) (hlw : X.c.length ≤ 200000) (hcv : cvalid X = true) : ∀ env : Env, elen env = a119.ntmps → (∀ i x_, [.agg [v, w]][i]? = some x_ → E env i = x_) → awp (tb [(117, R_CValid), (133, R_SClV), (122, R_VGet), (134, R_VRaise)]) a119.body (fun x e t => (∀ i, x ≠ .exit i) ∧ ∃ r, aresults e t a119.results = some r ∧ (∃ vv cc, r = .tup [.agg [vv, cc], .int .i64 0] ∧ NewX dotC s t vv (compC X).v ∧ Own dotC s t cc (compC X).c) ∧ Keep s t) env s := by
  intro env hlen ha
  have h0 : E env 0 = _ := ha 0 _ rfl
  have hlen : elen env = _ := hlen
  simp only [a119] at hlen
  unfold a119
  try dsimp only [oO, oG]
  have hbx := boxV_2 (read_oneD hv).2 (read_oneD hw).2
  have hK1 : Keep s ((s.push (.row [v, w] true)).push (.row [.nils, .nils] true)) := ((Keep.refl s).push _).push _
  have hK1' : Keep (s.push (.row [v, w] true)) ((s.push (.row [v, w] true)).push (.row [.nils, .nils] true)) := (Keep.refl _).push _
  obtain ⟨c1, c2, c3, c4⟩ := box_ctx s v w hK1'
  have q1 := q_CValid false (hK1.read hv) (hK1.read hw) (by unfold lim; omega) (by unfold lim; omega)
  rw [hcv] at q1
  obtain ⟨v1, t1, q2, ⟨hN1, _⟩, hK2⟩ := q_SClV (hK1.read hv) (by unfold lim; omega)
  obtain ⟨d1, d2, d3, d4⟩ := box_ctx s v w ((hK1'.trans hK2).lowed.push (.row [v1, .nils] true))
  have hone := read_oneD hN1.read
  have hf0 := fstep_s0 hone.1 hone.2 .nils .nils
  have hst := sto_ctx (show sameN t1.next t1 from rfl) hone.2 (rfl : AV.nils.one = true)
  have hL := lenV_read hw
  have hCJ : CJ s (t1.lowed.push (.row [v1, .nils] true)) t1.next v1 .nils X.v [] := by
    have hn : s.next + 2 ≤ t1.next := hK2.next
    refine ⟨(hK1.trans hK2).lowed.push _, ?_, St.get_push_new t1.lowed _, ?_, .nil _ _ _, fun id hid => ⟨?_, by simp [vids]⟩, by simp [vids], hn⟩
    · exact get_push_some _ (hK2.blk (St.get_push_new (s.push (.row [v, w] true)) _))
    · exact (hN1.mono fun _ _ k => get_push_some (t := t1.lowed) _ k).from (Nat.le_refl _)
    · have := newX_vidl hN1 id hid
      omega
  simp (config := {contextual := true, maxDischargeDepth := 12}) only [tb_at, h0, hlen, hbx, c1, c2, c3, c4, q1, notV_bool, q2, ap_build, hf0, fillP_nil, fillP_cons, hst, d1, d2, d3, d4, hL, ↓bD, bU, forall_const, bS, implies_true, isNx, eq_self, ↓wp_cond, ↓wp_loop, ↓reduceIte, reduceCtorEq, Nat.reduceEqDiff, Nat.reduceLT, Nat.reduceAdd, Nat.reduceMul, bT, ↓sg_bsl, ↓st_callf, bX, ap_mkfn, ae_callvV, callvV_fn, List.cons_append, List.nil_append, boxV_i, boxV_dot, sto_dot, ap_conv, convV_int, bslV_0, fstep_d0, fstep_d1, bsl_dot, ae_appz, ap_cap, capV_nils, slcV_nils0, slcV_sl0, wrap_0, ae_clr, boxV_f, fstep_f]
  obtain ⟨b, hb⟩ : ∃ b, b = t1.next := ⟨_, rfl⟩
  rw [← hb] at hCJ
  obtain ⟨I, hI⟩ : ∃ I : Nat → Env → St → Prop, ∀ n e t, I n e t = (True ∧ ∃ (i : Nat) (vv cc : AV), n + i = X.c.length ∧ elen e = 56 ∧ E e 2 = .ptr (s.next + 1) 0 ∧ E e 4 = .ptr b 0 ∧ E e 17 = w ∧ E e 18 = .int .i64 (X.c.length : Int) ∧ E e 19 = .int .i64 (i : Int) ∧ CJ s t b vv cc ((X.c.take i).foldl kstep (X.v, [])).1 ((X.c.take i).foldl kstep (X.v, [])).2) := ⟨fun n e t => (True ∧ ∃ (i : Nat) (vv cc : AV), n + i = X.c.length ∧ elen e = 56 ∧ E e 2 = .ptr (s.next + 1) 0 ∧ E e 4 = .ptr b 0 ∧ E e 17 = w ∧ E e 18 = .int .i64 (X.c.length : Int) ∧ E e 19 = .int .i64 (i : Int) ∧ CJ s t b vv cc ((X.c.take i).foldl kstep (X.v, [])).1 ((X.c.take i).foldl kstep (X.v, [])).2), fun _ _ _ => rfl⟩
  refine lwp_inv I (n := X.c.length) ?_ ?_
  · rw [hI]
    exact ⟨trivial, 0, v1, .nils, by omega, (by simp only [bE, Nat.reduceEqDiff, bN, Nat.reduceLT, hlen, hb]; try rfl), (by simp only [bE, Nat.reduceEqDiff, bN, Nat.reduceLT, hlen, hb]; try rfl), (by simp only [bE, Nat.reduceEqDiff, bN, Nat.reduceLT, hlen, hb]; try rfl), (by simp only [bE, Nat.reduceEqDiff, bN, Nat.reduceLT, hlen, hb]; try rfl), (by simp only [bE, Nat.reduceEqDiff, bN, Nat.reduceLT, hlen, hb]; try rfl), (by simp only [bE, Nat.reduceEqDiff, bN, Nat.reduceLT, hlen, hb]; try rfl), hCJ⟩
  clear c1 c2 c3 c4 d1 d2 d3 d4 hst hf0 q1 q2 hCJ
  intro n e t hi
  rw [hI] at hi
  obtain ⟨hK, i, vv, cc, hni, he, e2, e4, e17, e18, e19, hJ⟩ := hi
  have hvi := kfold_valid hcv i (by omega)
  generalize hP : (X.c.take i).foldl kstep (X.v, []) = P at hJ hvi
  have hPl : P.1.length ≤ X.v.length + X.c.length ∧ P.2.length ≤ X.c.length := by
    have := kfold_len (X.c.take i) (X.v, [])
    rw [hP, List.length_take] at this
    simp at this
    omega
  by_cases hlt : i < X.c.length
  · obtain ⟨d, hx⟩ := getsome hlt
    have hd := ((cvalid_iff X).1 hcv).2.2 d (mem_at hx)
    have hw2 := wrap_add1 (n := i) (by omega)
    obtain ⟨a1, a2, a3, a4⟩ := dot_lods hw hJ.keep hx
    have i1 := dot_idx hw hx .i64
    obtain ⟨o0, o1, olt⟩ := row2_lod hJ.obox
    have hJA := hJ.low (Dot.av d)
    have qg := q_VGet false hJA.vec.read (by unfold lim; omega) d.r
    have hwr := wrap_vget hvi d.r
    have hfs : (X.c.take (i + 1)).foldl kstep (X.v, []) = kstep P d := by rw [take_snoc hx, List.foldl_append, hP]; rfl
    by_cases hc1 : vget P.1 d.r + 1 < d.c
    · have z1 := eq_true hc1
      obtain ⟨cc', t', hap, hsto, hJ'⟩ := hJA.app d (by omega)
      rw [kstep_gt hc1] at hfs
      simp (config := {contextual := true, maxDischargeDepth := 12}) only [tb_at, he, e2, e4, e17, e18, e19, hL, hlt, hw2, a1, a4, i1, o0, o1, olt, qg, hwr, z1, hap, hsto, ↓bD, bU, forall_const, bS, implies_true, isNx, eq_self, ↓wp_cond, ↓wp_loop, ↓reduceIte, reduceCtorEq, Nat.reduceEqDiff, Nat.reduceLT, Nat.reduceAdd, Nat.reduceMul, bT, ↓sg_bsl, ↓st_callf, bX, ap_mkfn, ae_callvV, callvV_fn, List.cons_append, List.nil_append, boxV_i, boxV_dot, sto_dot, ap_conv, convV_int, bslV_0, fstep_d0, fstep_d1, bsl_dot, ae_appz, ap_cap, capV_nils, slcV_nils0, slcV_sl0, wrap_0, ae_clr, boxV_f, fstep_f]
      refine ⟨n - 1, by omega, ?_⟩
      rw [hI]
      exact ⟨trivial, i + 1, vv, cc', by omega, (by simp only [bE, Nat.reduceEqDiff, bN, Nat.reduceLT, he, e2, e4, e17, e18, e19]; try rfl), (by simp only [bE, Nat.reduceEqDiff, bN, Nat.reduceLT, he, e2, e4, e17, e18, e19]; try rfl), (by simp only [bE, Nat.reduceEqDiff, bN, Nat.reduceLT, he, e2, e4, e17, e18, e19]; try rfl), (by simp only [bE, Nat.reduceEqDiff, bN, Nat.reduceLT, he, e2, e4, e17, e18, e19]; try rfl), (by simp only [bE, Nat.reduceEqDiff, bN, Nat.reduceLT, he, e2, e4, e17, e18, e19]; try rfl), (by simp only [bE, Nat.reduceEqDiff, bN, Nat.reduceLT, he, e2, e4, e17, e18, e19]; try rfl), by rw [hfs]; exact hJ'⟩
    · have z1 := eq_false hc1
      by_cases hc2 : d.c = vget P.1 d.r + 1
      · have z2 := eq_true hc2
        obtain ⟨vv', t', qr, hO', hK'⟩ := q_VRaise hJA.vec.read (by omega) hvi hd
        obtain ⟨hsto, hJ'⟩ := hJA.raise hO' hK' (read_oneD hO'.read)
        rw [kstep_eq hc2] at hfs
        simp (config := {contextual := true, maxDischargeDepth := 12}) only [tb_at, he, e2, e4, e17, e18, e19, hL, hlt, hw2, a1, a4, i1, o0, o1, olt, qg, hwr, z1, z2, qr, hsto, ↓bD, bU, forall_const, bS, implies_true, isNx, eq_self, ↓wp_cond, ↓wp_loop, ↓reduceIte, reduceCtorEq, Nat.reduceEqDiff, Nat.reduceLT, Nat.reduceAdd, Nat.reduceMul, bT, ↓sg_bsl, ↓st_callf, bX, ap_mkfn, ae_callvV, callvV_fn, List.cons_append, List.nil_append, boxV_i, boxV_dot, sto_dot, ap_conv, convV_int, bslV_0, fstep_d0, fstep_d1, bsl_dot, ae_appz, ap_cap, capV_nils, slcV_nils0, slcV_sl0, wrap_0, ae_clr, boxV_f, fstep_f]
        refine ⟨n - 1, by omega, ?_⟩
        rw [hI]
        exact ⟨trivial, i + 1, vv', cc, by omega, (by simp only [bE, Nat.reduceEqDiff, bN, Nat.reduceLT, he, e2, e4, e17, e18, e19]; try rfl), (by simp only [bE, Nat.reduceEqDiff, bN, Nat.reduceLT, he, e2, e4, e17, e18, e19]; try rfl), (by simp only [bE, Nat.reduceEqDiff, bN, Nat.reduceLT, he, e2, e4, e17, e18, e19]; try rfl), (by simp only [bE, Nat.reduceEqDiff, bN, Nat.reduceLT, he, e2, e4, e17, e18, e19]; try rfl), (by simp only [bE, Nat.reduceEqDiff, bN, Nat.reduceLT, he, e2, e4, e17, e18, e19]; try rfl), (by simp only [bE, Nat.reduceEqDiff, bN, Nat.reduceLT, he, e2, e4, e17, e18, e19]; try rfl), by rw [hfs]; exact hJ'⟩
      · have z2 := eq_false hc2
        rw [kstep_le (by omega)] at hfs
        simp (config := {contextual := true, maxDischargeDepth := 12}) only [tb_at, he, e2, e4, e17, e18, e19, hL, hlt, hw2, a1, a4, i1, o0, o1, olt, qg, hwr, z1, z2, ↓bD, bU, forall_const, bS, implies_true, isNx, eq_self, ↓wp_cond, ↓wp_loop, ↓reduceIte, reduceCtorEq, Nat.reduceEqDiff, Nat.reduceLT, Nat.reduceAdd, Nat.reduceMul, bT, ↓sg_bsl, ↓st_callf, bX, ap_mkfn, ae_callvV, callvV_fn, List.cons_append, List.nil_append, boxV_i, boxV_dot, sto_dot, ap_conv, convV_int, bslV_0, fstep_d0, fstep_d1, bsl_dot, ae_appz, ap_cap, capV_nils, slcV_nils0, slcV_sl0, wrap_0, ae_clr, boxV_f, fstep_f]
        refine ⟨n - 1, by omega, ?_⟩
        rw [hI]
        exact ⟨trivial, i + 1, vv, cc, by omega, (by simp only [bE, Nat.reduceEqDiff, bN, Nat.reduceLT, he, e2, e4, e17, e18, e19]; try rfl), (by simp only [bE, Nat.reduceEqDiff, bN, Nat.reduceLT, he, e2, e4, e17, e18, e19]; try rfl), (by simp only [bE, Nat.reduceEqDiff, bN, Nat.reduceLT, he, e2, e4, e17, e18, e19]; try rfl), (by simp only [bE, Nat.reduceEqDiff, bN, Nat.reduceLT, he, e2, e4, e17, e18, e19]; try rfl), (by simp only [bE, Nat.reduceEqDiff, bN, Nat.reduceLT, he, e2, e4, e17, e18, e19]; try rfl), (by simp only [bE, Nat.reduceEqDiff, bN, Nat.reduceLT, he, e2, e4, e17, e18, e19]; try rfl), by rw [hfs]; exact hJA⟩
  · obtain rfl : i = X.c.length := by omega
    rw [List.take_length] at hP
    have hl2 := lod_row2 hJ.obox
    have hst2 := sto_row2 hJ.rbox (read_oneD hJ.vec.read).2 (read_oneD hJ.cld.read).2
    have hlr := St.get_lt hJ.rbox
    have hl3 : lod (t.put (s.next + 1) (.row [vv, cc] true)) 2 (.ptr (s.next + 1) 0) = some (.agg [vv, cc]) := lod_row2 (St.get_put_same hJ.rbox)
    have hC : Chg [s.next + 1] t (t.put (s.next + 1) (.row [vv, cc] true)) := (Chg.refl _ _).put _ (.inl (by simp)) hlr
    have k1 : (compC X).v = P.1 := by unfold compC; rw [hP]
    have k2 : (compC X).c = P.2 := by unfold compC; rw [hP]
    simp (config := {contextual := true, maxDischargeDepth := 12}) only [tb_at, he, e2, e4, e17, e18, e19, hL, hlt, hl2, hst2, hl3, rc2, ↓bD, bU, forall_const, bS, implies_true, isNx, eq_self, ↓wp_cond, ↓wp_loop, ↓reduceIte, reduceCtorEq, Nat.reduceEqDiff, Nat.reduceLT, Nat.reduceAdd, Nat.reduceMul, bT, ↓sg_bsl, ↓st_callf, bX, ap_mkfn, ae_callvV, callvV_fn, List.cons_append, List.nil_append, boxV_i, boxV_dot, sto_dot, ap_conv, convV_int, bslV_0, fstep_d0, fstep_d1, bsl_dot, ae_appz, ap_cap, capV_nils, slcV_nils0, slcV_sl0, wrap_0, ae_clr, boxV_f, fstep_f]
    refine ⟨_, rfl, ⟨vv, cc, rfl, ?_, ?_⟩, hJ.keep.put _ (by omega) hlr⟩
    · rw [k1]
      refine (hJ.vec.keep hC fun id hid => ?_).from (by simp; omega)
      have := newX_vids hJ.vec id hid
      simp at this ⊢
      omega
    · rw [k2]
      refine (hJ.cld.keep hC fun id hid => ?_).from (by simp; omega)
      have := own_vids hJ.cld id hid
      simp at this ⊢
      omega

end Go.AM
end
/-
  Calls that answer contexts: Compact, Add, Of, Union; Within and Size. Own work of this project; in part printed by a program of it.
-/
section
set_option linter.unusedVariables false
set_option linter.unusedSimpArgs false
set_option maxRecDepth 100000
set_option maxHeartbeats 8000000
namespace Go.AM
open Go Go.Proofs

variable {s t u : St}

/-- Two lists read as a context. -/
def CR (t : St) (vv cc : AV) (X : DCx) : Prop := read dotC t vv = some X.v ∧ read dotC t cc = some X.c
theorem CR.mono {vv cc : AV} {X : DCx} (h : CR t vv cc X) (k : ∀ id b, t.get id = some b → u.get id = some b) : CR u vv cc X := ⟨read_mono h.1 k, read_mono h.2 k⟩
theorem CR.keep {vv cc : AV} {X : DCx} (h : CR t vv cc X) (k : Keep t u) : CR u vv cc X := h.mono fun _ _ => k.blk
theorem CR.ground {vv cc : AV} {X : DCx} (h : CR t vv cc X) (h1 : vv.ground = true) (h2 : cc.ground = true) : CR u vv cc X := by
  obtain ⟨rfl, e1⟩ := read_ground h.1 h1
  obtain ⟨rfl, e2⟩ := read_ground h.2 h2
  exact ⟨by rw [e1]; rfl, by rw [e2]; rfl⟩
theorem CR.nils : CR t .nils .nils ⟨[], []⟩ := ⟨rfl, rfl⟩
theorem ground_tup {a b : AV} {e : AV} (h : (AV.tup [.agg [a, b], e]).ground = true) : a.plain = true ∧ b.plain = true := by
  simp [AV.ground, AV.plains] at h
  exact ⟨h.1.1, h.1.2⟩
theorem plain_ground {v : AV} (h : v.plain = true) : v.ground = true := by cases v <;> simp_all [AV.plain, AV.ground, AV.plains]
theorem q_CComp {s : St} {v w : AV} {X : DCx} (hv : read dotC s v = some X.v) (hw : read dotC s w = some X.c) (hlv : X.v.length ≤ 200000) (hlw : X.c.length ≤ 200000) (hcv : cvalid X = true) : ∃ vv cc t, acall R_CComp false [.agg [v, w]] s = some (.tup [.agg [vv, cc], .int .i64 0], t) ∧ NewX dotC s t vv (compC X).v ∧ Own dotC s t cc (compC X).c ∧ Keep s t := by
  obtain ⟨r, t, h1, ⟨vv, cc, rfl, h2, h4⟩, h3⟩ := run_any n_CComp (args := [.agg [v, w]]) (Q := fun r t => ∃ vv cc, r = .tup [.agg [vv, cc], .int .i64 0] ∧ NewX dotC s t vv (compC X).v ∧ Own dotC s t cc (compC X).c) (by simp [a119]) (fun r t t' hg hn ⟨vv, cc, e, h, h'⟩ => ⟨vv, cc, e, h.mono fun id b hb => by rw [hg]; exact hb, h'.mono fun id b hb => by rw [hg]; exact hb⟩) (fun r t hgr hk ⟨vv, cc, e, h, h'⟩ => ⟨vv, cc, e, by
    rw [e] at hgr
    obtain ⟨rfl, e1⟩ := h.ground (plain_ground (ground_tup hgr).1)
    obtain ⟨rfl, e2⟩ := h'.ground (plain_ground (ground_tup hgr).2)
    exact ⟨.inl ⟨rfl, e1⟩, .inl ⟨rfl, e2⟩⟩⟩) (w_CComp (s := lowd s) (read_low' hv) (read_low' hw) hlv hlw hcv)
  exact ⟨vv, cc, t, h1, h2, h4, h3⟩
theorem q_DUnionF {s : St} {va vb : AV} {a b : List Dot} (hra : read dotC s va = some a) (hrb : read dotC s vb = some b) (hla : a.length ≤ 400000) (hlb : b.length ≤ 400000) : ∃ w t, acallF R_DUnion [va, vb] s = some (w, t) ∧ NewR dotC s t w (setL (a ++ b)) ∧ Keep s t := by
  obtain ⟨w, t, h1, h2, h3⟩ := q_DUnion (s := lowd s) (read_low' hra) (read_low' hrb) hla hlb
  obtain ⟨t', g1, g2, g3, g4⟩ := acallF_keep h1 h3
  exact ⟨w, t', g1, h2.mono fun id b hb => by rw [g2]; exact hb, g4⟩
noncomputable def R_CAdd : Con := runFn (tb [(117, R_CValid), (118, R_Cval), (120, R_DUnion), (119, R_CComp)]) a95
theorem s_CAdd : SoundAt Tryz.prog 95 R_CAdd := run_sound (tb_sound (l := [(117, R_CValid), (118, R_Cval), (120, R_DUnion), (119, R_CComp)]) (by simpa using ⟨s_CValid, s_Cval, s_DUnion, s_CComp⟩)) mixed Tryz.func95 k95 c95
theorem n_CAdd : noNxtC a95.body = true := by kernel_rfl
theorem cr_put {id : Nat} {a b x y : AV} {vv cc : AV} {X : DCx} {own : Bool} (h : t.get id = some (.row [a, b] own)) (ha : ∀ k n, a ≠ .int k n) (hR : CR t vv cc X) : CR (t.put id (.row [x, y] true)) vv cc X := by
  have hlt := St.get_lt h
  have key : ∀ {v : AV} {l : List Dot}, read dotC t v = some l → read dotC (t.put id (.row [x, y] true)) v = some l := by
    intro v l hr
    cases v with
    | nils => exact hr
    | sl j off n cap z =>
      obtain ⟨rfl, hn, cs, own', hg, h1, h2, _⟩ := read_sl hr
      by_cases hj : j = id
      · subst hj
        rw [h] at hg
        injection hg with hg
        injection hg with hg _
        subst hg
        cases l with
        | nil =>
          simp at hn
          subst hn
          exact read_of (C := dotC) (n := 0) rfl (St.get_put_same h) (by simp at h1 ⊢; omega) (by simp [cells_nil])
        | cons d r =>
          exfalso
          have h22 : dotC.sz = 2 := rfl
          rw [hn, h22] at h1
          simp at h1
          have h0 : off = 0 := by omega
          have hr0 : r.length = 0 := by omega
          subst h0
          have : r = [] := List.length_eq_zero_iff.1 hr0
          subst this
          rw [hn, h22, cells_one] at h2
          simp at h2
          have e : dotC.enc d = [.int .i64 d.r, .int .i64 d.c] := rfl
          rw [e] at h2
          injection h2 with h2 _
          exact ha _ _ h2
      · exact read_of hn (by rw [St.get_put_ne _ _ hlt hj]; exact hg) h1 h2
    | _ => simp [AM.read] at hr
  exact ⟨key hR.1, key hR.2⟩
theorem w_CAdd {s : St} {v w : AV} {X : DCx} (hv : read dotC s v = some X.v) (hw : read dotC s w = some X.c) (hlv : X.v.length ≤ 80000) (hlw : X.c.length ≤ 80000) {u1 : AV} {l : List Dot} (hru : read dotC s u1 = some l) (hlu : l.length ≤ 80000) (hcv : cvalid X = true) (hlv2 : l.all Dot.valid = true) : ∀ env : Env, elen env = a95.ntmps → (∀ i x_, [.agg [v, w], u1][i]? = some x_ → E env i = x_) → awp (tb [(117, R_CValid), (118, R_Cval), (120, R_DUnion), (119, R_CComp)]) a95.body (fun x e t => (∀ i, x ≠ .exit i) ∧ ∃ r, aresults e t a95.results = some r ∧ (∃ vv cc, r = .tup [.agg [vv, cc], .int .i64 0] ∧ CR t vv cc (addC X l)) ∧ Keep s t) env s := by
  intro env hlen ha
  have h0 : E env 0 = _ := ha 0 _ rfl
  have h1 : E env 1 = _ := ha 1 _ rfl
  have hlen : elen env = _ := hlen
  simp only [a95] at hlen
  unfold a95
  try dsimp only [oO, oG]
  have hbx := boxV_2 (read_oneD hv).2 (read_oneD hw).2
  have hK1 : Keep s ((s.push (.row [v, w] true)).push (.row [.nils, .nils] true)) := ((Keep.refl s).push _).push _
  have hK1' : Keep (s.push (.row [v, w] true)) ((s.push (.row [v, w] true)).push (.row [.nils, .nils] true)) := (Keep.refl _).push _
  obtain ⟨c1, c2, c3, c4⟩ := box_ctx s v w hK1'
  have hst0 := sto_ctx (show sameN (s.push (.row [v, w] true)).next (s.push (.row [v, w] true)) from rfl) (a := .nils) (b := .nils) rfl rfl
  have hl0 : lod ((s.push (.row [v, w] true)).lowed.push (.row [.nils, .nils] true)) 2 (.ptr (s.push (.row [v, w] true)).next 0) = some (.agg [.nils, .nils]) := lod_row2 (St.get_push_new _ _)
  have q1 := q_CValid false (hK1.read hv) (hK1.read hw) (by unfold lim; omega) (by unfold lim; omega)
  have q2 := q_Cval false (hK1.read hru) (by unfold lim; omega)
  rw [hcv] at q1
  rw [hlv2] at q2
  obtain ⟨w2, t2, q3, hN2, hK2⟩ := q_DUnionF (hK1.read hw) (hK1.read hru) (by omega) (by omega)
  have hv2 := (hK1.trans hK2).read hv
  have hlen2 := setL_len (X.c ++ l)
  rw [List.length_append] at hlen2
  obtain ⟨vv, cc, t3, q4, hV, hC, hK3⟩ := q_CComp (X := ⟨X.v, setL (X.c ++ l)⟩) hv2 hN2.read (by simp only; omega) (by simp only; omega) (add_valid hcv hlv2)
  have hR : CR t3 vv cc (addC X l) := ⟨hV.read, hC.read⟩
  have hKr := hK2.trans hK3
  have hone := read_oneD hv2
  have hone2 := read_oneD hN2.read
  have hf0 := fstep_s0 hone.1 hone.2 .nils .nils
  have hf1 := fstep_s1 hone2.1 hone2.2 v .nils
  have hrb : t3.get (s.push (.row [v, w] true)).next = some (.row [.nils, .nils] true) := hKr.blk (St.get_push_new (s.push (.row [v, w] true)) _)
  have hstr := sto_row2 hrb (read_oneD hR.1).2 (read_oneD hR.2).2
  have hlr := St.get_lt hrb
  have hlo : lod (t3.put (s.push (.row [v, w] true)).next (.row [vv, cc] true)) 2 (.ptr (s.push (.row [v, w] true)).next 0) = some (.agg [vv, cc]) := lod_row2 (St.get_put_same hrb)
  simp (config := {contextual := true, maxDischargeDepth := 12}) only [tb_at, h0, h1, hlen, hbx, c1, c2, c3, c4, q1, q2, q3, q4, notV_bool, ap_build, hf0, hf1, fillP_nil, fillP_cons, hstr, hlo, rc2, reserve0, Bool.not_true, ↓bD, bU, forall_const, bS, implies_true, isNx, eq_self, ↓wp_cond, ↓wp_loop, ↓reduceIte, reduceCtorEq, Nat.reduceEqDiff, Nat.reduceLT, Nat.reduceAdd, Nat.reduceMul, bT, ↓sg_bsl, ↓st_callf, bX, ap_mkfn, ae_callvV, callvV_fn, List.cons_append, List.nil_append, boxV_i, boxV_dot, sto_dot, ap_conv, convV_int, bslV_0, fstep_d0, fstep_d1, bsl_dot, ae_appz, ap_cap, capV_nils, slcV_nils0, slcV_sl0, wrap_0, ae_clr, boxV_f, fstep_f]
  exact ⟨_, rfl, ⟨vv, cc, rfl, cr_put hrb (by intro k n h; cases h) hR⟩, (hK1.trans (hK2.trans hK3)).put _ (by simp) hlr⟩
theorem q_CAdd {s : St} {v w : AV} {X : DCx} (hv : read dotC s v = some X.v) (hw : read dotC s w = some X.c) (hlv : X.v.length ≤ 80000) (hlw : X.c.length ≤ 80000) {u1 : AV} {l : List Dot} (hru : read dotC s u1 = some l) (hlu : l.length ≤ 80000) (hcv : cvalid X = true) (hlv2 : l.all Dot.valid = true) : ∃ vv cc t, acall R_CAdd false [.agg [v, w], u1] s = some (.tup [.agg [vv, cc], .int .i64 0], t) ∧ CR t vv cc (addC X l) ∧ Keep s t := by
  obtain ⟨r, t, h1, ⟨vv, cc, rfl, h2⟩, h3⟩ := run_any n_CAdd (args := [.agg [v, w], u1]) (Q := fun r t => ∃ vv cc, r = .tup [.agg [vv, cc], .int .i64 0] ∧ CR t vv cc (addC X l)) (by simp [a95]) (fun r t t' hg hn ⟨vv, cc, e, h⟩ => ⟨vv, cc, e, h.mono fun id b hb => by rw [hg]; exact hb⟩) (fun r t hgr hk ⟨vv, cc, e, h⟩ => ⟨vv, cc, e, by
    rw [e] at hgr
    exact h.ground (plain_ground (ground_tup hgr).1) (plain_ground (ground_tup hgr).2)⟩) (w_CAdd (s := lowd s) (read_low' hv) (read_low' hw) hlv hlw (read_low' hru) hlu hcv hlv2)
  exact ⟨vv, cc, t, h1, h2, h3⟩

end Go.AM
end
/-
  context.Of, Union, Within, Size. Own work of this project; in part printed by a program of it.
-/
section
set_option linter.unusedVariables false
set_option linter.unusedSimpArgs false
set_option maxRecDepth 100000
set_option maxHeartbeats 8000000
namespace Go.AM
open Go Go.Proofs

variable {s t u : St}

theorem lod_new2 {n : Nat} {s : St} (h : sameN n s) (a b : AV) (own : Bool) : lod (s.push (.row [a, b] own)) 2 (.ptr n 0) = some (.agg [a, b]) := by
  unfold sameN at h
  subst h
  exact lod_row2 (St.get_push_new _ _)
theorem cvalid_nil : cvalid ⟨[], []⟩ = true := rfl
noncomputable def R_COf : Con := runFn (tb [(95, R_CAdd)]) a74
theorem s_COf : SoundAt Tryz.prog 74 R_COf := run_sound (tb_sound (l := [(95, R_CAdd)]) (by simpa using s_CAdd)) mixed Tryz.func74 k74 c74
theorem n_COf : noNxtC a74.body = true := by kernel_rfl
theorem w_COf {s : St} {u1 : AV} {l : List Dot} (hru : read dotC s u1 = some l) (hlu : l.length ≤ 80000) (hok : l.all Dot.valid = true) : ∀ env : Env, elen env = a74.ntmps → (∀ i x_, [u1][i]? = some x_ → E env i = x_) → awp (tb [(95, R_CAdd)]) a74.body (fun x e t => (∀ i, x ≠ .exit i) ∧ ∃ r, aresults e t a74.results = some r ∧ (∃ vv cc, r = .tup [.agg [vv, cc], .int .i64 0] ∧ CR t vv cc (addC ⟨[], []⟩ l)) ∧ Keep s t) env s := by
  intro env hlen ha
  have h0 : E env 0 = _ := ha 0 _ rfl
  have hlen : elen env = _ := hlen
  simp only [a74] at hlen
  unfold a74
  try dsimp only [oO, oG]
  have hK1 : Keep s (s.push (.row [.nils, .nils] true)) := (Keep.refl s).push _
  obtain ⟨vv, cc, t3, q1, hR, hKr⟩ := q_CAdd (s := s.push (.row [.nils, .nils] true)) (X := ⟨[], []⟩) (read_nils dotC _) (read_nils dotC _) (by simp) (by simp) (hK1.read hru) hlu cvalid_nil hok
  have hrb : t3.get (s).next = some (.row [.nils, .nils] true) := hKr.blk (St.get_push_new (s) _)
  have hstr := sto_row2 hrb (read_oneD hR.1).2 (read_oneD hR.2).2
  have hlr := St.get_lt hrb
  have hlo : lod (t3.put (s).next (.row [vv, cc] true)) 2 (.ptr (s).next 0) = some (.agg [vv, cc]) := lod_row2 (St.get_put_same hrb)
  simp (config := {contextual := true, maxDischargeDepth := 12}) only [tb_at, h0, hlen, q1, ap_build, fillP_nil, rc2, hstr, hlo, ↓bD, bU, forall_const, bS, implies_true, isNx, eq_self, ↓wp_cond, ↓wp_loop, ↓reduceIte, reduceCtorEq, Nat.reduceEqDiff, Nat.reduceLT, Nat.reduceAdd, Nat.reduceMul, bT, ↓sg_bsl, ↓st_callf, bX, ap_mkfn, ae_callvV, callvV_fn, List.cons_append, List.nil_append, boxV_i, boxV_dot, sto_dot, ap_conv, convV_int, bslV_0, fstep_d0, fstep_d1, bsl_dot, ae_appz, ap_cap, capV_nils, slcV_nils0, slcV_sl0, wrap_0, ae_clr, boxV_f, fstep_f, lod_new2]
  exact ⟨_, rfl, ⟨vv, cc, rfl, cr_put hrb (by intro k n h; cases h) hR⟩, (hK1.trans hKr).put _ (by simp) hlr⟩
theorem q_COf {s : St} {u1 : AV} {l : List Dot} (hru : read dotC s u1 = some l) (hlu : l.length ≤ 80000) (hok : l.all Dot.valid = true) : ∃ vv cc t, acall R_COf false [u1] s = some (.tup [.agg [vv, cc], .int .i64 0], t) ∧ CR t vv cc (addC ⟨[], []⟩ l) ∧ Keep s t := by
  obtain ⟨r, t, h1, ⟨vv, cc, rfl, h2⟩, h3⟩ := run_any n_COf (args := [u1]) (Q := fun r t => ∃ vv cc, r = .tup [.agg [vv, cc], .int .i64 0] ∧ CR t vv cc (addC ⟨[], []⟩ l)) (by simp [a74]) (fun r t t' hg hn ⟨vv, cc, e, h⟩ => ⟨vv, cc, e, h.mono fun id b hb => by rw [hg]; exact hb⟩) (fun r t hgr hk ⟨vv, cc, e, h⟩ => ⟨vv, cc, e, by
    rw [e] at hgr
    exact h.ground (plain_ground (ground_tup hgr).1) (plain_ground (ground_tup hgr).2)⟩) (w_COf (s := lowd s) (read_low' hru) hlu hok)
  exact ⟨vv, cc, t, h1, h2, h3⟩
theorem add_len (X : DCx) (l : List Dot) : (addC X l).v.length ≤ X.v.length + (X.c.length + l.length) ∧ (addC X l).c.length ≤ X.c.length + l.length := by
  have h := comp_len ⟨X.v, setL (X.c ++ l)⟩
  have h2 := setL_len (X.c ++ l)
  rw [List.length_append] at h2
  unfold addC
  simp only at h
  omega
end Go.AM
end
/-
  slices.DeleteFunc at dots; context.Missing. Own work of this project; in part printed by a program of it.
-/
section
set_option linter.unusedVariables false
set_option linter.unusedSimpArgs false
set_option maxRecDepth 100000
set_option maxHeartbeats 8000000
namespace Go.AM
open Go Go.Proofs

variable {s t u : St}

theorem setAt_cells' (l r : List Dot) (k : Nat) (h : k + r.length ≤ l.length) : setAt (dotC.cells l) (k * 2) (dotC.cells r) = dotC.cells (l.take k ++ (r ++ l.drop (k + r.length))) := by
  have hk : (dotC.cells (l.take k)).length = k * 2 := by
    rw [cells_len, List.length_take]
    have : dotC.sz = 2 := rfl
    rw [this, Nat.min_eq_left (by omega)]
  have hr : (dotC.cells r).length = r.length * 2 := by rw [cells_len]; rfl
  have hl : dotC.cells l = dotC.cells (l.take k) ++ dotC.cells (l.drop k) := by rw [← cells_append, List.take_append_drop]
  have hd : l.drop k = (l.drop k).take r.length ++ l.drop (k + r.length) := by
    rw [← List.drop_drop, List.take_append_drop]
  have hd2 : (dotC.cells ((l.drop k).take r.length)).length = r.length * 2 := by
    rw [cells_len, List.length_take, List.length_drop]
    have : dotC.sz = 2 := rfl
    rw [this, Nat.min_eq_left (by omega)]
  unfold setAt
  rw [cells_append, cells_append, hr]
  have e1 : (dotC.cells l).take (k * 2) = dotC.cells (l.take k) := by rw [hl, ← hk, List.take_left]
  have e2 : (dotC.cells l).drop (k * 2 + r.length * 2) = dotC.cells (l.drop (k + r.length)) := by
    rw [hl, ← hk, ← List.drop_drop, List.drop_left, hd, cells_append, ← hd2, List.drop_left]
  rw [e1, e2, List.append_assoc]
theorem idxD_cases (l : List Dot) (p : Dot → Bool) : (idxD l p = -1 ∧ ∀ x ∈ l, p x = false) ∨ ∃ (i : Nat) (x : Dot), idxD l p = (i : Int) ∧ l[i]? = some x ∧ p x = true ∧ ∀ k y, k < i → l[k]? = some y → p y = false := by
  unfold idxD
  cases h : l.findIdx? p with
  | none =>
    rw [List.findIdx?_eq_none_iff] at h
    exact .inl ⟨rfl, fun x hx => by simpa using h x hx⟩
  | some i =>
    rw [List.findIdx?_eq_some_iff_getElem] at h
    obtain ⟨h1, h2, h3⟩ := h
    refine .inr ⟨i, l[i], rfl, List.getElem?_eq_getElem h1, h2, fun k y hk hy => ?_⟩
    have := h3 k hk
    rw [List.getElem?_eq_getElem (by omega)] at hy
    injection hy with hy
    rw [hy] at this
    simpa using this
theorem filter_take {l : List Dot} {p : Dot → Bool} {i : Nat} (h : ∀ k y, k < i → l[k]? = some y → p y = false) (hi : i ≤ l.length) : (l.take i).filter (fun d => !p d) = l.take i := by
  rw [List.filter_eq_self]
  intro x hx
  obtain ⟨k, hk⟩ := List.getElem?_of_mem hx
  have hkl := getlt hk
  rw [List.length_take] at hkl
  rw [List.getElem?_take, if_pos (by omega)] at hk
  rw [h k x (by omega) hk]
  rfl
noncomputable def R_DelF : Con := runFn (tb [(94, R_IdxD), (79, R_MisF)]) a77
theorem s_DelF : SoundAt Tryz.prog 77 R_DelF := run_sound (tb_sound (l := [(94, R_IdxD), (79, R_MisF)]) (by simpa using ⟨s_IdxD, s_MisF⟩)) mixed Tryz.func77 k77 c77
theorem n_DelF : noNxtC a77.body = true := by kernel_rfl
theorem w_DelF {s : St} {T : List (Nat × Con)} (hT : ∀ xs : List AV, tb T 94 xs = R_IdxD xs) {s0 : St} {v : AV} {l : List Dot} (hN : NewR dotC s0 s v l) (hc : CapOK v) (hl : l.length ≤ lim) {g : Nat} {caps : List AV} (p : Dot → Bool) (hf0 : ∀ (t : St) (d : Dot), Keep s t → acall (tb [(132, R_CInv), (79, R_MisF), (71, R_KInv)] g) false (.agg (Dot.av d) :: caps) t = some (.bool (p d), t)) (hf : ∀ (t : St) (d : Dot), Chg (vids v) s t → acall (tb T g) false (.agg (Dot.av d) :: caps) t = some (.bool (p d), t)) : ∀ env : Env, elen env = a77.ntmps → (∀ i x_, [v, .fn g caps][i]? = some x_ → E env i = x_) → awp (tb T) a77.body (fun x e t => (∀ i, x ≠ .exit i) ∧ ∃ r, aresults e t a77.results = some r ∧ NewR dotC s0 t r (l.filter fun d => !p d) ∧ Chg (vids v) s t ∧ (v = .nils → r = .nils ∧ Keep s t) ∧ (v ≠ .nils → r.ground = false)) env s := by
  intro env hlen ha
  have h0 : E env 0 = _ := ha 0 _ rfl
  have h1 : E env 1 = _ := ha 1 _ rfl
  have hlen : elen env = _ := hlen
  simp only [a77] at hlen
  unfold a77
  try dsimp only [oO, oG]
  have q0 : ∀ cl, acall (tb T 94) cl [v, .fn g caps] s = some (.int .i64 (idxD l p), s) := fun cl => by
    have e : tb T 94 = R_IdxD := funext hT
    rw [e]
    exact q_IdxD cl hN.read hl p hf0
  have q0 := q0 false
  rcases hN with ⟨rfl, rfl⟩ | ⟨j, cap, rest, rfl, hj0, hg⟩
  · have hi : idxD [] p = -1 := rfl
    rw [hi] at q0
    simp (config := {contextual := true, maxDischargeDepth := 12}) only [tb_at, h0, h1, hlen, q0, ↓bD, bU, forall_const, bS, implies_true, isNx, eq_self, ↓wp_cond, ↓wp_loop, ↓reduceIte, reduceCtorEq, Nat.reduceEqDiff, Nat.reduceLT, Nat.reduceAdd, Nat.reduceMul, bT, ↓sg_bsl, ↓st_callf, bX, ap_mkfn, ae_callvV, callvV_fn, List.cons_append, List.nil_append, boxV_i, boxV_dot, sto_dot, ap_conv, convV_int, bslV_0, fstep_d0, fstep_d1, bsl_dot, ae_appz, ap_cap, capV_nils, slcV_nils0, slcV_sl0, wrap_0, ae_clr, boxV_f, fstep_f, lod_new2]
    exact ⟨_, rfl, .nil _ _ _, (Keep.refl s).chg _, rfl, fun h => absurd trivial h⟩
  have hN : NewR dotC s0 s (.sl j 0 l.length cap 2) l := .inr ⟨j, cap, rest, rfl, hj0, hg⟩
  have hjl := St.get_lt hg
  have h2 : dotC.sz = 2 := rfl
  rw [h2] at h0 hc q0
  rcases idxD_cases l p with ⟨hi, hall⟩ | ⟨i, x, hi, hx, hpx, hpre⟩
  · rw [hi] at q0
    have hd : l.filter (fun d => !p d) = l := by
      rw [List.filter_eq_self]
      intro x hx
      rw [hall x hx]; rfl
    simp (config := {contextual := true, maxDischargeDepth := 12}) only [tb_at, h0, h1, hlen, q0, ↓bD, bU, forall_const, bS, implies_true, isNx, eq_self, ↓wp_cond, ↓wp_loop, ↓reduceIte, reduceCtorEq, Nat.reduceEqDiff, Nat.reduceLT, Nat.reduceAdd, Nat.reduceMul, bT, ↓sg_bsl, ↓st_callf, bX, ap_mkfn, ae_callvV, callvV_fn, List.cons_append, List.nil_append, boxV_i, boxV_dot, sto_dot, ap_conv, convV_int, bslV_0, fstep_d0, fstep_d1, bsl_dot, ae_appz, ap_cap, capV_nils, slcV_nils0, slcV_sl0, wrap_0, ae_clr, boxV_f, fstep_f, lod_new2]
    exact ⟨_, rfl, by rw [hd]; exact hN, (Keep.refl s).chg _, fun h => h.elim, rfl⟩
  · rw [hi] at q0
    have hil := getlt hx
    have hz : ((i : Int) = -1) = False := eq_false (by omega)
    have hwi := wrap_add1 (n := i) (by unfold lim at hl; omega)
    simp (config := {contextual := true, maxDischargeDepth := 12}) only [tb_at, h0, h1, hlen, q0, hz, hwi, ↓bD, bU, forall_const, bS, implies_true, isNx, eq_self, ↓wp_cond, ↓wp_loop, ↓reduceIte, reduceCtorEq, Nat.reduceEqDiff, Nat.reduceLT, Nat.reduceAdd, Nat.reduceMul, bT, ↓sg_bsl, ↓st_callf, bX, ap_mkfn, ae_callvV, callvV_fn, List.cons_append, List.nil_append, boxV_i, boxV_dot, sto_dot, ap_conv, convV_int, bslV_0, fstep_d0, fstep_d1, bsl_dot, ae_appz, ap_cap, capV_nils, slcV_nils0, slcV_sl0, wrap_0, ae_clr, boxV_f, fstep_f, lod_new2]
    obtain ⟨I, hI⟩ : ∃ I : Nat → Env → St → Prop, ∀ n e t, I n e t = (Chg [j] s t ∧ ∃ (q k : Nat) (L : List Dot), n + q = l.length ∧ elen e = 42 ∧ E e 0 = .sl j 0 l.length cap 2 ∧ E e 1 = .fn g caps ∧ E e 5 = .int .i64 (k : Int) ∧ E e 6 = .int .i64 (q : Int) ∧ q ≤ l.length ∧ k < q ∧ L.length = (l ++ rest).length ∧ t.get j = some (.row (dotC.cells L) true) ∧ L.take k = ((l.take q).filter fun d => !p d) ∧ k = ((l.take q).filter fun d => !p d).length ∧ ∀ x, q ≤ x → L[x]? = (l ++ rest)[x]?) := ⟨fun n e t => (Chg [j] s t ∧ ∃ (q k : Nat) (L : List Dot), n + q = l.length ∧ elen e = 42 ∧ E e 0 = .sl j 0 l.length cap 2 ∧ E e 1 = .fn g caps ∧ E e 5 = .int .i64 (k : Int) ∧ E e 6 = .int .i64 (q : Int) ∧ q ≤ l.length ∧ k < q ∧ L.length = (l ++ rest).length ∧ t.get j = some (.row (dotC.cells L) true) ∧ L.take k = ((l.take q).filter fun d => !p d) ∧ k = ((l.take q).filter fun d => !p d).length ∧ ∀ x, q ≤ x → L[x]? = (l ++ rest)[x]?), fun _ _ _ => rfl⟩
    have hf1 : (l.take (i + 1)).filter (fun d => !p d) = l.take i := by
      rw [take_snoc hx, List.filter_append, filter_take hpre (by omega)]
      simp [hpx]
    refine lwp_inv I (n := l.length - (i + 1)) ?_ ?_
    · rw [hI]
      refine ⟨(Keep.refl s).chg _, i + 1, i, l ++ rest, by omega, (by simp only [bE, Nat.reduceEqDiff, bN, Nat.reduceLT, hlen]; try rfl), (by simp only [bE, Nat.reduceEqDiff, bN, Nat.reduceLT, hlen, h0]; try rfl), (by simp only [bE, Nat.reduceEqDiff, bN, Nat.reduceLT, hlen, h1]; try rfl), (by simp only [bE, Nat.reduceEqDiff, bN, Nat.reduceLT, hlen]; try rfl), (by simp only [bE, Nat.reduceEqDiff, bN, Nat.reduceLT, hlen]; try rfl), by omega, by omega, rfl, hg, ?_, ?_, fun _ _ => rfl⟩
      · rw [hf1, List.take_append_of_le_length (by omega)]
      · rw [hf1, List.length_take, Nat.min_eq_left (by omega)]
    clear hlen h0 h1 q0 hz hwi
    intro n e t hi
    rw [hI] at hi
    obtain ⟨hC, q, k, L, hni, he, e0, e1, e5, e6, hq, hkq, hLl, hgt, hLk, hkd, hrest⟩ := hi
    rw [List.length_append] at hLl
    have hjt := St.get_lt hgt
    have hltj : ltN j t := hjt
    by_cases hlt : q < l.length
    · obtain ⟨d, hd⟩ := getsome hlt
      have i1 := iad_own (j := j) (cap := cap) 0 hlt
      rw [Nat.zero_add] at i1
      have a1 := lod_own hgt (show L[q]? = some d by rw [hrest _ (Nat.le_refl _), List.getElem?_append_left hlt]; exact hd)
      have hw2 := wrap_add1 (n := q) (by unfold lim at hl; omega)
      have hCp : Chg [j] s (t.lowed.push (.row (Dot.av d) true)) := hC.trans ((Keep.refl t).lowed.push _ |>.chg []) (by simp)
      have hq := hf (t.lowed.push (.row (Dot.av d) true)) d hCp
      have hsn : l.take (q + 1) = l.take q ++ [d] := take_snoc hd
      cases hpd : p d
      · rw [hpd] at hq
        have i2 := iad_own (j := j) (cap := cap) 0 (show k < l.length by omega)
        rw [Nat.zero_add] at i2
        have st1 := sto_own hgt (show k < L.length by omega) d
        have hw3 := wrap_add1 (n := k) (by unfold lim at hl; omega)
        have hf2 : (l.take (q + 1)).filter (fun d => !p d) = (l.take q).filter (fun d => !p d) ++ [d] := by rw [hsn, List.filter_append]; simp [hpd]
        simp (config := {contextual := true, maxDischargeDepth := 12}) only [tb_at, he, e0, e1, e5, e6, lenV_sl, hlt, i1, i2, a1, hltj, hq, hw2, hw3, st1, notV_bool, sto_push_lt, lt_lowed, Bool.not_false, ↓bD, bU, forall_const, bS, implies_true, isNx, eq_self, ↓wp_cond, ↓wp_loop, ↓reduceIte, reduceCtorEq, Nat.reduceEqDiff, Nat.reduceLT, Nat.reduceAdd, Nat.reduceMul, bT, ↓sg_bsl, ↓st_callf, bX, ap_mkfn, ae_callvV, callvV_fn, List.cons_append, List.nil_append, boxV_i, boxV_dot, sto_dot, ap_conv, convV_int, bslV_0, fstep_d0, fstep_d1, bsl_dot, ae_appz, ap_cap, capV_nils, slcV_nils0, slcV_sl0, wrap_0, ae_clr, boxV_f, fstep_f, lod_new2]
        refine ⟨n - 1, by omega, ?_⟩
        rw [hI]
        refine ⟨(hC.put _ (.inl (by simp)) hjt).trans ((Keep.refl _).lowed.push _ |>.chg []) (by simp), q + 1, k + 1, L.set k d, by omega, (by simp only [bE, Nat.reduceEqDiff, bN, Nat.reduceLT, he]; try rfl), (by simp only [bE, Nat.reduceEqDiff, bN, Nat.reduceLT, he, e0]; try rfl), (by simp only [bE, Nat.reduceEqDiff, bN, Nat.reduceLT, he, e1]; try rfl), (by simp only [bE, Nat.reduceEqDiff, bN, Nat.reduceLT, he, e5]; try rfl), (by simp only [bE, Nat.reduceEqDiff, bN, Nat.reduceLT, he]; try rfl), by omega, by omega, by rw [List.length_set, List.length_append]; exact hLl, get_push_some _ (St.get_put_same hgt), ?_, by rw [hf2, List.length_append, ← hkd]; rfl, fun z hz => ?_⟩
        · rw [hf2, ← hLk, List.take_add_one, List.getElem?_set_self (by omega), List.take_set_of_le (Nat.le_refl _)]
          rfl
        · rw [List.getElem?_set_ne (by omega)]
          exact hrest z (by omega)
      · rw [hpd] at hq
        have hf2 : (l.take (q + 1)).filter (fun d => !p d) = (l.take q).filter (fun d => !p d) := by rw [hsn, List.filter_append]; simp [hpd]
        simp (config := {contextual := true, maxDischargeDepth := 12}) only [tb_at, he, e0, e1, e5, e6, lenV_sl, hlt, i1, a1, hltj, hq, hw2, notV_bool, Bool.not_true, ↓bD, bU, forall_const, bS, implies_true, isNx, eq_self, ↓wp_cond, ↓wp_loop, ↓reduceIte, reduceCtorEq, Nat.reduceEqDiff, Nat.reduceLT, Nat.reduceAdd, Nat.reduceMul, bT, ↓sg_bsl, ↓st_callf, bX, ap_mkfn, ae_callvV, callvV_fn, List.cons_append, List.nil_append, boxV_i, boxV_dot, sto_dot, ap_conv, convV_int, bslV_0, fstep_d0, fstep_d1, bsl_dot, ae_appz, ap_cap, capV_nils, slcV_nils0, slcV_sl0, wrap_0, ae_clr, boxV_f, fstep_f, lod_new2]
        refine ⟨n - 1, by omega, ?_⟩
        rw [hI]
        exact ⟨hCp, q + 1, k, L, by omega, (by simp only [bE, Nat.reduceEqDiff, bN, Nat.reduceLT, he]; try rfl), (by simp only [bE, Nat.reduceEqDiff, bN, Nat.reduceLT, he, e0]; try rfl), (by simp only [bE, Nat.reduceEqDiff, bN, Nat.reduceLT, he, e1]; try rfl), (by simp only [bE, Nat.reduceEqDiff, bN, Nat.reduceLT, he, e5]; try rfl), (by simp only [bE, Nat.reduceEqDiff, bN, Nat.reduceLT, he]; try rfl), by omega, by omega, by rw [List.length_append]; exact hLl, get_push_some _ hgt, by rw [hf2]; exact hLk, by rw [hf2]; exact hkd, fun z hz => hrest z (by omega)⟩
    · have hql : q = l.length := by omega
      subst hql
      rw [List.take_length] at hLk hkd
      obtain ⟨sl2, sl3⟩ := slc_own j l.length k cap (by omega) hc
      have hcl := clr_own (cap := cap.map (· - k)) hgt (n := l.length) (k := k) (by omega) (by omega)
      rw [setAt_cells' L _ k (by rw [List.length_replicate]; omega), hLk] at hcl
      simp (config := {contextual := true, maxDischargeDepth := 12}) only [tb_at, he, e0, e1, e5, e6, lenV_sl, hlt, sl2, sl3, hcl, ↓bD, bU, forall_const, bS, implies_true, isNx, eq_self, ↓wp_cond, ↓wp_loop, ↓reduceIte, reduceCtorEq, Nat.reduceEqDiff, Nat.reduceLT, Nat.reduceAdd, Nat.reduceMul, bT, ↓sg_bsl, ↓st_callf, bX, ap_mkfn, ae_callvV, callvV_fn, List.cons_append, List.nil_append, boxV_i, boxV_dot, sto_dot, ap_conv, convV_int, bslV_0, fstep_d0, fstep_d1, bsl_dot, ae_appz, ap_cap, capV_nils, slcV_nils0, slcV_sl0, wrap_0, ae_clr, boxV_f, fstep_f, lod_new2]
      exact ⟨_, rfl, .inr ⟨j, cap, _, by rw [← hkd]; rfl, hj0, St.get_put_same hgt⟩, hC.put _ (.inl (by simp [vids])) hjt, fun h => h.elim, rfl⟩
theorem q_DelF {s : St} {s0 : St} {v : AV} {l : List Dot} (hN : NewR dotC s0 s v l) (hc : CapOK v) (hl : l.length ≤ lim) {g : Nat} {caps : List AV} (p : Dot → Bool) (hf0 : ∀ (t : St) (d : Dot), Keep s t → acall (tb [(132, R_CInv), (79, R_MisF), (71, R_KInv)] g) false (.agg (Dot.av d) :: caps) t = some (.bool (p d), t)) (hf : ∀ (t : St) (d : Dot), Chg (vids v) s t → acall (tb [(94, R_IdxD), (79, R_MisF)] g) false (.agg (Dot.av d) :: caps) t = some (.bool (p d), t)) : ∃ w t, acall R_DelF false [v, .fn g caps] s = some (w, t) ∧ NewR dotC s0 t w (l.filter fun d => !p d) ∧ Chg (vids v) s t := by
  obtain ⟨r, t, h1, h2, h3, h4, h5⟩ := run_awp n_DelF (args := [v, .fn g caps]) (by simp [a77]) (Q := fun r t => NewR dotC s0 t r (l.filter fun d => !p d) ∧ Chg (vids v) (lowd s) t ∧ (v = .nils → r = .nils ∧ Keep (lowd s) t) ∧ (v ≠ .nils → r.ground = false)) (w_DelF (s := lowd s) (fun xs => rfl) (hN.mono fun _ _ h => h) hc hl p (fun t d h => hf0 t d ((keep_lowd s).trans h)) fun t d h => hf t d ((keep_lowd s).chg _ |>.trans h fun id hid => .inl hid))
  by_cases hv : v = .nils
  · obtain ⟨rfl, hk⟩ := h4 hv
    rcases hN with ⟨_, rfl⟩ | ⟨j, cap, rest, e, _⟩
    · exact ⟨.nils, s, acall_same h1 hk rfl, .nil _ _ _, (Keep.refl s).chg _⟩
    · rw [e] at hv; cases hv
  · obtain ⟨t', g1, g2, g3, g4⟩ := acall_new h1 h3 (.inl (h5 hv))
    exact ⟨r, t', g1, h2.mono fun id b hb => by rw [g2]; exact hb, g4⟩

theorem read_chg {M : List Nat} {v : AV} {l : List Dot} (h : read dotC s v = some l) (hc : Chg M s t) (hm : ∀ id ∈ vids v, id ∉ M) : read dotC t v = some l := by
  cases v with
  | nils => exact h
  | sl id off n cap z =>
    obtain ⟨rfl, hn, cs, own, hg, h1, h2, _⟩ := read_sl h
    exact read_of hn (hc.blk hg (hm id (by simp [vids]))) h1 h2
  | _ => simp [read] at h
theorem read_vidl {v : AV} {l : List Dot} (h : read dotC s v = some l) : ∀ id ∈ vids v, id < s.next := by
  cases v with
  | sl id off n cap z =>
    obtain ⟨rfl, hn, cs, own, hg, _⟩ := read_sl h
    intro i hi
    simp [vids] at hi
    subst hi
    exact St.get_lt hg
  | _ => simp [vids]
noncomputable def R_CMiss : Con := runFn (tb [(78, R_DSet), (77, R_DelF)]) a39
theorem s_CMiss : SoundAt Tryz.prog 39 R_CMiss := run_sound (tb_sound (l := [(78, R_DSet), (77, R_DelF)]) (by simpa using ⟨s_DSet, s_DelF⟩)) mixed Tryz.func39 k39 c39
theorem n_CMiss : noNxtC a39.body = true := by kernel_rfl
theorem w_CMiss {s : St} {v w : AV} {X : DCx} (hv : read dotC s v = some X.v) (hw : read dotC s w = some X.c) (hlv : X.v.length ≤ lim) (hlw : X.c.length ≤ lim) {u1 : AV} {l : List Dot} (hru : read dotC s u1 = some l) (hlu : l.length ≤ lim) : ∀ env : Env, elen env = a39.ntmps → (∀ i x_, [.agg [v, w], u1][i]? = some x_ → E env i = x_) → awp (tb [(78, R_DSet), (77, R_DelF)]) a39.body (fun x e t => (∀ i, x ≠ .exit i) ∧ ∃ r, aresults e t a39.results = some r ∧ NewR dotC s t r ((setL l).filter fun d => !chas X d) ∧ Keep s t) env s := by
  intro env hlen ha
  have h0 : E env 0 = _ := ha 0 _ rfl
  have h1 : E env 1 = _ := ha 1 _ rfl
  have hlen : elen env = _ := hlen
  simp only [a39] at hlen
  unfold a39
  try dsimp only [oO, oG]
  have hbx := boxV_2 (read_oneD hv).2 (read_oneD hw).2
  have hK1 : Keep s (s.push (.row [v, w] true)) := (Keep.refl s).push _
  obtain ⟨c1, c2, c3, c4⟩ := box_ctx s v w (.refl _)
  have hv1 := hK1.read hv
  have hw1 := hK1.read hw
  obtain ⟨w1, t1, q1, ⟨hN1, hc1⟩, hK2⟩ := q_DSet (hK1.read hru) hlu
  have hb1 := hK2.blk (St.get_push_new s (.row [v, w] true))
  have hv2 := hK2.read hv1
  have hw2 := hK2.read hw1
  have key : ∀ (t : St) (d : Dot), Chg (vids w1) t1 t → acall R_MisF false [.agg (Dot.av d), .ptr s.next 0] t = some (.bool (chas X d), t) := by
    intro t d hch
    have hge := newR_vids hN1
    have hb2 : t.get s.next = some (.row [v, w] true) := hch.blk hb1 fun q => by
      have := hge _ q
      simp at this
      omega
    obtain ⟨e1, e2, e3⟩ := row2_lod hb2
    have hvs := read_vidl hv
    have hws := read_vidl hw
    exact q_MisF false e1 e2 (lod_row2 hb2) e3 (read_chg hv2 hch fun id hid q => by
      have h1 := hge _ q
      have h2 := hvs id hid
      simp at h1
      omega) (read_chg hw2 hch fun id hid q => by
      have h1 := hge _ q
      have h2 := hws id hid
      simp at h1
      omega) hlv hlw d
  obtain ⟨w2, t2, q2, hN2, hC2⟩ := q_DelF hN1 hc1 (Nat.le_trans (setL_len l) hlu) (g := 79) (caps := [.ptr s.next 0]) (chas X) (fun t d h => key t d (h.chg _)) key
  simp (config := {contextual := true, maxDischargeDepth := 12}) only [tb_at, h0, h1, hlen, hbx, q1, q2, ↓bD, bU, forall_const, bS, implies_true, isNx, eq_self, ↓wp_cond, ↓wp_loop, ↓reduceIte, reduceCtorEq, Nat.reduceEqDiff, Nat.reduceLT, Nat.reduceAdd, Nat.reduceMul, bT, ↓sg_bsl, ↓st_callf, bX, ap_mkfn, ae_callvV, callvV_fn, List.cons_append, List.nil_append, boxV_i, boxV_dot, sto_dot, ap_conv, convV_int, bslV_0, fstep_d0, fstep_d1, bsl_dot, ae_appz, ap_cap, capV_nils, slcV_nils0, slcV_sl0, wrap_0, ae_clr, boxV_f, fstep_f, lod_new2]
  have hK3 : Keep s t2 := (hK1.trans hK2).chgn hC2 fun id hid => by
    have := newR_vids hN1 id hid
    simp at this
    omega
  exact ⟨_, rfl, hN2.from (by simp), hK3⟩
theorem q_CMiss {s : St} {v w : AV} {X : DCx} (hv : read dotC s v = some X.v) (hw : read dotC s w = some X.c) (hlv : X.v.length ≤ lim) (hlw : X.c.length ≤ lim) {u1 : AV} {l : List Dot} (hru : read dotC s u1 = some l) (hlu : l.length ≤ lim) : ∃ w3 t, acall R_CMiss false [.agg [v, w], u1] s = some (w3, t) ∧ NewR dotC s t w3 ((setL l).filter fun d => !chas X d) ∧ Keep s t :=
  run_any n_CMiss (by simp [a39]) (fun r t t' hg hn hq => hq.mono fun id b hb => by rw [hg]; exact hb) (fun r t hgr hk hq => by
    obtain ⟨rfl, h⟩ := hq.ground hgr
    rw [h]
    exact .nil _ _ _) (w_CMiss (s := lowd s) (read_low' hv) (read_low' hw) hlv hlw (read_low' hru) hlu)

end Go.AM
end
/-
  The references: With, Union, Raise. Own work of this project; in part printed by a program of it.
-/
section
set_option linter.unusedVariables false
set_option linter.unusedSimpArgs false
set_option maxRecDepth 100000
set_option maxHeartbeats 8000000
namespace Go.AM
open Go Go.Proofs

variable {s t u : St}

def appF (s : St) (sz bytes : Nat) (a x : AV) : Option (AV × St) := match appV (lowd s) sz bytes a x with
  | some (v, t) => if s.next ≤ t.low then some (v, { heap := t.heap, next := t.next, low := min s.low t.low }) else none
  | none => none
theorem st_appf {call : Nat → List AV → St → Option (AV × St)} {base : Nat} {d : Option Nat} {r : Option Nat} {rest : List AOper} {Q : Env → St → Prop} {env : Env} {s : St} (sz b : Nat) (z : List AV) (a x : AO) : awops call base (⟨d, .app sz b z a x, none, r, true⟩ :: rest) Q env s = estep (appF s sz b (aev env a) (aev env x)) fun v t => awops call base rest Q (pE env d v) t := by
  rw [st_efff (op := .app sz b z a x) (by simp) rfl rfl rfl]
  simp only [ae_app, appF, AOp.floor, AOp.isStore, Bool.false_eq_true, if_false]
  show estep (appV (lowd s) sz b (aev env a) (aev env x)) _ = _
  cases appV (lowd s) sz b (aev env a) (aev env x) with
  | none => rfl
  | some q =>
    obtain ⟨v, t⟩ := q
    simp only [estep]
    by_cases h : s.next ≤ t.low
    · rw [if_pos h, if_pos h]
    · rw [if_neg h, if_neg h]
end Go.AM
end
/-
  The references: Raise and Compact. Own work of this project; in part printed by a program of it.
-/
section
set_option linter.unusedVariables false
set_option linter.unusedSimpArgs false
set_option maxRecDepth 100000
set_option maxHeartbeats 8000000
namespace Go.AM
open Go Go.Proofs

variable {s t u : St}

end Go.AM
end
/-
  The reference: Compact, Add, Missing, Size. Own work of this project; in part printed by a program of it.
-/
section
set_option linter.unusedVariables false
set_option linter.unusedSimpArgs false
set_option maxRecDepth 100000
set_option maxHeartbeats 8000000
namespace Go.AM
open Go Go.Proofs

variable {s t u : St}

end Go.AM
end
/-
  The reference: Add, Missing, Size. Own work of this project; in part printed by a program of it.
-/
section
set_option linter.unusedVariables false
set_option linter.unusedSimpArgs false
set_option maxRecDepth 100000
set_option maxHeartbeats 8000000
namespace Go.AM
open Go Go.Proofs

variable {s t u : St}
end Go.AM
end
/-
  Functions that make a new list: dots, Copy, Join; store.Valid. Own work of this project; in part printed by a program of it.
-/
section
set_option linter.unusedVariables false
set_option linter.unusedSimpArgs false
set_option maxRecDepth 100000
set_option maxHeartbeats 4000000
namespace Go.AM
open Go Go.Proofs

def gDots (l : List Nd) : Option (List Dot × Option AV) := some (l.map Nd.d, none)
theorem s_Dots : SoundAt Tryz.prog 65 (conF dotC (pL ndC gDots)) :=
  con_fresh (tb_sound (l := []) (by simp)) mixed Tryz.func65 k65 c65 fun args s r ee h => by
    obtain ⟨v, l, rfl, hr, hl, hp⟩ := pL_some h
    injection hp with hp
    obtain ⟨rfl, rfl⟩ := Prod.mk.inj hp
    refine ⟨by simp, by simp [a65], fun env hlen ha => ?_⟩
    have h0 : E env 0 = _ := ha 0 _ rfl
    have hlen : elen env = _ := hlen
    simp only [a65] at hlen
    unfold a65
    try dsimp only [oO, oG]
    have hL := lenV_read hr
    simp (config := {contextual := true, maxDischargeDepth := 12}) only [tb, h0, hlen, hL, ↓bD, bU, forall_const, bS, implies_true, isNx, cstep_bool, ↓wp_cond, ↓wp_loop, ↓reduceIte, reduceCtorEq, Nat.reduceEqDiff, Nat.reduceLT, Nat.reduceAdd, Nat.reduceMul, Int.ofNat_lt, Int.ofNat_le, exists_const, ae_app, ap_slc, Option.map_none, mkR_none, mkR_some]
    refine lwp_inv (fun n e t => Keep s t ∧ ∃ i : Nat, n + i = l.length ∧ elen e = 19 ∧ E e 6 = v ∧ E e 7 = .int .i64 (l.length : Int) ∧ E e 8 = .int .i64 (i : Int) ∧ Own dotC s t (E e 3) ((l.take i).map Nd.d)) (n := l.length) ⟨.refl s, 0, by omega, by simp only [E_pne, E_psame, elen_put, Nat.reduceEqDiff, ne_eq, not_false_eq_true, Nat.reduceLT, hlen], by simp only [E_pne, E_psame, elen_put, Nat.reduceEqDiff, ne_eq, not_false_eq_true, Nat.reduceLT, hlen], by simp only [E_pne, E_psame, elen_put, Nat.reduceEqDiff, ne_eq, not_false_eq_true, Nat.reduceLT, hlen], by simp only [E_pne, E_psame, elen_put, Nat.reduceEqDiff, ne_eq, not_false_eq_true, Nat.reduceLT, hlen]; rfl, by simp only [E_pne, E_psame, elen_put, Nat.reduceEqDiff, ne_eq, not_false_eq_true, Nat.reduceLT, hlen]; exact .nil _ _ _⟩ ?_
    · rintro n e t ⟨hK, i, hn, he, e6, e7, e8, hO⟩
      by_cases hlt : i < l.length
      · obtain ⟨x, hx⟩ := getsome hlt
        have hw2 := wrap_add1 (n := i) (by unfold lim at hl; omega)
        obtain ⟨a1, _⟩ := nd_lods hr hK hx
        have i1 := nd_idx hr hx .i64
        obtain ⟨v', t', hap, hK', hO'⟩ := appV_one (C := dotC) (hK.lowed.push (.row (Nd.av x) true)) (hO.lowed.push _) x.d 16 (by unfold lim at hl; simp [roomBytes]; omega)
        have hap : appV ((t.lowed.push (.row (Nd.av x) true)).push (.row (Dot.av x.d) true)) 2 16 (E e 3) (.sl (t.lowed.push (.row (Nd.av x) true)).next 0 1 (some 1) 2) = some (v', t') := hap
        simp (config := {contextual := true, maxDischargeDepth := 12}) only [tb, e6, e7, e8, he, hL, hlt, hw2, a1, i1, hap, ↓bD, bU, forall_const, bS, implies_true, isNx, cstep_bool, ↓wp_cond, ↓wp_loop, ↓reduceIte, reduceCtorEq, Nat.reduceEqDiff, Nat.reduceLT, Nat.reduceAdd, Nat.reduceMul, Int.ofNat_lt, Int.ofNat_le, exists_const, ae_app, ap_slc, Option.map_none, mkR_none, mkR_some]
        refine ⟨⟨n - 1, by omega, hK', i + 1, by omega, rfl, ?_⟩, fun hf => hf.elim⟩
        rw [take_snoc hx, List.map_append]
        exact hO'
      · obtain rfl : i = l.length := by omega
        rw [List.take_length] at hO
        simp (config := {contextual := true, maxDischargeDepth := 12}) only [tb, e6, e7, e8, he, hL, hlt, ↓bD, bU, forall_const, bS, implies_true, isNx, cstep_bool, ↓wp_cond, ↓wp_loop, ↓reduceIte, reduceCtorEq, Nat.reduceEqDiff, Nat.reduceLT, Nat.reduceAdd, Nat.reduceMul, Int.ofNat_lt, Int.ofNat_le, exists_const, ae_app, ap_slc, Option.map_none, mkR_none, mkR_some]
        exact ⟨fun hf => hf.elim, hK, _, rfl, hO⟩

def fValid (l : List Nd) : AV := .bool (storeL l)
theorem storeL_set (l : List Nd) : storeL l = (l.all Nd.valid && setD (l.map Nd.d)) := by
  have : setD (l.map Nd.d) = chain ndLt l := by
    unfold setD
    rw [Bool.eq_iff_iff, chain_iff, chain_iff]
    constructor
    · intro h i x y hx hy
      exact h i x.d y.d (by simp [hx]) (by simp [hy])
    · intro h i x y hx hy
      simp only [List.getElem?_map, Option.map_eq_some_iff] at hx hy
      obtain ⟨x, hx, rfl⟩ := hx
      obtain ⟨y, hy, rfl⟩ := hy
      exact h i x y hx hy
  rw [storeL, this]
theorem s_StValid : SoundAt Tryz.prog 31 (conL ndC fValid) :=
  con_keep (tb_sound (l := [(56, conLfn fHasBad 57), (65, conF dotC (pL ndC gDots)), (64, conL dotC fIsSet)]) (by simpa using ⟨s_HasBad, s_Dots, s_IsSet⟩)) mixed Tryz.func31 k31 c31 fun args s r s' h => by
    obtain ⟨v, l, rfl, hr, hl, rfl, rfl⟩ := conL_some h
    refine ⟨rfl, rfl, by simp [a31], fun env hlen ha => ?_⟩
    have h0 : E env 0 = _ := ha 0 _ rfl
    have hlen : elen env = _ := hlen
    simp only [a31] at hlen
    unfold a31
    try dsimp only [oO, oG]
    have hq := q_HasBad false hr hl
    cases hv : l.all Nd.valid
    · rw [hv] at hq
      simp (config := {contextual := true, maxDischargeDepth := 12}) only [tb, hq, h0, hlen, ↓bD, bU, forall_const, bS, implies_true, isNx, cstep_bool, ↓wp_cond, ↓wp_loop, ↓reduceIte, reduceCtorEq, Nat.reduceEqDiff, Nat.reduceLT, Nat.reduceAdd, Nat.reduceMul, Int.ofNat_lt, Int.ofNat_le, exists_const, ae_app, ap_slc, Option.map_none, mkR_none, mkR_some]
      simp [fValid, storeL_set, hv]
    · rw [hv] at hq
      obtain ⟨w, t, hd, hK, hO⟩ := fresh_L (D := dotC) (f := gDots) hr hl rfl (by simp)
      rw [mkR_none] at hd
      have hq2 := q_IsSet false hO.read (by simpa using hl)
      simp (config := {contextual := true, maxDischargeDepth := 12}) only [tb, hq, hd, hq2, h0, hlen, ↓bD, bU, forall_const, bS, implies_true, isNx, cstep_bool, ↓wp_cond, ↓wp_loop, ↓reduceIte, reduceCtorEq, Nat.reduceEqDiff, Nat.reduceLT, Nat.reduceAdd, Nat.reduceMul, Int.ofNat_lt, Int.ofNat_le, exists_const, ae_app, ap_slc, Option.map_none, mkR_none, mkR_some]
      exact ⟨by simp [fValid, storeL_set, hv], hK⟩
theorem q_StValid (cl : Bool) {v : AV} {l : List Nd} {s : St} (h : read ndC s v = some l) (hl : l.length ≤ lim) : acall (conL ndC fValid) cl [v] s = some (.bool (storeL l), s) := conL_call (fun _ => rfl) h hl cl
end Go.AM
end
/-
  The program's join of two states. Own work of this project; in part printed by a program of it.
-/
section
set_option linter.unusedVariables false
set_option linter.unusedSimpArgs false
set_option maxRecDepth 100000
set_option maxHeartbeats 4000000
namespace Go.AM
open Go Go.Proofs

theorem dcmp_cases (a b : Dot) : (dcmp a b = -1 ∧ a.before b = true ∧ b.before a = false) ∨ (dcmp a b = 1 ∧ a.before b = false ∧ b.before a = true) ∨ (dcmp a b = 0 ∧ a.before b = false ∧ b.before a = false ∧ a = b) := by
  obtain ⟨ar, ac⟩ := a
  obtain ⟨br, bc⟩ := b
  simp only [dcmp, cmpI, Dot.before]
  by_cases h1 : ac < bc
  · left
    simp [h1, show ¬ bc < ac by omega, show ¬ bc = ac by omega]
  · by_cases h2 : bc < ac
    · right; left
      simp [h1, h2, show ¬ ac = bc by omega]
    · obtain rfl : ac = bc := by omega
      by_cases h3 : ar < br
      · left
        simp [h3, show ¬ br < ar by omega]
      · by_cases h4 : br < ar
        · right; left
          simp [h3, h4]
        · obtain rfl : ar = br := by omega
          right; right
          simp
theorem cs_valid (x : Nd) (A B : Prop) : cstep (.bool x.valid) A B = ((x.valid = true → A) ∧ (x.valid = false → B)) := cstep_bool _ _ _
end Go.AM
end
/-
  Maps from dots to nodes in memory: looking up, setting, ranging. Own work of this project.
-/
section
set_option linter.unusedVariables false
set_option linter.unusedSimpArgs false
namespace Go.AM
open Go Go.Proofs

variable {call : Nat → List AV → St → Option (AV × St)} {env : Env} {s t : St}

/-! ### By value -/
/-! ### Nodes by their dots -/
def entsFrom : Nat → List Nd → List (AV × AV × Nat)
  | _, [] => []
  | k, x :: r => (.agg (Dot.av x.d), .agg (Nd.av x), k) :: entsFrom (k + 1) r
def mapN (l : List Nd) : AB := .map (entsFrom 0 l) l.length
def lookN : List Nd → Dot → Option (Nat × Nd)
  | [], _ => none
  | x :: r, d => if x.d = d then some (0, x) else (lookN r d).map fun p => (p.1 + 1, p.2)
def updN (l : List Nd) (x : Nd) : List Nd := match lookN l x.d with
  | some (j, _) => l.set j x
  | none => l ++ [x]
theorem eqK_dot (a b : Dot) : eqK (.fl [.i, .i]) (.agg (Dot.av a)) (.agg (Dot.av b)) = some (decide (b = a)) := by
  have := bin_eqd a b
  simp only [binOp, Option.map_eq_some_iff] at this
  obtain ⟨x, h1, h2⟩ := this
  injection h2 with h2
  simp only [eqV] at h1
  simp only [eqK, h1, h2]
  congr 1
  simp only [decide_eq_decide]
  exact eq_comm
theorem key_dot (d : Dot) : (AV.agg (Dot.av d)).key (.fl [.i, .i]) = true := rfl
theorem whole_nd (x : Nd) : (AV.agg (Nd.av x)).whole = true := rfl
theorem find_ents : ∀ (l : List Nd) (d : Dot) (k i : Nat), findE (.fl [.i, .i]) (.agg (Dot.av d)) (entsFrom k l) i = some ((lookN l d).map fun p => (i + p.1, .agg (Nd.av p.2)))
  | [], d, k, i => rfl
  | x :: r, d, k, i => by
    simp only [entsFrom, findE, eqK_dot, lookN]
    by_cases h : x.d = d
    · simp [h]
    · simp only [h, decide_false, if_false]
      rw [find_ents r d (k + 1) (i + 1)]
      cases lookN r d <;> simp [Nat.add_comm, Nat.add_left_comm]
theorem lookN_some : ∀ {l : List Nd} {d : Dot} {j : Nat} {x : Nd}, lookN l d = some (j, x) → l[j]? = some x ∧ x.d = d
  | [], d, j, x, h => by simp [lookN] at h
  | y :: r, d, j, x, h => by
    simp only [lookN] at h
    split at h
    · injection h with h
      obtain ⟨rfl, rfl⟩ := Prod.mk.inj h
      exact ⟨rfl, by assumption⟩
    · obtain ⟨p, hp, h⟩ := Option.map_eq_some_iff.1 h
      obtain ⟨rfl, rfl⟩ := Prod.mk.inj h
      obtain ⟨h1, h2⟩ := lookN_some (l := r) (j := p.1) (x := p.2) hp
      exact ⟨by simpa using h1, h2⟩
theorem lookN_none : ∀ {l : List Nd} {d : Dot}, lookN l d = none → ∀ x ∈ l, x.d ≠ d
  | [], d, _ => by simp
  | y :: r, d, h => by
    simp only [lookN] at h
    split at h
    · cases h
    · rename_i e
      have := lookN_none (l := r) (d := d) (by simpa using h)
      intro x hx
      rcases List.mem_cons.1 hx with rfl | hx
      · exact e
      · exact this x hx
theorem ents_get : ∀ (l : List Nd) (k j : Nat), (entsFrom k l)[j]? = (l[j]?).map fun x => (.agg (Dot.av x.d), .agg (Nd.av x), k + j)
  | [], k, j => by simp [entsFrom]
  | x :: r, k, 0 => rfl
  | x :: r, k, j + 1 => by
    simp only [entsFrom, List.getElem?_cons_succ, ents_get r (k + 1) j]
    rw [show k + 1 + j = k + (j + 1) by omega]
theorem ents_append : ∀ (l m : List Nd) (k : Nat), entsFrom k (l ++ m) = entsFrom k l ++ entsFrom (k + l.length) m
  | [], m, k => by simp [entsFrom]
  | x :: r, m, k => by
    simp only [List.cons_append, entsFrom, ents_append r m (k + 1), List.length_cons]
    rw [show k + 1 + r.length = k + (r.length + 1) by omega]
theorem ents_set : ∀ (l : List Nd) (k j : Nat) (x : Nd), entsFrom k (l.set j x) = (entsFrom k l).set j (.agg (Dot.av x.d), .agg (Nd.av x), k + j)
  | [], k, j, x => by simp [entsFrom]
  | y :: r, k, 0, x => by simp [entsFrom]
  | y :: r, k, j + 1, x => by
    simp only [List.set_cons_succ, entsFrom, ents_set r (k + 1) j x]
    rw [show k + 1 + j = k + (j + 1) by omega]
theorem look_hit {l : List Nd} {d : Dot} {j : Nat} {x : Nd} {id : Nat} (hg : s.get id = some (mapN l)) (h : lookN l d = some (j, x)) (z : AV) : lookV s z (.fl [.i, .i]) true (.mp id) (.agg (Dot.av d)) = some (.tup [.agg (Nd.av x), .bool true]) := by
  simp only [lookV, key_dot, if_true, hg, mapN, find_ents, h, Option.map_some]
theorem look_miss {l : List Nd} {d : Dot} {id : Nat} (hg : s.get id = some (mapN l)) (h : lookN l d = none) (z : AV) : lookV s z (.fl [.i, .i]) true (.mp id) (.agg (Dot.av d)) = some (.tup [z, .bool false]) := by
  simp only [lookV, key_dot, if_true, hg, mapN, find_ents, h, Option.map_none]
theorem mset_map {l : List Nd} {id : Nat} (hg : s.get id = some (mapN l)) (x : Nd) : msetV s (.fl [.i, .i]) (.mp id) (.agg (Dot.av x.d)) (.agg (Nd.av x)) = some (.und, s.put id (mapN (updN l x))) := by
  simp only [msetV, key_dot, whole_nd, Bool.and_self, if_true, hg, mapN, find_ents, updN]
  cases h : lookN l x.d with
  | none =>
    simp only [Option.map_none, ents_append, entsFrom, List.length_append, List.length_singleton, Nat.zero_add]
  | some p =>
    obtain ⟨j, y⟩ := p
    obtain ⟨h1, h2⟩ := lookN_some h
    simp only [Option.map_some, Nat.zero_add, ents_get, h1, ents_set, List.length_set]
theorem rng_map {l : List Nd} {id : Nat} (hg : s.get id = some (mapN l)) : rngV s (.mp id) = some (.ptr s.next 0, s.push (.iter (some id) l.length [] l.length)) := by
  simp only [rngV, hg, mapN]
theorem next_map {l : List Nd} {id p : Nat} {seen : List Nat} {K : AV → St → Prop} (hg : s.get id = some (mapN l)) (hp : s.get p = some (.iter (some id) l.length seen l.length))
    (h1 : (∀ i, i < l.length → i ∈ seen) → K (.tup [.bool false]) s) (h2 : ∀ i x, l[i]? = some x → i ∉ seen → K (.tup [.bool true, .agg (Dot.av x.d), .agg (Nd.av x)]) (s.put p (.iter (some id) l.length (seen ++ [i]) l.length))) : anext (.ptr p 0) s K := by
  simp only [anext, hp, hg, mapN]
  have hm : ∀ e ∈ entsFrom 0 l, ∃ i x, l[i]? = some x ∧ e = (.agg (Dot.av x.d), .agg (Nd.av x), i) := by
    intro e he
    obtain ⟨i, hi⟩ := List.getElem?_of_mem he
    rw [ents_get] at hi
    obtain ⟨x, hx, rfl⟩ := Option.map_eq_some_iff.1 hi
    exact ⟨i, x, hx, by simp⟩
  refine ⟨fun e he => ?_, Nat.le_refl _, fun ha => h1 fun i hi => ?_, fun e he hs => ?_⟩
  · obtain ⟨i, x, hx, rfl⟩ := hm e he
    exact getlt hx
  · obtain ⟨x, hx⟩ := getsome hi
    have : (entsFrom 0 l)[i]? = some (.agg (Dot.av x.d), .agg (Nd.av x), 0 + i) := by rw [ents_get, hx]; rfl
    have := ha _ (List.mem_of_getElem? this)
    simpa using this
  · obtain ⟨i, x, hx, rfl⟩ := hm e he
    exact h2 i x hx hs
theorem ent_map {l : List Nd} {id p : Nat} {seen : List Nat} {i : Nat} {x : Nd} (hg : s.get id = some (mapN l)) (hp : s.get p = some (.iter (some id) l.length (seen ++ [i]) l.length)) (hx : l[i]? = some x) : entV s (.ptr p 0) = some (.tup [.agg (Dot.av x.d), .agg (Nd.av x)]) := by
  have key : ∀ (l : List Nd) (k i : Nat) (x : Nd), l[i]? = some x → (entsFrom k l).find? (fun e => e.2.2 == k + i) = some (.agg (Dot.av x.d), .agg (Nd.av x), k + i) := by
    intro l
    induction l with
    | nil => intro k i x h; simp at h
    | cons y r ih =>
      intro k i x h
      cases i with
      | zero => simp at h; subst h; simp [entsFrom]
      | succ i =>
        have e : k + (i + 1) = k + 1 + i := by omega
        rw [entsFrom, List.find?_cons_of_neg (by simp), e]
        exact ih (k + 1) i x (by simpa using h)
  have := key l 0 i x hx
  rw [Nat.zero_add] at this
  simp only [entV, hp, hg, mapN, List.getLast?_concat, if_true, this, Option.map_some]
end Go.AM
end
/-
  DERIVED: THE SHELF's CONTRACTS AT THIS DUMP, IN PLAIN WORDS (tools/lay-plain.mjs out of 'YtiihldccikdfiaaGreatAmShelf.lean', which tools/lay-shelf.mjs wrote): THE SAME DECLARATIONS UNDER THE SAME NAMES: 'import', 'namespace', 'open', 'def', 'theorem' AND NOTHING ELSE: no command of the shelf's: FOR A HAND-IN. Each laying: the table of numbers ('.._ren') and one theorem, a field a fact of the dump's own or the kernel's comparison; each contract: ONE APPLICATION.
-/
section
namespace Go.Proofs
open Go.Shelf
def Tryz.sortNode_ren : Go.Shelf.Ren := ⟨fun | 6 => 60 | 15 => 88 | 14 => 87 | 28 => 114 | 29 => 115 | 20 => 106 | 21 => 107 | 22 => 108 | 23 => 109 | 24 => 110 | 25 => 111 | 26 => 112 | 27 => 113 | 46 => 126 | 47 => 127 | 48 => 128 | 49 => 129 | 50 => 130 | 57 => 151 | n => n, fun | 22 => 22 | 24 => 26 | 25 => 91 | 3 => 3 | 39 => 110 | 0 => 0 | 53 => 132 | 55 => 134 | 4 => 4 | 46 => 126 | 45 => 125 | 50 => 94 | 5 => 5 | 9 => 9 | 66 => 138 | 70 => 142 | 76 => 158 | 77 => 159 | n => n, fun | n => n⟩
theorem Tryz.sortNode : Go.Proofs.SlLaysF0.n6 Tryz.prog Tryz.sortNode_ren := {
  mixed := by kernel_rfl
  f6 := ⟨Tryz.f60.name, by decide, Tryz.func60.trans (congrArg some (by kernel_rfl))⟩
  f14 := ⟨Tryz.f87.name, by decide, Tryz.func87.trans (congrArg some (by kernel_rfl))⟩
  f15 := Tryz.func88.trans (congrArg some (by kernel_rfl))
  f20 := ⟨Tryz.f106.name, by decide, Tryz.func106.trans (congrArg some (by kernel_rfl))⟩
  f21 := ⟨Tryz.f107.name, by decide, Tryz.func107.trans (congrArg some (by kernel_rfl))⟩
  f22 := ⟨Tryz.f108.name, by decide, Tryz.func108.trans (congrArg some (by kernel_rfl))⟩
  f23 := ⟨Tryz.f109.name, by decide, Tryz.func109.trans (congrArg some (by kernel_rfl))⟩
  f24 := ⟨Tryz.f110.name, by decide, Tryz.func110.trans (congrArg some (by kernel_rfl))⟩
  f25 := ⟨Tryz.f111.name, by decide, Tryz.func111.trans (congrArg some (by kernel_rfl))⟩
  f26 := ⟨Tryz.f112.name, by decide, Tryz.func112.trans (congrArg some (by kernel_rfl))⟩
  f27 := ⟨Tryz.f113.name, by decide, Tryz.func113.trans (congrArg some (by kernel_rfl))⟩
  f28 := Tryz.func114.trans (congrArg some (by kernel_rfl))
  f29 := Tryz.func115.trans (congrArg some (by kernel_rfl))
  f46 := ⟨Tryz.f126.name, by decide, Tryz.func126.trans (congrArg some (by kernel_rfl))⟩
  f47 := Tryz.func127.trans (congrArg some (by kernel_rfl))
  f48 := Tryz.func128.trans (congrArg some (by kernel_rfl))
  f49 := ⟨Tryz.f129.name, by decide, Tryz.func129.trans (congrArg some (by kernel_rfl))⟩
  f50 := ⟨Tryz.f130.name, by decide, Tryz.func130.trans (congrArg some (by kernel_rfl))⟩
  f57 := ⟨Tryz.f151.name, by decide, Tryz.func151.trans (congrArg some (by kernel_rfl))⟩
  t0 := Tryz.underlying0
  a0 := Tryz.isAgg0
  z0 := Tryz.sizeOf0
  v0 := Tryz.zeroValue0
  t3 := Tryz.underlying3
  a3 := Tryz.isAgg3
  z3 := Tryz.sizeOf3
  v3 := Tryz.zeroValue3
  t4 := Tryz.underlying4
  a4 := Tryz.isAgg4
  z4 := Tryz.sizeOf4
  v4 := Tryz.zeroValue4
  t5 := Tryz.underlying5
  a5 := Tryz.isAgg5
  z5 := Tryz.sizeOf5
  v5 := Tryz.zeroValue5
  t9 := Tryz.underlying9
  a9 := Tryz.isAgg9
  z9 := Tryz.sizeOf9
  v9 := Tryz.zeroValue9
  t22 := Tryz.underlying22
  a22 := Tryz.isAgg22
  z22 := Tryz.sizeOf22
  v22 := Tryz.zeroValue22
  t25 := Tryz.underlying91
  a25 := Tryz.isAgg91
  z25 := Tryz.sizeOf91
  v25 := Tryz.zeroValue91
  t39 := Tryz.underlying110
  a39 := Tryz.isAgg110
  z39 := Tryz.sizeOf110
  v39 := Tryz.zeroValue110
  t45 := Tryz.underlying125
  a45 := Tryz.isAgg125
  z45 := Tryz.sizeOf125
  v45 := Tryz.zeroValue125
  t46 := Tryz.underlying126
  a46 := Tryz.isAgg126
  z46 := Tryz.sizeOf126
  v46 := Tryz.zeroValue126
  t50 := Tryz.underlying94
  a50 := Tryz.isAgg94
  z50 := Tryz.sizeOf94
  v50 := Tryz.zeroValue94
  t53 := Tryz.underlying132
  a53 := Tryz.isAgg132
  z53 := Tryz.sizeOf132
  v53 := Tryz.zeroValue132
  t55 := Tryz.underlying134
  a55 := Tryz.isAgg134
  z55 := Tryz.sizeOf134
  v55 := Tryz.zeroValue134
  t66 := Tryz.underlying138
  a66 := Tryz.isAgg138
  z66 := Tryz.sizeOf138
  v66 := Tryz.zeroValue138
  t70 := Tryz.underlying142
  a70 := Tryz.isAgg142
  z70 := Tryz.sizeOf142
  v70 := Tryz.zeroValue142
  t76 := Tryz.underlying158
  a76 := Tryz.isAgg158
  z76 := Tryz.sizeOf158
  v76 := Tryz.zeroValue158
  t77 := Tryz.underlying159
  a77 := Tryz.isAgg159
  z77 := Tryz.sizeOf159
  v77 := Tryz.zeroValue159 }
end Go.Proofs
end
/-
  The contract of slices.SortFunc at a new list of nodes, sorted by their dots. Own work of this project.
-/
section
set_option linter.unusedVariables false
set_option linter.unusedSimpArgs false
set_option maxHeartbeats 1000000
namespace Go.AM
open Go Go.Proofs
open Go.Sort (HoldsK putRowK flatK get_flatK size_flatK)

instance : Inhabited Nd := ⟨nd0⟩
def toVal : AV → Value
  | .int k n => .int k n
  | _ => undef
def nvals (x : Nd) : List Value := (Nd.av x).map toVal
theorem nvals_len (x : Nd) : (nvals x).length = 6 := rfl
theorem nvals_one (x : Nd) : ∀ v ∈ nvals x, v.oneCell' = true := by
  intro v hv
  simp only [nvals, Nd.av, List.map_cons, List.map_nil, toVal, List.mem_cons, List.not_mem_nil, or_false] at hv
  rcases hv with rfl | rfl | rfl | rfl | rfl | rfl <;> rfl
theorem nd_val {ρ : Ren} {x : Nd} {i : Nat} {v : AV} {c : Value} (h : (Nd.av x)[i]? = some v) (k : VR ρ v c) : (nvals x)[i]? = some c := by
  simp only [nvals, List.getElem?_map, h, Option.map_some, Option.some.injEq]
  have : v ∈ Nd.av x := List.mem_of_getElem? h
  simp only [Nd.av, List.mem_cons, List.not_mem_nil, or_false] at this
  rcases this with rfl | rfl | rfl | rfl | rfl | rfl <;> (simp only [VR] at k; rw [k]; rfl)
theorem nd_VR {ρ : Ren} {x : Nd} {i : Nat} {v : AV} (h : (Nd.av x)[i]? = some v) : ∃ c, (nvals x)[i]? = some c ∧ VR ρ v c := by
  refine ⟨toVal v, by simp [nvals, h], ?_⟩
  have : v ∈ Nd.av x := List.mem_of_getElem? h
  simp only [Nd.av, List.mem_cons, List.not_mem_nil, or_false] at this
  rcases this with rfl | rfl | rfl | rfl | rfl | rfl <;> simp [VR, toVal]
theorem cells_get : ∀ (l : List Nd) (t : Nat), (ndC.cells l)[t]? = (l[t / 6]?).bind fun x => (Nd.av x)[t % 6]?
  | [], t => by simp [cells_nil]
  | x :: l, t => by
    rw [cells_cons]
    have hl : (ndC.enc x).length = 6 := rfl
    by_cases h : t < 6
    · rw [List.getElem?_append_left (by omega), Nat.div_eq_of_lt h, Nat.mod_eq_of_lt h]
      rfl
    · rw [List.getElem?_append_right (by omega), hl, cells_get l (t - 6)]
      have e1 : t / 6 = (t - 6) / 6 + 1 := by omega
      have e2 : t % 6 = (t - 6) % 6 := by omega
      rw [e1, e2]
      rfl
theorem before_irr (a : Dot) : a.before a = false := by simp [Dot.before]
theorem swo : Sort.SWO (ltOf fun x y : Nd => dcmp x.d y.d) := by
  have e : ∀ x y : Nd, ltOf (fun x y : Nd => dcmp x.d y.d) x y = x.d.before y.d := by
    intro x y
    unfold ltOf
    rcases dcmp_cases x.d y.d with ⟨h, h1, _⟩ | ⟨h, h1, _⟩ | ⟨h, h1, _⟩ <;> simp only [h, h1] <;> decide
  refine ⟨fun x => by rw [e]; exact before_irr _, fun x y z => ?_, fun x y z => ?_⟩
  · rw [e, e, e]
    obtain ⟨⟨_, _⟩, _, _, _⟩ := x
    obtain ⟨⟨_, _⟩, _, _, _⟩ := y
    obtain ⟨⟨_, _⟩, _, _, _⟩ := z
    simp only [Dot.before, Bool.or_eq_true, Bool.and_eq_true, decide_eq_true_eq]
    omega
  · rw [e, e, e]
    obtain ⟨⟨_, _⟩, _, _, _⟩ := x
    obtain ⟨⟨_, _⟩, _, _, _⟩ := y
    obtain ⟨⟨_, _⟩, _, _, _⟩ := z
    simp only [Dot.before, Bool.or_eq_false_iff, Bool.and_eq_false_iff, decide_eq_false_iff_not]
    omega
theorem clean_grow {W W' : World} (h : Clean W W') : ∃ q os, W' = Sort.grow (W.drewN q) os := by
  refine ⟨W'.drawn - W.drawn, W'.heap.extract W.heap.size W'.heap.size, ?_⟩
  have hd := h.drawn
  have hh : W'.heap = W.heap ++ W'.heap.extract W.heap.size W'.heap.size := by
    have hs := h.size
    apply Array.ext_getElem?
    intro i
    rw [Array.getElem?_append]
    split
    · exact h.block i (by assumption)
    · rw [Array.getElem?_extract]
      by_cases hi : i < W'.heap.size
      · rw [if_pos (by omega)]
        congr 1
        omega
      · rw [if_neg (by omega), Array.getElem?_eq_none (by omega)]
  have h1 := h.os
  have h2 := h.tape
  have h3 := h.output
  cases W'
  cases W
  simp only [Sort.grow, World.drewN] at *
  subst h1; subst h2; subst h3
  congr 1
  omega
theorem cmp_lays (w : World) (blk off size : Nat) : CmpLays Tryz.prog 61 #[] nvals 6 (fun x y : Nd => dcmp x.d y.d) blk off size w := by
  intro m os dk hdk x y
  obtain ⟨_, _, h⟩ := s_nodeCmp [.agg (Nd.av x), .agg (Nd.av y)] St.empty (.int .i64 (dcmp x.d y.d)) St.empty rfl
  have hv : ∀ x : Nd, VRs (fun _ => none) (Nd.av x) (nvals x) := fun x => by
    simp [Nd.av, nvals, toVal, VRs, VR]
  have := h (fun _ => none) (sortWorldK nvals 6 w blk off m dk os) [.agg (nvals x).toArray, .agg (nvals y).toArray] (fun _ _ => rfl) (R_empty _) (by
    rw [VRs_cons, VRs_cons]
    exact ⟨by simp only [VR]; exact ⟨_, rfl, hv x⟩, by simp only [VR]; exact ⟨_, rfl, hv y⟩, VRs_nil⟩)
  refine Calls.mono (by simpa using this) fun e w' hp => ?_
  obtain ⟨ρ', v, rfl, hv, hst, _⟩ := hp
  simp only [VR] at hv
  subst hv
  exact ⟨rfl, clean_grow (hst.clean (by simp [St.empty]))⟩
/-! ### Sorting nodes -/
def insN (x : Nd) : List Nd → List Nd
  | [] => [x]
  | y :: r => if x.d.before y.d = true then x :: y :: r else y :: insN x r
def sortN : List Nd → List Nd
  | [] => []
  | x :: r => insN x (sortN r)
def ltP (x y : Nd) : Prop := x.d.before y.d = true
theorem insN_perm (x : Nd) : ∀ l, (insN x l).Perm (x :: l)
  | [] => .refl _
  | y :: r => by
    unfold insN
    split
    · exact .refl _
    · exact ((insN_perm x r).cons y).trans (.swap x y r)
theorem sortN_perm : ∀ l, (sortN l).Perm l
  | [] => .refl _
  | x :: r => (insN_perm x _).trans ((sortN_perm r).cons x)
theorem sortN_len (l : List Nd) : (sortN l).length = l.length := (sortN_perm l).length_eq
theorem ltP_trans {x y z : Nd} (h : ltP x y) (k : ltP y z) : ltP x z := by
  unfold ltP at *
  obtain ⟨⟨_, _⟩, _, _, _⟩ := x
  obtain ⟨⟨_, _⟩, _, _, _⟩ := y
  obtain ⟨⟨_, _⟩, _, _, _⟩ := z
  simp only [Dot.before, Bool.or_eq_true, Bool.and_eq_true, decide_eq_true_eq] at *
  omega
theorem ltP_asymm {x y : Nd} (h : ltP x y) (k : ltP y x) : False := by
  have := ltP_trans h k
  unfold ltP at this
  rw [before_irr] at this
  cases this
theorem ltP_tri (x y : Nd) (h : x.d ≠ y.d) : ltP x y ∨ ltP y x := by
  unfold ltP
  rcases dcmp_cases x.d y.d with ⟨_, h1, _⟩ | ⟨_, _, h1⟩ | ⟨_, _, _, h1⟩
  · exact .inl h1
  · exact .inr h1
  · exact absurd h1 h
theorem insN_sorted (x : Nd) : ∀ l : List Nd, l.Pairwise ltP → (∀ y ∈ l, x.d ≠ y.d) → (insN x l).Pairwise ltP
  | [], _, _ => by simp [insN]
  | y :: r, h, hx => by
    unfold insN
    rw [List.pairwise_cons] at h
    split
    · rename_i hb
      rw [List.pairwise_cons, List.pairwise_cons]
      refine ⟨fun z hz => ?_, h⟩
      rcases List.mem_cons.1 hz with rfl | hz
      · exact hb
      · exact ltP_trans hb (h.1 z hz)
    · rename_i hb
      have hyx : ltP y x := (ltP_tri x y (hx y (by simp))).resolve_left hb
      rw [List.pairwise_cons]
      refine ⟨fun z hz => ?_, insN_sorted x r h.2 fun y hy => hx y (by simp [hy])⟩
      rcases List.mem_cons.1 ((insN_perm x r).mem_iff.1 hz) with rfl | hz
      · exact hyx
      · exact h.1 z hz
theorem sortN_sorted : ∀ l : List Nd, (l.map Nd.d).Nodup → (sortN l).Pairwise ltP
  | [], _ => by simp [sortN]
  | x :: r, h => by
    simp only [List.map_cons, List.nodup_cons] at h
    refine insN_sorted x _ (sortN_sorted r h.2) fun y hy e => h.1 ?_
    rw [e]
    exact List.mem_map_of_mem ((sortN_perm r).mem_iff.1 hy)
theorem sorted_unique : ∀ (l m : List Nd), l.Perm m → l.Pairwise ltP → m.Pairwise ltP → l = m
  | [], m, h, _, _ => (List.nil_perm.1 h).symm
  | x :: l, [], h, _, _ => absurd h.length_eq (by simp)
  | x :: l, y :: m, h, h1, h2 => by
    rw [List.pairwise_cons] at h1 h2
    have e : x = y := by
      by_cases e : x = y
      · exact e
      · have hx : x ∈ m := by
          rcases List.mem_cons.1 (h.mem_iff.1 (List.mem_cons_self ..)) with q | q
          · exact absurd q e
          · exact q
        have hy : y ∈ l := by
          rcases List.mem_cons.1 (h.mem_iff.2 (List.mem_cons_self ..)) with q | q
          · exact absurd q.symm e
          · exact q
        exact (ltP_asymm (h1.1 y hy) (h2.1 x hx)).elim
    subst e
    rw [sorted_unique l m h.cons_inv h1.2 h2.2]
def cSort (g : Nat) : Con := fun xs s => match xs with
  | [.nils, .fn g' []] => if g' = g then some (.tup [], s.lowed) else none
  | [.sl j 0 n none 6, .fn g' []] => if g' = g then match s.get j with
      | some (.row cs true) => match decL ndC n cs with
        | some l => if cs.length = n * 6 ∧ (l.map Nd.d).Nodup ∧ 0 < n ∧ n ≤ lim then some (.tup [], s.put j (.row (ndC.cells (sortN l)) true)) else none
        | none => none
      | _ => none
    else none
  | _ => none
theorem holds_of {ρ : Ren} {L : Loc} {w : World} {l : List Nd} (h : BlkOk ρ L w (.row (ndC.cells l) true)) : HoldsK nvals 6 w L.b L.o l.toArray := by
  simp only [BlkOk] at h
  obtain ⟨cs, e, fr, h1, h2, h3, h4, h5, _⟩ := h
  rw [cells_len] at h3
  intro j hj
  have hj : j < l.length * 6 := by simpa using hj
  obtain ⟨x, hx⟩ := getsome (l := l) (i := j / 6) (by omega)
  have h6 : (Nd.av x).length = 6 := rfl
  obtain ⟨v, hv⟩ : ∃ v, (Nd.av x)[j % 6]? = some v := ⟨(Nd.av x)[j % 6]'(by omega), by simp⟩
  obtain ⟨c, hc, hr⟩ := h4 j v (by rw [cells_get, hx]; exact hv)
  have hn := nd_val hv hr
  have e1 : (flatK nvals 6 l.toArray)[j]! = c := by
    rw [get_flatK _ _ _ _ (by simpa using hj)]
    have : l.toArray[j / 6]! = x := by simp [hx]
    rw [this]
    simp [hn]
  have h66 : ndC.sz = 6 := rfl
  rw [h66] at h3
  have hfr := h5 trivial (L.o + j) (by omega)
  constructor
  · simp only [World.cell?, h1, id, e1]
    simpa using hc
  · simp only [World.frozen?, h1]
    exact hfr
theorem blk_after {ρ : Ren} {L : Loc} {w : World} {l m : List Nd} (h : BlkOk ρ L w (.row (ndC.cells l) true)) (hm : m.length = l.length) (n : Nat) : BlkOk ρ L (putRowK nvals 6 (Sort.ahead w n) L.b L.o m.toArray) (.row (ndC.cells m) true) := by
  simp only [BlkOk] at h ⊢
  obtain ⟨cs, e, fr, h1, h2, h3, h4, h5, _⟩ := h
  rw [cells_len] at h3
  have h6 : ndC.sz = 6 := rfl
  refine ⟨Sort.putCells id L.o (flatK nvals 6 m.toArray) cs, e, fr, ?_, by simp [Sort.putCells, h2], by rw [cells_len, hm]; exact h3, fun i v hv => ?_, h5, cells_one' ndC m⟩
  · simp only [putRowK, Sort.putRow, Sort.mapBlock, Sort.ahead]
    rw [Array.getElem?_modify]
    simp [h1, Sort.onCells]
  · have hi := (List.getElem?_eq_some_iff.1 hv).1
    rw [cells_len] at hi
    rw [cells_get] at hv
    rw [h6] at hi
    obtain ⟨x, hx⟩ := getsome (l := m) (i := i / 6) (by omega)
    rw [hx] at hv
    obtain ⟨c, hc, hr⟩ := nd_VR (ρ := ρ) hv
    refine ⟨c, ?_, hr⟩
    have e1 : (flatK nvals 6 m.toArray)[i]! = c := by
      rw [get_flatK _ _ _ _ (by simp; omega)]
      have : m.toArray[i / 6]! = x := by simp [hx]
      rw [this]
      simp [hc]
    simp only [Sort.putCells, Array.getElem?_mapIdx]
    have hlt : L.o + i < cs.size := by
      rw [h6, ← hm] at h3
      rw [h2]
      omega
    rw [Array.getElem?_eq_getElem hlt]
    simp only [Option.map_some, size_flatK, List.size_toArray]
    rw [if_pos (by omega)]
    simp [e1]
theorem s_sort : SoundAt Tryz.prog 60 (cSort 61) := by
  intro xs s r s' h
  have hk : callable Tryz.prog 60 = true := k60
  have hf : Tryz.sortNode_ren.f 6 = 60 := rfl
  unfold cSort at h
  split at h
  · split at h
    · rename_i e
      subst e
      injection h with h
      obtain ⟨rfl, rfl⟩ := Prod.mk.inj h
      refine ⟨hk, gk_lowed s, fun ρ w cargs hfree hR hargs => ?_⟩
      obtain ⟨a1, r1, rfl, v1, w1⟩ : ∃ c r, cargs = c :: r ∧ VR ρ .nils c ∧ VRs ρ [.fn 61 []] r := by simpa only [VRs] using hargs
      obtain ⟨a2, r2, rfl, v2, w2⟩ : ∃ c r, r1 = c :: r ∧ VR ρ (.fn 61 []) c ∧ VRs ρ [] r := by simpa only [VRs] using w1
      simp only [VRs] at w2
      subst w2
      simp only [VR] at v1
      subst v1
      refine (AnyF.slices_SortFunc_none Tryz.sortNode none 0 a2 w).mono fun e w' hp => ?_
      obtain ⟨rfl, rfl⟩ := hp
      have hst := Step.refl s ρ w'
      exact ⟨ρ, _, rfl, by simp [VR, VRs], ⟨Nat.le_refl _, Nat.min_le_left _ _, hst.ren, hst.size, rfl, rfl, rfl, hst.drawn, fun b hb H => rfl, hst.old, fun id L blk e1 _ e3 _ => absurd (St.get_lt e3) (by rw [lowed_next]; omega), fun _ _ _ => rfl⟩, ⟨hR.bound, hR.blk, hR.inj⟩⟩
    · cases h
  · rename_i j n g'
    split at h
    · rename_i e
      subst e
      split at h
      · rename_i cs hg
        split at h
        · rename_i l hd
          split at h
          · rename_i hc
            obtain ⟨hc1, hnd, hpos, hlim⟩ := hc
            injection h with h
            obtain ⟨rfl, rfl⟩ := Prod.mk.inj h
            obtain ⟨d1, d2, d3⟩ := decL_some hd
            have hcs : cs = ndC.cells l := by rw [← d3, show n * ndC.sz = cs.length from hc1.symm]; simp
            subst hcs
            refine ⟨hk, ⟨grow_put _ hg, keeps_put _ hg⟩, fun ρ w cargs hfree hR hargs => ?_⟩
            obtain ⟨a1, r1, rfl, v1, w1⟩ : ∃ c r, cargs = c :: r ∧ VR ρ (.sl j 0 n none 6) c ∧ VRs ρ [.fn 61 []] r := by simpa only [VRs] using hargs
            obtain ⟨a2, r2, rfl, v2, w2⟩ : ∃ c r, r1 = c :: r ∧ VR ρ (.fn 61 []) c ∧ VRs ρ [] r := by simpa only [VRs] using w1
            simp only [VRs] at w2
            subst w2
            simp only [VR] at v1 v2
            obtain ⟨L, a, c, hL, rfl, hle, _, hca⟩ := v1
            obtain ⟨cb, rfl, hcb⟩ := v2
            simp only [VRs] at hcb
            subst hcb
            rcases hca with rfl | ⟨rfl, hcap⟩
            · omega
            have hb := hR.blk j _ L hg hL
            have hH := holds_of hb
            have hlt := hR.bound j L hL
            have hsz : l.toArray.size = n := by simpa using d1
            have main := AnyQ.slices_SortFunc Tryz.sortNode 6 Tryz.isAgg26 Tryz.sizeOf26 nvals nvals_len nvals_one (fun x y : Nd => dcmp x.d y.d) swo 61 #[] L.b L.o c l.toArray w (enters_of Tryz.func61 (by kernel_rfl) rfl) (cmp_lays w L.b L.o l.toArray.size) hH hlt (by rw [hsz]; unfold lim at hlim; omega)
            rw [hsz] at main
            have main : Calls Tryz.prog 60 _ w _ := main
            refine main.mono fun e w' hp => ?_
            obtain ⟨rfl, d', nn, os, ⟨p1, _, p2⟩, hsrt, rfl⟩ := hp
            have hsz' : d'.size = n := by rw [p1, hsz]
            have hd' : d'.toList = sortN l := by
              have hp : d'.toList.Perm l := by
                have e1 : d'.extract 0 n = d' := by rw [← hsz']; simp
                have e2 : l.toArray.extract 0 n = l.toArray := by rw [← hsz]; simp
                rw [e1, e2] at p2
                exact p2
              refine sorted_unique _ _ (hp.trans (sortN_perm l).symm) ?_ (sortN_sorted l hnd)
              rw [List.pairwise_iff_getElem]
              intro i j hi hj hij
              have h1 := hsrt i j (Nat.zero_le _) hij (by simpa [hsz'] using hj)
              have hnd' : (d'.toList.map Nd.d).Nodup := (hp.map Nd.d).nodup_iff.2 hnd
              have hne : d'.toList[i].d ≠ d'.toList[j].d := by
                have := List.pairwise_iff_getElem.1 hnd' i j (by simpa using hi) (by simpa using hj) hij
                simpa using this
              have e1 : d'[i]! = d'.toList[i] := by
                simp at hi
                simp [hi]
              have e2 : d'[j]! = d'.toList[j] := by
                simp at hj
                simp [hj]
              rw [e1, e2] at h1
              rcases ltP_tri _ _ hne with q | q
              · exact q
              · unfold ltP at q
                unfold ltOf at h1
                rcases dcmp_cases d'.toList[j].d d'.toList[i].d with ⟨hh, _, _⟩ | ⟨hh, hh2, _⟩ | ⟨hh, hh2, _⟩
                · simp only [hh] at h1; exact absurd h1 (by decide)
                · rw [hh2] at q; cases q
                · rw [hh2] at q; cases q
            have hd'' : d' = (sortN l).toArray := by rw [← hd']
            subst hd''
            obtain ⟨hR1, hS1⟩ := R.put (b := .row (ndC.cells (sortN l)) true) hR hg rfl hL (blk_after hb (sortN_len l) nn) (by simp [putRowK, Sort.putRow, Sort.mapBlock, Sort.ahead]) rfl rfl rfl (by show w.drawn ≤ w.drawn + nn; omega) (by
              intro k hk'
              simp only [putRowK, Sort.putRow, Sort.mapBlock, Sort.ahead]
              rw [Array.getElem?_modify, if_neg (Ne.symm hk')])
            have hcl : Clean (putRowK nvals 6 (Sort.ahead w nn) L.b L.o (sortN l).toArray) (sortWorldK nvals 6 w L.b L.o nn (sortN l).toArray os) := by
              refine ⟨by simp [sortWorldK, Sort.grow], rfl, rfl, rfl, Nat.le_refl _, fun b hb => ?_⟩
              simp only [sortWorldK, Sort.grow]
              rw [Array.getElem?_append_left hb]
            exact ⟨ρ, _, rfl, by simp [VR, VRs], hS1.trans (hcl.step _ ρ), hR1.clean hcl⟩
          · cases h
        · cases h
      · cases h
    · cases h
  · cases h
end Go.AM
end
/-
  store.Of. Own work of this project; in part printed by a program of it.
-/
section
set_option linter.unusedVariables false
set_option linter.unusedSimpArgs false
set_option maxRecDepth 100000
set_option maxHeartbeats 8000000
namespace Go.AM
open Go Go.Proofs

variable {s t : St}
theorem sto_over {n : Nat} {s : St} (h : sameN n s) (x y : Nd) : sto (s.push (.row (Nd.av x) true)) 6 (.ptr n 0) (.agg (Nd.av y)) = some (.und, s.lowed.push (.row (Nd.av y) true)) := by
  unfold sameN at h
  subst h
  simp only [sto, St.get_push_new, push_put]
  rfl
/-- What is there of the nodes so far: merged, and alive. -/
def ofStep (M A : List Nd) (n : Nd) : Option (List Nd × List Nd) :=
  if (match lookN A n.d with
    | some (_, x) => x.clash n
    | none => false) = true then none
  else match lookN M n.d with
    | some (_, old) => if old.clash n = true then none else some (updN M (old.merge n), if n.x = 0 then A else updN A n)
    | none => some (updN M n, if n.x = 0 then A else updN A n)
def ofFold : List Nd → List Nd → List Nd → Option (List Nd)
  | [], M, _ => some M
  | n :: r, M, A => match ofStep M A n with
    | some (M', A') => ofFold r M' A'
    | none => none
def gOf (l : List Nd) : Option (List Nd × Option AV) :=
  if l.all Nd.valid = true then match ofFold l [] [] with
    | some M => some (sortN M, some (.int .i64 0))
    | none => some ([], some (.int .i64 15))
  else some ([], some (.int .i64 2))
theorem gOf_plain {a : List Nd} {l : List Nd} {e : Option AV} (h : gOf a = some (l, e)) : ∀ x, e = some x → x.plain = true := by
  unfold gOf at h
  repeat' split at h
  all_goals
    injection h with h
    obtain ⟨_, rfl⟩ := Prod.mk.inj h
    intro x hx
    injection hx with hx
    subst hx
    rfl
theorem updN_mem {l : List Nd} {x y : Nd} (h : y ∈ updN l x) : y = x ∨ y ∈ l := by
  unfold updN at h
  split at h
  · rcases List.mem_or_eq_of_mem_set h with h | h
    · exact .inr h
    · exact .inl h
  · rcases List.mem_append.1 h with h | h
    · exact .inr h
    · exact .inl (by simpa using h)
theorem updN_len (l : List Nd) (x : Nd) : (updN l x).length ≤ l.length + 1 := by
  unfold updN
  split <;> simp
theorem updN_nodup {l : List Nd} {x : Nd} (h : (l.map Nd.d).Nodup) : ((updN l x).map Nd.d).Nodup := by
  unfold updN
  split
  · rename_i j y hj
    obtain ⟨h1, h2⟩ := lookN_some hj
    rw [List.map_set, ← h2]
    have : (l.map Nd.d).set j y.d = l.map Nd.d := by
      apply List.ext_getElem?
      intro k
      rw [List.getElem?_set]
      split
      · rename_i e
        subst e
        split
        · simp [h1]
        · rename_i hk
          have := getlt h1
          simp at hk
          omega
      · rfl
    rw [this]
    exact h
  · rename_i hj
    rw [List.map_append, List.nodup_append]
    refine ⟨h, by simp, ?_⟩
    intro a ha b hb e
    simp at hb
    subst hb
    subst e
    obtain ⟨y, hy, e⟩ := List.mem_map.1 ha
    exact lookN_none hj y hy e
theorem merge_valid {a b : Nd} (ha : a.valid = true) (hb : b.valid = true) : (a.merge b).valid = true := by
  unfold Nd.merge
  split <;> assumption
theorem merge_d {a b : Nd} (h : a.d = b.d) : (a.merge b).d = b.d := by
  unfold Nd.merge
  split <;> simp [h]
theorem range_get (M : List Nd) : (List.range M.length).map (fun i => M[i]?) = M.map some := by
  apply List.ext_getElem?
  intro i
  rw [List.getElem?_map, List.getElem?_map]
  by_cases h : i < M.length
  · rw [List.getElem?_range h]
    simp [h]
  · rw [List.getElem?_eq_none (by simpa using h), List.getElem?_eq_none (by omega)]
    rfl
theorem seen_perm {M acc : List Nd} {seen : List Nat} (h1 : seen.Nodup) (h2 : ∀ i ∈ seen, i < M.length) (h3 : acc.map some = seen.map fun i => M[i]?) (h4 : ∀ i, i < M.length → i ∈ seen) : acc.Perm M := by
  have hp : seen.Perm (List.range M.length) := (List.perm_ext_iff_of_nodup h1 List.nodup_range).2 fun i => by
    rw [List.mem_range]
    exact ⟨h2 i, h4 i⟩
  have h5 := hp.map fun i => M[i]?
  rw [← h3, range_get] at h5
  have h6 := h5.filterMap (fun x => x)
  have e : ∀ l : List Nd, (l.map some).filterMap (fun x => x) = l := by
    intro l
    induction l with
    | nil => rfl
    | cons x r ih => simp [ih]
  rwa [e, e] at h6
theorem sort_own {v : AV} {acc : List Nd} (hK : Keep s t) (hO : Own ndC s t v acc) (hnd : (acc.map Nd.d).Nodup) (hl : acc.length ≤ lim) (g : Nat) : ∃ t3, acall (cSort g) false [v, .fn g []] t = some (.tup [], t3) ∧ Keep s t3 ∧ Own ndC s t3 v (sortN acc) := by
  rcases hO with ⟨rfl, rfl⟩ | ⟨j, rfl, h0, h1, h⟩
  · exact ⟨t, acall_rol (by simp [cSort]) rfl, hK, .nil _ _ _⟩
  · have hpos : 0 < acc.length := List.length_pos_iff.2 h0
    have hd : decL ndC acc.length (ndC.cells acc) = some acc := by
      have := decL_cells ndC acc []
      rwa [List.append_nil] at this
    have h6 : ndC.sz = 6 := rfl
    have hlen : (ndC.cells acc).length = acc.length * 6 := by rw [cells_len, h6]
    have hc : cSort g [.sl j 0 acc.length none ndC.sz, .fn g []] { heap := t.heap, next := t.next, low := t.next } = some (.tup [], ({ heap := t.heap, next := t.next, low := t.next } : St).put j (.row (ndC.cells (sortN acc)) true)) := by
      have hg : ({ heap := t.heap, next := t.next, low := t.next } : St).get j = some (.row (ndC.cells acc) true) := h
      rw [h6]
      simp only [cSort, if_true, hg, hd, hlen, hnd, hpos, hl, and_self]
    have hlt := St.get_lt h
    refine ⟨t.put j (.row (ndC.cells (sortN acc)) true), ?_, hK.put _ h1 hlt, .inr ⟨j, by rw [sortN_len], ?_, h1, St.get_put_same h⟩⟩
    · simp only [acall, hc]
      have e : (AV.tup []).ground = true := rfl
      have e3 : decide (t.next ≤ (({ heap := t.heap, next := t.next, low := t.next } : St).put j (.row (ndC.cells (sortN acc)) true)).low) = false := decide_eq_false (by simp only [St.low_put]; omega)
      rw [e, e3]
      simp only [Bool.and_false, Bool.false_eq_true, if_false, St.put]
      congr 3
      omega
    · intro e
      have := sortN_len acc
      rw [e] at this
      simp at this
      omega
theorem s_Of : SoundAt Tryz.prog 29 (conF ndC (pL ndC gOf)) :=
  con_fresh (tb_sound (l := [(56, conLfn fHasBad 57), (58, conNN fMerge), (59, conN fDead), (60, cSort 61)]) (by simpa using ⟨s_HasBad, s_Merge, s_Dead, s_sort⟩)) mixed Tryz.func29 k29 c29 fun args s r ee h => by
    obtain ⟨v, l, rfl, hr, hl, hp⟩ := pL_some h
    refine ⟨gOf_plain hp, by simp [a29], fun env hlen ha => ?_⟩
    have h0 : E env 0 = _ := ha 0 _ rfl
    have hlen : elen env = _ := hlen
    simp only [a29] at hlen
    unfold a29
    try dsimp only [oO, oG]
    have hL := lenV_read hr
    have q1 := q_HasBad false hr hl
    unfold gOf at hp
    cases hv : l.all Nd.valid
    · rw [hv] at hp q1
      simp only [Bool.false_eq_true, if_false] at hp
      injection hp with hp
      obtain ⟨rfl, rfl⟩ := Prod.mk.inj hp
      simp (config := {contextual := true, maxDischargeDepth := 12}) only [tb, q1, h0, hlen, ↓bD, bU, forall_const, bS, implies_true, isNx, cs_dec, cs_not, cs_and, cs_or, cs_valid, eq_self, ↓wp_cond, ↓wp_loop, ↓reduceIte, reduceCtorEq, Nat.reduceEqDiff, Nat.reduceLT, Nat.reduceAdd, Nat.reduceMul, Int.ofNat_lt, Int.ofNat_le, exists_const, ae_app, ap_slc, Option.map_none, mkR_none, mkR_some, ar_look, ae_mset, ae_rng, ae_mkmap0, ar_ent, lookV_push, lookV_lowed, msetV_push, msetV_lowed, lt_put, same_put, sto_over, sto_lowed, cs_dead, Option.map_some]
      exact ⟨_, rfl, .nil _ _ _⟩
    · rw [hv] at hp q1
      simp only [if_true] at hp
      have hA : ∀ x ∈ l, x.valid = true := by simpa using hv
      simp (config := {contextual := true, maxDischargeDepth := 12}) only [tb, q1, h0, hlen, hL, ↓bD, bU, forall_const, bS, implies_true, isNx, cs_dec, cs_not, cs_and, cs_or, cs_valid, eq_self, ↓wp_cond, ↓wp_loop, ↓reduceIte, reduceCtorEq, Nat.reduceEqDiff, Nat.reduceLT, Nat.reduceAdd, Nat.reduceMul, Int.ofNat_lt, Int.ofNat_le, exists_const, ae_app, ap_slc, Option.map_none, mkR_none, mkR_some, ar_look, ae_mset, ae_rng, ae_mkmap0, ar_ent, lookV_push, lookV_lowed, msetV_push, msetV_lowed, lt_put, same_put, sto_over, sto_lowed, cs_dead, Option.map_some]
      obtain ⟨mM, hmM⟩ : ∃ mM, mM = s.next := ⟨_, rfl⟩
      obtain ⟨mA, hmA⟩ : ∃ mA, mA = (s.push (.map [] 0)).next := ⟨_, rfl⟩
      obtain ⟨I, hI⟩ : ∃ I : Nat → Env → St → Prop, ∀ n e t, I n e t = (Keep s t ∧ ∃ (i : Nat) (M A : List Nd), n + i = l.length ∧ elen e = 89 ∧ E e 23 = v ∧ E e 24 = .int .i64 (l.length : Int) ∧ E e 25 = .int .i64 (i : Int) ∧ E e 4 = .mp mM ∧ E e 5 = .mp mA ∧ t.get mM = some (mapN M) ∧ t.get mA = some (mapN A) ∧ ofFold l [] [] = ofFold (l.drop i) M A ∧ (∀ x ∈ M, x.valid = true) ∧ (∀ x ∈ A, x.valid = true) ∧ M.length ≤ i ∧ (M.map Nd.d).Nodup) := ⟨fun n e t => (Keep s t ∧ ∃ (i : Nat) (M A : List Nd), n + i = l.length ∧ elen e = 89 ∧ E e 23 = v ∧ E e 24 = .int .i64 (l.length : Int) ∧ E e 25 = .int .i64 (i : Int) ∧ E e 4 = .mp mM ∧ E e 5 = .mp mA ∧ t.get mM = some (mapN M) ∧ t.get mA = some (mapN A) ∧ ofFold l [] [] = ofFold (l.drop i) M A ∧ (∀ x ∈ M, x.valid = true) ∧ (∀ x ∈ A, x.valid = true) ∧ M.length ≤ i ∧ (M.map Nd.d).Nodup), fun _ _ _ => rfl⟩
      refine lwp_inv I (n := l.length) ?_ ?_
      · rw [hI]
        refine ⟨((Keep.refl s).push _).push _, 0, [], [], by omega, by simp only [E_pne, E_psame, elen_put, Nat.reduceEqDiff, ne_eq, not_false_eq_true, Nat.reduceLT, hlen], by simp only [E_pne, E_psame, elen_put, Nat.reduceEqDiff, ne_eq, not_false_eq_true, Nat.reduceLT, hlen], by simp only [E_pne, E_psame, elen_put, Nat.reduceEqDiff, ne_eq, not_false_eq_true, Nat.reduceLT, hlen], by simp only [E_pne, E_psame, elen_put, Nat.reduceEqDiff, ne_eq, not_false_eq_true, Nat.reduceLT, hlen]; rfl, by rw [hmM]; simp only [E_pne, E_psame, elen_put, Nat.reduceEqDiff, ne_eq, not_false_eq_true, Nat.reduceLT, hlen], by rw [hmA]; simp only [E_pne, E_psame, elen_put, Nat.reduceEqDiff, ne_eq, not_false_eq_true, Nat.reduceLT, hlen], ?_, ?_, rfl, by simp, by simp, by simp, by simp⟩
        · rw [hmM]
          rw [St.get_push_old _ _ (Nat.lt_succ_self _), St.get_push_new]
          rfl
        · rw [hmA, St.get_push_new]
          rfl
      intro n e t hi
      rw [hI] at hi
      obtain ⟨hK, i, M, A, hn, he, e23, e24, e25, e4, e5, gM, gA, hfold, hvM, hvA, hMi, hnd⟩ := hi
      have lM := lt_of_get gM
      have lA := lt_of_get gA
      have hmA' : s.next ≤ mA := by rw [hmA]; simp
      have hmM' : s.next ≤ mM := by rw [hmM]; exact Nat.le_refl _
      have hne : mM ≠ mA := by rw [hmM, hmA]; simp
      by_cases hlt : i < l.length
      · obtain ⟨x, hx⟩ := getsome hlt
        have hw2 := wrap_add1 (n := i) (by unfold lim at hl; omega)
        obtain ⟨a1, _⟩ := nd_lods hr hK hx
        have i1 := nd_idx hr hx .i64
        have vx := hA x (List.mem_of_getElem? hx)
        have hdr : l.drop i = x :: l.drop (i + 1) := by
          rw [List.drop_eq_getElem_cons hlt]
          congr 1
          have := (List.getElem?_eq_some_iff.1 hx).2
          exact this
        rw [hdr, ofFold, ofStep] at hfold
        have h15 : ((15 : Int) = 0) = False := by decide
        cases ha2 : lookN A x.d with
        | none =>
          have lkA := look_miss gA ha2 (.agg [.int .i64 0, .int .i64 0, .int .i64 0, .int .i64 0, .int .i64 0, .int .i32 0])
          rw [ha2] at hfold
          simp only [Bool.false_eq_true, if_false] at hfold
          by_cases hd : x.x = 0
          · have tAe : ∃ tA, tA = t := ⟨_, rfl⟩
            obtain ⟨tA, htA⟩ := tAe
            have hx0 : (x.x = 0) = True := eq_true hd
            have gMA : tA.get mM = some (mapN M) := by rw [htA]; exact gM
            have gAA : tA.get mA = some (mapN A) := by rw [htA]; exact gA
            have hKA : Keep s tA := by rw [htA]; exact hK
            have hs1 : sameN t.next tA := by rw [htA]; rfl
            have hvA2 := hvA
            rw [if_pos hd] at hfold
            have lMA := lt_of_get gMA
            cases hm : lookN M x.d with
            | none =>
              have lkM := look_miss gMA hm (.agg [.int .i64 0, .int .i64 0, .int .i64 0, .int .i64 0, .int .i64 0, .int .i32 0])
              have mM2 := mset_map gMA x
              rw [hm] at hfold
              simp only at hfold
              obtain ⟨tB, htB⟩ : ∃ tB, tB = tA.put mM (mapN (updN M x)) := ⟨_, rfl⟩
              rw [← htB] at mM2
              have gMB : tB.get mM = some (mapN (updN M x)) := by rw [htB]; exact St.get_put_same gMA
              have gAB : tB.get mA = some (mapN A) := by rw [htB, St.get_put_ne _ _ lMA (Ne.symm hne)]; exact gAA
              have hKB : Keep s tB := by rw [htB]; exact hKA.put _ hmM' lMA
              have lMB := lt_of_get gMB
              have lAB := lt_of_get gAB
              have hs2 : sameN t.next tB := by rw [htB]; exact hs1
              subst htA
              simp (config := {contextual := true, maxDischargeDepth := 12}) only [tb, q_Merge, q_Dead, e23, e24, e25, e4, e5, he, hlt, hw2, a1, i1, lM, lA, lkA, hx0, lkM, mM2, hs1, hs2, lMA, lMB, lAB, ↓bD, bU, forall_const, bS, implies_true, isNx, cs_dec, cs_not, cs_and, cs_or, cs_valid, eq_self, ↓wp_cond, ↓wp_loop, ↓reduceIte, reduceCtorEq, Nat.reduceEqDiff, Nat.reduceLT, Nat.reduceAdd, Nat.reduceMul, Int.ofNat_lt, Int.ofNat_le, exists_const, ae_app, ap_slc, Option.map_none, mkR_none, mkR_some, ar_look, ae_mset, ae_rng, ae_mkmap0, ar_ent, lookV_push, lookV_lowed, msetV_push, msetV_lowed, lt_put, same_put, sto_over, sto_lowed, cs_dead, Option.map_some]
              refine ⟨n - 1, by omega, ?_⟩
              rw [hI]
              refine ⟨by simp (config := {maxDischargeDepth := 12}) only [kt_push, kt_lowed, hKB], i + 1, updN M x, A, by omega, by simp only [E_pne, E_psame, elen_put, Nat.reduceEqDiff, ne_eq, not_false_eq_true, Nat.reduceLT, he], by simp only [E_pne, E_psame, elen_put, Nat.reduceEqDiff, ne_eq, not_false_eq_true, Nat.reduceLT, e23], by simp only [E_pne, E_psame, elen_put, Nat.reduceEqDiff, ne_eq, not_false_eq_true, Nat.reduceLT, e24], by simp only [E_pne, E_psame, elen_put, Nat.reduceEqDiff, ne_eq, not_false_eq_true, Nat.reduceLT, he], by simp only [E_pne, E_psame, elen_put, Nat.reduceEqDiff, ne_eq, not_false_eq_true, Nat.reduceLT, e4], by simp only [E_pne, E_psame, elen_put, Nat.reduceEqDiff, ne_eq, not_false_eq_true, Nat.reduceLT, e5], ?_, ?_, hfold, fun y hy => ?_, hvA2, by have := updN_len M x; omega, updN_nodup hnd⟩
              · simp (config := {maxDischargeDepth := 12}) only [gt_push, lt_push, lt_lowed, lowed_get, lMB, gMB]
              · simp (config := {maxDischargeDepth := 12}) only [gt_push, lt_push, lt_lowed, lowed_get, lAB, gAB]
              · rcases updN_mem hy with rfl | hy
                · exact vx
                · exact hvM y hy
            | some p =>
              obtain ⟨jj, old⟩ := p
              obtain ⟨ho1, ho2⟩ := lookN_some hm
              have vo := hvM old (List.mem_of_getElem? ho1)
              have lkM := look_hit gMA hm (.agg [.int .i64 0, .int .i64 0, .int .i64 0, .int .i64 0, .int .i64 0, .int .i32 0])
              rw [hm] at hfold
              simp only at hfold
              by_cases hc2 : old.clash x = true
              · have hg2 : mergeV old x = .tup [.agg (Nd.av nd0), .int .i64 15] := by simp [mergeV, vo, vx, hc2]
                rw [if_pos hc2] at hfold
                simp only at hfold
                rw [hfold] at hp
                injection hp with hp
                obtain ⟨rfl, rfl⟩ := Prod.mk.inj hp
                subst htA
                simp (config := {contextual := true, maxDischargeDepth := 12}) only [tb, q_Merge, q_Dead, e23, e24, e25, e4, e5, he, hlt, hw2, a1, i1, lM, lA, lkA, hx0, lkM, hg2, h15, hs1, lMA, ↓bD, bU, forall_const, bS, implies_true, isNx, cs_dec, cs_not, cs_and, cs_or, cs_valid, eq_self, ↓wp_cond, ↓wp_loop, ↓reduceIte, reduceCtorEq, Nat.reduceEqDiff, Nat.reduceLT, Nat.reduceAdd, Nat.reduceMul, Int.ofNat_lt, Int.ofNat_le, exists_const, ae_app, ap_slc, Option.map_none, mkR_none, mkR_some, ar_look, ae_mset, ae_rng, ae_mkmap0, ar_ent, lookV_push, lookV_lowed, msetV_push, msetV_lowed, lt_put, same_put, sto_over, sto_lowed, cs_dead, Option.map_some]
                exact ⟨by simp (config := {maxDischargeDepth := 12}) only [kt_push, kt_lowed, hKA], _, rfl, .nil _ _ _⟩
              · have hg2 : mergeV old x = .tup [.agg (Nd.av (old.merge x)), .int .i64 0] := by simp [mergeV, vo, vx, hc2]
                rw [if_neg hc2] at hfold
                simp only at hfold
                have mM2 := mset_map gMA (old.merge x)
                obtain ⟨tB, htB⟩ : ∃ tB, tB = tA.put mM (mapN (updN M (old.merge x))) := ⟨_, rfl⟩
                rw [← htB] at mM2
                have gMB : tB.get mM = some (mapN (updN M (old.merge x))) := by rw [htB]; exact St.get_put_same gMA
                have gAB : tB.get mA = some (mapN A) := by rw [htB, St.get_put_ne _ _ lMA (Ne.symm hne)]; exact gAA
                have hKB : Keep s tB := by rw [htB]; exact hKA.put _ hmM' lMA
                have lMB := lt_of_get gMB
                have lAB := lt_of_get gAB
                have hs2 : sameN t.next tB := by rw [htB]; exact hs1
                subst htA
                simp (config := {contextual := true, maxDischargeDepth := 12}) only [tb, q_Merge, q_Dead, e23, e24, e25, e4, e5, he, hlt, hw2, a1, i1, lM, lA, lkA, hx0, hg2, lkM, mM2, hs1, hs2, lMA, lMB, lAB, ↓bD, bU, forall_const, bS, implies_true, isNx, cs_dec, cs_not, cs_and, cs_or, cs_valid, eq_self, ↓wp_cond, ↓wp_loop, ↓reduceIte, reduceCtorEq, Nat.reduceEqDiff, Nat.reduceLT, Nat.reduceAdd, Nat.reduceMul, Int.ofNat_lt, Int.ofNat_le, exists_const, ae_app, ap_slc, Option.map_none, mkR_none, mkR_some, ar_look, ae_mset, ae_rng, ae_mkmap0, ar_ent, lookV_push, lookV_lowed, msetV_push, msetV_lowed, lt_put, same_put, sto_over, sto_lowed, cs_dead, Option.map_some]
                refine ⟨n - 1, by omega, ?_⟩
                rw [hI]
                refine ⟨by simp (config := {maxDischargeDepth := 12}) only [kt_push, kt_lowed, hKB], i + 1, updN M (old.merge x), A, by omega, by simp only [E_pne, E_psame, elen_put, Nat.reduceEqDiff, ne_eq, not_false_eq_true, Nat.reduceLT, he], by simp only [E_pne, E_psame, elen_put, Nat.reduceEqDiff, ne_eq, not_false_eq_true, Nat.reduceLT, e23], by simp only [E_pne, E_psame, elen_put, Nat.reduceEqDiff, ne_eq, not_false_eq_true, Nat.reduceLT, e24], by simp only [E_pne, E_psame, elen_put, Nat.reduceEqDiff, ne_eq, not_false_eq_true, Nat.reduceLT, he], by simp only [E_pne, E_psame, elen_put, Nat.reduceEqDiff, ne_eq, not_false_eq_true, Nat.reduceLT, e4], by simp only [E_pne, E_psame, elen_put, Nat.reduceEqDiff, ne_eq, not_false_eq_true, Nat.reduceLT, e5], ?_, ?_, hfold, fun y hy => ?_, hvA2, by have := updN_len M (old.merge x); omega, updN_nodup hnd⟩
                · simp (config := {maxDischargeDepth := 12}) only [gt_push, lt_push, lt_lowed, lowed_get, lMB, gMB]
                · simp (config := {maxDischargeDepth := 12}) only [gt_push, lt_push, lt_lowed, lowed_get, lAB, gAB]
                · rcases updN_mem hy with rfl | hy
                  · exact (merge_valid vo vx)
                  · exact hvM y hy
          · have tAe : ∃ tA, tA = t.put mA (mapN (updN A x)) := ⟨_, rfl⟩
            obtain ⟨tA, htA⟩ := tAe
            have hx0 : (x.x = 0) = False := eq_false hd
            have gMA : tA.get mM = some (mapN M) := by rw [htA, St.get_put_ne _ _ lA hne]; exact gM
            have gAA : tA.get mA = some (mapN (updN A x)) := by rw [htA]; exact St.get_put_same gA
            have hKA : Keep s tA := by rw [htA]; exact hK.put _ hmA' lA
            have hs1 : sameN t.next tA := by rw [htA]; rfl
            have mS := mset_map gA x
            rw [← htA] at mS
            have hvA2 : ∀ y ∈ updN A x, y.valid = true := fun y hy => by
              rcases updN_mem hy with rfl | hy
              · exact vx
              · exact hvA y hy
            rw [if_neg hd] at hfold
            have lMA := lt_of_get gMA
            cases hm : lookN M x.d with
            | none =>
              have lkM := look_miss gMA hm (.agg [.int .i64 0, .int .i64 0, .int .i64 0, .int .i64 0, .int .i64 0, .int .i32 0])
              have mM2 := mset_map gMA x
              rw [hm] at hfold
              simp only at hfold
              obtain ⟨tB, htB⟩ : ∃ tB, tB = tA.put mM (mapN (updN M x)) := ⟨_, rfl⟩
              rw [← htB] at mM2
              have gMB : tB.get mM = some (mapN (updN M x)) := by rw [htB]; exact St.get_put_same gMA
              have gAB : tB.get mA = some (mapN (updN A x)) := by rw [htB, St.get_put_ne _ _ lMA (Ne.symm hne)]; exact gAA
              have hKB : Keep s tB := by rw [htB]; exact hKA.put _ hmM' lMA
              have lMB := lt_of_get gMB
              have lAB := lt_of_get gAB
              have hs2 : sameN t.next tB := by rw [htB]; exact hs1
              simp (config := {contextual := true, maxDischargeDepth := 12}) only [tb, q_Merge, q_Dead, e23, e24, e25, e4, e5, he, hlt, hw2, a1, i1, lM, lA, lkA, hx0, mS, lkM, mM2, hs1, hs2, lMA, lMB, lAB, ↓bD, bU, forall_const, bS, implies_true, isNx, cs_dec, cs_not, cs_and, cs_or, cs_valid, eq_self, ↓wp_cond, ↓wp_loop, ↓reduceIte, reduceCtorEq, Nat.reduceEqDiff, Nat.reduceLT, Nat.reduceAdd, Nat.reduceMul, Int.ofNat_lt, Int.ofNat_le, exists_const, ae_app, ap_slc, Option.map_none, mkR_none, mkR_some, ar_look, ae_mset, ae_rng, ae_mkmap0, ar_ent, lookV_push, lookV_lowed, msetV_push, msetV_lowed, lt_put, same_put, sto_over, sto_lowed, cs_dead, Option.map_some]
              refine ⟨n - 1, by omega, ?_⟩
              rw [hI]
              refine ⟨by simp (config := {maxDischargeDepth := 12}) only [kt_push, kt_lowed, hKB], i + 1, updN M x, (updN A x), by omega, by simp only [E_pne, E_psame, elen_put, Nat.reduceEqDiff, ne_eq, not_false_eq_true, Nat.reduceLT, he], by simp only [E_pne, E_psame, elen_put, Nat.reduceEqDiff, ne_eq, not_false_eq_true, Nat.reduceLT, e23], by simp only [E_pne, E_psame, elen_put, Nat.reduceEqDiff, ne_eq, not_false_eq_true, Nat.reduceLT, e24], by simp only [E_pne, E_psame, elen_put, Nat.reduceEqDiff, ne_eq, not_false_eq_true, Nat.reduceLT, he], by simp only [E_pne, E_psame, elen_put, Nat.reduceEqDiff, ne_eq, not_false_eq_true, Nat.reduceLT, e4], by simp only [E_pne, E_psame, elen_put, Nat.reduceEqDiff, ne_eq, not_false_eq_true, Nat.reduceLT, e5], ?_, ?_, hfold, fun y hy => ?_, hvA2, by have := updN_len M x; omega, updN_nodup hnd⟩
              · simp (config := {maxDischargeDepth := 12}) only [gt_push, lt_push, lt_lowed, lowed_get, lMB, gMB]
              · simp (config := {maxDischargeDepth := 12}) only [gt_push, lt_push, lt_lowed, lowed_get, lAB, gAB]
              · rcases updN_mem hy with rfl | hy
                · exact vx
                · exact hvM y hy
            | some p =>
              obtain ⟨jj, old⟩ := p
              obtain ⟨ho1, ho2⟩ := lookN_some hm
              have vo := hvM old (List.mem_of_getElem? ho1)
              have lkM := look_hit gMA hm (.agg [.int .i64 0, .int .i64 0, .int .i64 0, .int .i64 0, .int .i64 0, .int .i32 0])
              rw [hm] at hfold
              simp only at hfold
              by_cases hc2 : old.clash x = true
              · have hg2 : mergeV old x = .tup [.agg (Nd.av nd0), .int .i64 15] := by simp [mergeV, vo, vx, hc2]
                rw [if_pos hc2] at hfold
                simp only at hfold
                rw [hfold] at hp
                injection hp with hp
                obtain ⟨rfl, rfl⟩ := Prod.mk.inj hp
                simp (config := {contextual := true, maxDischargeDepth := 12}) only [tb, q_Merge, q_Dead, e23, e24, e25, e4, e5, he, hlt, hw2, a1, i1, lM, lA, lkA, hx0, mS, lkM, hg2, h15, hs1, lMA, ↓bD, bU, forall_const, bS, implies_true, isNx, cs_dec, cs_not, cs_and, cs_or, cs_valid, eq_self, ↓wp_cond, ↓wp_loop, ↓reduceIte, reduceCtorEq, Nat.reduceEqDiff, Nat.reduceLT, Nat.reduceAdd, Nat.reduceMul, Int.ofNat_lt, Int.ofNat_le, exists_const, ae_app, ap_slc, Option.map_none, mkR_none, mkR_some, ar_look, ae_mset, ae_rng, ae_mkmap0, ar_ent, lookV_push, lookV_lowed, msetV_push, msetV_lowed, lt_put, same_put, sto_over, sto_lowed, cs_dead, Option.map_some]
                exact ⟨by simp (config := {maxDischargeDepth := 12}) only [kt_push, kt_lowed, hKA], _, rfl, .nil _ _ _⟩
              · have hg2 : mergeV old x = .tup [.agg (Nd.av (old.merge x)), .int .i64 0] := by simp [mergeV, vo, vx, hc2]
                rw [if_neg hc2] at hfold
                simp only at hfold
                have mM2 := mset_map gMA (old.merge x)
                obtain ⟨tB, htB⟩ : ∃ tB, tB = tA.put mM (mapN (updN M (old.merge x))) := ⟨_, rfl⟩
                rw [← htB] at mM2
                have gMB : tB.get mM = some (mapN (updN M (old.merge x))) := by rw [htB]; exact St.get_put_same gMA
                have gAB : tB.get mA = some (mapN (updN A x)) := by rw [htB, St.get_put_ne _ _ lMA (Ne.symm hne)]; exact gAA
                have hKB : Keep s tB := by rw [htB]; exact hKA.put _ hmM' lMA
                have lMB := lt_of_get gMB
                have lAB := lt_of_get gAB
                have hs2 : sameN t.next tB := by rw [htB]; exact hs1
                simp (config := {contextual := true, maxDischargeDepth := 12}) only [tb, q_Merge, q_Dead, e23, e24, e25, e4, e5, he, hlt, hw2, a1, i1, lM, lA, lkA, hx0, mS, hg2, lkM, mM2, hs1, hs2, lMA, lMB, lAB, ↓bD, bU, forall_const, bS, implies_true, isNx, cs_dec, cs_not, cs_and, cs_or, cs_valid, eq_self, ↓wp_cond, ↓wp_loop, ↓reduceIte, reduceCtorEq, Nat.reduceEqDiff, Nat.reduceLT, Nat.reduceAdd, Nat.reduceMul, Int.ofNat_lt, Int.ofNat_le, exists_const, ae_app, ap_slc, Option.map_none, mkR_none, mkR_some, ar_look, ae_mset, ae_rng, ae_mkmap0, ar_ent, lookV_push, lookV_lowed, msetV_push, msetV_lowed, lt_put, same_put, sto_over, sto_lowed, cs_dead, Option.map_some]
                refine ⟨n - 1, by omega, ?_⟩
                rw [hI]
                refine ⟨by simp (config := {maxDischargeDepth := 12}) only [kt_push, kt_lowed, hKB], i + 1, updN M (old.merge x), (updN A x), by omega, by simp only [E_pne, E_psame, elen_put, Nat.reduceEqDiff, ne_eq, not_false_eq_true, Nat.reduceLT, he], by simp only [E_pne, E_psame, elen_put, Nat.reduceEqDiff, ne_eq, not_false_eq_true, Nat.reduceLT, e23], by simp only [E_pne, E_psame, elen_put, Nat.reduceEqDiff, ne_eq, not_false_eq_true, Nat.reduceLT, e24], by simp only [E_pne, E_psame, elen_put, Nat.reduceEqDiff, ne_eq, not_false_eq_true, Nat.reduceLT, he], by simp only [E_pne, E_psame, elen_put, Nat.reduceEqDiff, ne_eq, not_false_eq_true, Nat.reduceLT, e4], by simp only [E_pne, E_psame, elen_put, Nat.reduceEqDiff, ne_eq, not_false_eq_true, Nat.reduceLT, e5], ?_, ?_, hfold, fun y hy => ?_, hvA2, by have := updN_len M (old.merge x); omega, updN_nodup hnd⟩
                · simp (config := {maxDischargeDepth := 12}) only [gt_push, lt_push, lt_lowed, lowed_get, lMB, gMB]
                · simp (config := {maxDischargeDepth := 12}) only [gt_push, lt_push, lt_lowed, lowed_get, lAB, gAB]
                · rcases updN_mem hy with rfl | hy
                  · exact (merge_valid vo vx)
                  · exact hvM y hy
        | some p =>
          obtain ⟨j0, x0⟩ := p
          obtain ⟨ho3, ho4⟩ := lookN_some ha2
          have v0 := hvA x0 (List.mem_of_getElem? ho3)
          have lkA := look_hit gA ha2 (.agg [.int .i64 0, .int .i64 0, .int .i64 0, .int .i64 0, .int .i64 0, .int .i32 0])
          rw [ha2] at hfold
          simp only at hfold
          by_cases hc1 : x0.clash x = true
          · have hg1 : mergeV x0 x = .tup [.agg (Nd.av nd0), .int .i64 15] := by simp [mergeV, v0, vx, hc1]
            rw [if_pos hc1] at hfold
            simp only at hfold
            rw [hfold] at hp
            injection hp with hp
            obtain ⟨rfl, rfl⟩ := Prod.mk.inj hp
            simp (config := {contextual := true, maxDischargeDepth := 12}) only [tb, q_Merge, q_Dead, e23, e24, e25, e4, e5, he, hlt, hw2, a1, i1, lM, lA, lkA, hg1, h15, ↓bD, bU, forall_const, bS, implies_true, isNx, cs_dec, cs_not, cs_and, cs_or, cs_valid, eq_self, ↓wp_cond, ↓wp_loop, ↓reduceIte, reduceCtorEq, Nat.reduceEqDiff, Nat.reduceLT, Nat.reduceAdd, Nat.reduceMul, Int.ofNat_lt, Int.ofNat_le, exists_const, ae_app, ap_slc, Option.map_none, mkR_none, mkR_some, ar_look, ae_mset, ae_rng, ae_mkmap0, ar_ent, lookV_push, lookV_lowed, msetV_push, msetV_lowed, lt_put, same_put, sto_over, sto_lowed, cs_dead, Option.map_some]
            exact ⟨by simp (config := {maxDischargeDepth := 12}) only [kt_push, kt_lowed, hK], _, rfl, .nil _ _ _⟩
          · have hg1 : mergeV x0 x = .tup [.agg (Nd.av (x0.merge x)), .int .i64 0] := by simp [mergeV, v0, vx, hc1]
            rw [if_neg hc1] at hfold
            by_cases hd : x.x = 0
            · have tAe : ∃ tA, tA = t := ⟨_, rfl⟩
              obtain ⟨tA, htA⟩ := tAe
              have hx0 : (x.x = 0) = True := eq_true hd
              have gMA : tA.get mM = some (mapN M) := by rw [htA]; exact gM
              have gAA : tA.get mA = some (mapN A) := by rw [htA]; exact gA
              have hKA : Keep s tA := by rw [htA]; exact hK
              have hs1 : sameN t.next tA := by rw [htA]; rfl
              have hvA2 := hvA
              rw [if_pos hd] at hfold
              have lMA := lt_of_get gMA
              cases hm : lookN M x.d with
              | none =>
                have lkM := look_miss gMA hm (.agg [.int .i64 0, .int .i64 0, .int .i64 0, .int .i64 0, .int .i64 0, .int .i32 0])
                have mM2 := mset_map gMA x
                rw [hm] at hfold
                simp only at hfold
                obtain ⟨tB, htB⟩ : ∃ tB, tB = tA.put mM (mapN (updN M x)) := ⟨_, rfl⟩
                rw [← htB] at mM2
                have gMB : tB.get mM = some (mapN (updN M x)) := by rw [htB]; exact St.get_put_same gMA
                have gAB : tB.get mA = some (mapN A) := by rw [htB, St.get_put_ne _ _ lMA (Ne.symm hne)]; exact gAA
                have hKB : Keep s tB := by rw [htB]; exact hKA.put _ hmM' lMA
                have lMB := lt_of_get gMB
                have lAB := lt_of_get gAB
                have hs2 : sameN t.next tB := by rw [htB]; exact hs1
                subst htA
                simp (config := {contextual := true, maxDischargeDepth := 12}) only [tb, q_Merge, q_Dead, e23, e24, e25, e4, e5, he, hlt, hw2, a1, i1, lM, lA, lkA, hg1, hx0, lkM, mM2, hs1, hs2, lMA, lMB, lAB, ↓bD, bU, forall_const, bS, implies_true, isNx, cs_dec, cs_not, cs_and, cs_or, cs_valid, eq_self, ↓wp_cond, ↓wp_loop, ↓reduceIte, reduceCtorEq, Nat.reduceEqDiff, Nat.reduceLT, Nat.reduceAdd, Nat.reduceMul, Int.ofNat_lt, Int.ofNat_le, exists_const, ae_app, ap_slc, Option.map_none, mkR_none, mkR_some, ar_look, ae_mset, ae_rng, ae_mkmap0, ar_ent, lookV_push, lookV_lowed, msetV_push, msetV_lowed, lt_put, same_put, sto_over, sto_lowed, cs_dead, Option.map_some]
                refine ⟨n - 1, by omega, ?_⟩
                rw [hI]
                refine ⟨by simp (config := {maxDischargeDepth := 12}) only [kt_push, kt_lowed, hKB], i + 1, updN M x, A, by omega, by simp only [E_pne, E_psame, elen_put, Nat.reduceEqDiff, ne_eq, not_false_eq_true, Nat.reduceLT, he], by simp only [E_pne, E_psame, elen_put, Nat.reduceEqDiff, ne_eq, not_false_eq_true, Nat.reduceLT, e23], by simp only [E_pne, E_psame, elen_put, Nat.reduceEqDiff, ne_eq, not_false_eq_true, Nat.reduceLT, e24], by simp only [E_pne, E_psame, elen_put, Nat.reduceEqDiff, ne_eq, not_false_eq_true, Nat.reduceLT, he], by simp only [E_pne, E_psame, elen_put, Nat.reduceEqDiff, ne_eq, not_false_eq_true, Nat.reduceLT, e4], by simp only [E_pne, E_psame, elen_put, Nat.reduceEqDiff, ne_eq, not_false_eq_true, Nat.reduceLT, e5], ?_, ?_, hfold, fun y hy => ?_, hvA2, by have := updN_len M x; omega, updN_nodup hnd⟩
                · simp (config := {maxDischargeDepth := 12}) only [gt_push, lt_push, lt_lowed, lowed_get, lMB, gMB]
                · simp (config := {maxDischargeDepth := 12}) only [gt_push, lt_push, lt_lowed, lowed_get, lAB, gAB]
                · rcases updN_mem hy with rfl | hy
                  · exact vx
                  · exact hvM y hy
              | some p =>
                obtain ⟨jj, old⟩ := p
                obtain ⟨ho1, ho2⟩ := lookN_some hm
                have vo := hvM old (List.mem_of_getElem? ho1)
                have lkM := look_hit gMA hm (.agg [.int .i64 0, .int .i64 0, .int .i64 0, .int .i64 0, .int .i64 0, .int .i32 0])
                rw [hm] at hfold
                simp only at hfold
                by_cases hc2 : old.clash x = true
                · have hg2 : mergeV old x = .tup [.agg (Nd.av nd0), .int .i64 15] := by simp [mergeV, vo, vx, hc2]
                  rw [if_pos hc2] at hfold
                  simp only at hfold
                  rw [hfold] at hp
                  injection hp with hp
                  obtain ⟨rfl, rfl⟩ := Prod.mk.inj hp
                  subst htA
                  simp (config := {contextual := true, maxDischargeDepth := 12}) only [tb, q_Merge, q_Dead, e23, e24, e25, e4, e5, he, hlt, hw2, a1, i1, lM, lA, lkA, hg1, hx0, lkM, hg2, h15, hs1, lMA, ↓bD, bU, forall_const, bS, implies_true, isNx, cs_dec, cs_not, cs_and, cs_or, cs_valid, eq_self, ↓wp_cond, ↓wp_loop, ↓reduceIte, reduceCtorEq, Nat.reduceEqDiff, Nat.reduceLT, Nat.reduceAdd, Nat.reduceMul, Int.ofNat_lt, Int.ofNat_le, exists_const, ae_app, ap_slc, Option.map_none, mkR_none, mkR_some, ar_look, ae_mset, ae_rng, ae_mkmap0, ar_ent, lookV_push, lookV_lowed, msetV_push, msetV_lowed, lt_put, same_put, sto_over, sto_lowed, cs_dead, Option.map_some]
                  exact ⟨by simp (config := {maxDischargeDepth := 12}) only [kt_push, kt_lowed, hKA], _, rfl, .nil _ _ _⟩
                · have hg2 : mergeV old x = .tup [.agg (Nd.av (old.merge x)), .int .i64 0] := by simp [mergeV, vo, vx, hc2]
                  rw [if_neg hc2] at hfold
                  simp only at hfold
                  have mM2 := mset_map gMA (old.merge x)
                  obtain ⟨tB, htB⟩ : ∃ tB, tB = tA.put mM (mapN (updN M (old.merge x))) := ⟨_, rfl⟩
                  rw [← htB] at mM2
                  have gMB : tB.get mM = some (mapN (updN M (old.merge x))) := by rw [htB]; exact St.get_put_same gMA
                  have gAB : tB.get mA = some (mapN A) := by rw [htB, St.get_put_ne _ _ lMA (Ne.symm hne)]; exact gAA
                  have hKB : Keep s tB := by rw [htB]; exact hKA.put _ hmM' lMA
                  have lMB := lt_of_get gMB
                  have lAB := lt_of_get gAB
                  have hs2 : sameN t.next tB := by rw [htB]; exact hs1
                  subst htA
                  simp (config := {contextual := true, maxDischargeDepth := 12}) only [tb, q_Merge, q_Dead, e23, e24, e25, e4, e5, he, hlt, hw2, a1, i1, lM, lA, lkA, hg1, hx0, hg2, lkM, mM2, hs1, hs2, lMA, lMB, lAB, ↓bD, bU, forall_const, bS, implies_true, isNx, cs_dec, cs_not, cs_and, cs_or, cs_valid, eq_self, ↓wp_cond, ↓wp_loop, ↓reduceIte, reduceCtorEq, Nat.reduceEqDiff, Nat.reduceLT, Nat.reduceAdd, Nat.reduceMul, Int.ofNat_lt, Int.ofNat_le, exists_const, ae_app, ap_slc, Option.map_none, mkR_none, mkR_some, ar_look, ae_mset, ae_rng, ae_mkmap0, ar_ent, lookV_push, lookV_lowed, msetV_push, msetV_lowed, lt_put, same_put, sto_over, sto_lowed, cs_dead, Option.map_some]
                  refine ⟨n - 1, by omega, ?_⟩
                  rw [hI]
                  refine ⟨by simp (config := {maxDischargeDepth := 12}) only [kt_push, kt_lowed, hKB], i + 1, updN M (old.merge x), A, by omega, by simp only [E_pne, E_psame, elen_put, Nat.reduceEqDiff, ne_eq, not_false_eq_true, Nat.reduceLT, he], by simp only [E_pne, E_psame, elen_put, Nat.reduceEqDiff, ne_eq, not_false_eq_true, Nat.reduceLT, e23], by simp only [E_pne, E_psame, elen_put, Nat.reduceEqDiff, ne_eq, not_false_eq_true, Nat.reduceLT, e24], by simp only [E_pne, E_psame, elen_put, Nat.reduceEqDiff, ne_eq, not_false_eq_true, Nat.reduceLT, he], by simp only [E_pne, E_psame, elen_put, Nat.reduceEqDiff, ne_eq, not_false_eq_true, Nat.reduceLT, e4], by simp only [E_pne, E_psame, elen_put, Nat.reduceEqDiff, ne_eq, not_false_eq_true, Nat.reduceLT, e5], ?_, ?_, hfold, fun y hy => ?_, hvA2, by have := updN_len M (old.merge x); omega, updN_nodup hnd⟩
                  · simp (config := {maxDischargeDepth := 12}) only [gt_push, lt_push, lt_lowed, lowed_get, lMB, gMB]
                  · simp (config := {maxDischargeDepth := 12}) only [gt_push, lt_push, lt_lowed, lowed_get, lAB, gAB]
                  · rcases updN_mem hy with rfl | hy
                    · exact (merge_valid vo vx)
                    · exact hvM y hy
            · have tAe : ∃ tA, tA = t.put mA (mapN (updN A x)) := ⟨_, rfl⟩
              obtain ⟨tA, htA⟩ := tAe
              have hx0 : (x.x = 0) = False := eq_false hd
              have gMA : tA.get mM = some (mapN M) := by rw [htA, St.get_put_ne _ _ lA hne]; exact gM
              have gAA : tA.get mA = some (mapN (updN A x)) := by rw [htA]; exact St.get_put_same gA
              have hKA : Keep s tA := by rw [htA]; exact hK.put _ hmA' lA
              have hs1 : sameN t.next tA := by rw [htA]; rfl
              have mS := mset_map gA x
              rw [← htA] at mS
              have hvA2 : ∀ y ∈ updN A x, y.valid = true := fun y hy => by
                rcases updN_mem hy with rfl | hy
                · exact vx
                · exact hvA y hy
              rw [if_neg hd] at hfold
              have lMA := lt_of_get gMA
              cases hm : lookN M x.d with
              | none =>
                have lkM := look_miss gMA hm (.agg [.int .i64 0, .int .i64 0, .int .i64 0, .int .i64 0, .int .i64 0, .int .i32 0])
                have mM2 := mset_map gMA x
                rw [hm] at hfold
                simp only at hfold
                obtain ⟨tB, htB⟩ : ∃ tB, tB = tA.put mM (mapN (updN M x)) := ⟨_, rfl⟩
                rw [← htB] at mM2
                have gMB : tB.get mM = some (mapN (updN M x)) := by rw [htB]; exact St.get_put_same gMA
                have gAB : tB.get mA = some (mapN (updN A x)) := by rw [htB, St.get_put_ne _ _ lMA (Ne.symm hne)]; exact gAA
                have hKB : Keep s tB := by rw [htB]; exact hKA.put _ hmM' lMA
                have lMB := lt_of_get gMB
                have lAB := lt_of_get gAB
                have hs2 : sameN t.next tB := by rw [htB]; exact hs1
                simp (config := {contextual := true, maxDischargeDepth := 12}) only [tb, q_Merge, q_Dead, e23, e24, e25, e4, e5, he, hlt, hw2, a1, i1, lM, lA, lkA, hg1, hx0, mS, lkM, mM2, hs1, hs2, lMA, lMB, lAB, ↓bD, bU, forall_const, bS, implies_true, isNx, cs_dec, cs_not, cs_and, cs_or, cs_valid, eq_self, ↓wp_cond, ↓wp_loop, ↓reduceIte, reduceCtorEq, Nat.reduceEqDiff, Nat.reduceLT, Nat.reduceAdd, Nat.reduceMul, Int.ofNat_lt, Int.ofNat_le, exists_const, ae_app, ap_slc, Option.map_none, mkR_none, mkR_some, ar_look, ae_mset, ae_rng, ae_mkmap0, ar_ent, lookV_push, lookV_lowed, msetV_push, msetV_lowed, lt_put, same_put, sto_over, sto_lowed, cs_dead, Option.map_some]
                refine ⟨n - 1, by omega, ?_⟩
                rw [hI]
                refine ⟨by simp (config := {maxDischargeDepth := 12}) only [kt_push, kt_lowed, hKB], i + 1, updN M x, (updN A x), by omega, by simp only [E_pne, E_psame, elen_put, Nat.reduceEqDiff, ne_eq, not_false_eq_true, Nat.reduceLT, he], by simp only [E_pne, E_psame, elen_put, Nat.reduceEqDiff, ne_eq, not_false_eq_true, Nat.reduceLT, e23], by simp only [E_pne, E_psame, elen_put, Nat.reduceEqDiff, ne_eq, not_false_eq_true, Nat.reduceLT, e24], by simp only [E_pne, E_psame, elen_put, Nat.reduceEqDiff, ne_eq, not_false_eq_true, Nat.reduceLT, he], by simp only [E_pne, E_psame, elen_put, Nat.reduceEqDiff, ne_eq, not_false_eq_true, Nat.reduceLT, e4], by simp only [E_pne, E_psame, elen_put, Nat.reduceEqDiff, ne_eq, not_false_eq_true, Nat.reduceLT, e5], ?_, ?_, hfold, fun y hy => ?_, hvA2, by have := updN_len M x; omega, updN_nodup hnd⟩
                · simp (config := {maxDischargeDepth := 12}) only [gt_push, lt_push, lt_lowed, lowed_get, lMB, gMB]
                · simp (config := {maxDischargeDepth := 12}) only [gt_push, lt_push, lt_lowed, lowed_get, lAB, gAB]
                · rcases updN_mem hy with rfl | hy
                  · exact vx
                  · exact hvM y hy
              | some p =>
                obtain ⟨jj, old⟩ := p
                obtain ⟨ho1, ho2⟩ := lookN_some hm
                have vo := hvM old (List.mem_of_getElem? ho1)
                have lkM := look_hit gMA hm (.agg [.int .i64 0, .int .i64 0, .int .i64 0, .int .i64 0, .int .i64 0, .int .i32 0])
                rw [hm] at hfold
                simp only at hfold
                by_cases hc2 : old.clash x = true
                · have hg2 : mergeV old x = .tup [.agg (Nd.av nd0), .int .i64 15] := by simp [mergeV, vo, vx, hc2]
                  rw [if_pos hc2] at hfold
                  simp only at hfold
                  rw [hfold] at hp
                  injection hp with hp
                  obtain ⟨rfl, rfl⟩ := Prod.mk.inj hp
                  simp (config := {contextual := true, maxDischargeDepth := 12}) only [tb, q_Merge, q_Dead, e23, e24, e25, e4, e5, he, hlt, hw2, a1, i1, lM, lA, lkA, hg1, hx0, mS, lkM, hg2, h15, hs1, lMA, ↓bD, bU, forall_const, bS, implies_true, isNx, cs_dec, cs_not, cs_and, cs_or, cs_valid, eq_self, ↓wp_cond, ↓wp_loop, ↓reduceIte, reduceCtorEq, Nat.reduceEqDiff, Nat.reduceLT, Nat.reduceAdd, Nat.reduceMul, Int.ofNat_lt, Int.ofNat_le, exists_const, ae_app, ap_slc, Option.map_none, mkR_none, mkR_some, ar_look, ae_mset, ae_rng, ae_mkmap0, ar_ent, lookV_push, lookV_lowed, msetV_push, msetV_lowed, lt_put, same_put, sto_over, sto_lowed, cs_dead, Option.map_some]
                  exact ⟨by simp (config := {maxDischargeDepth := 12}) only [kt_push, kt_lowed, hKA], _, rfl, .nil _ _ _⟩
                · have hg2 : mergeV old x = .tup [.agg (Nd.av (old.merge x)), .int .i64 0] := by simp [mergeV, vo, vx, hc2]
                  rw [if_neg hc2] at hfold
                  simp only at hfold
                  have mM2 := mset_map gMA (old.merge x)
                  obtain ⟨tB, htB⟩ : ∃ tB, tB = tA.put mM (mapN (updN M (old.merge x))) := ⟨_, rfl⟩
                  rw [← htB] at mM2
                  have gMB : tB.get mM = some (mapN (updN M (old.merge x))) := by rw [htB]; exact St.get_put_same gMA
                  have gAB : tB.get mA = some (mapN (updN A x)) := by rw [htB, St.get_put_ne _ _ lMA (Ne.symm hne)]; exact gAA
                  have hKB : Keep s tB := by rw [htB]; exact hKA.put _ hmM' lMA
                  have lMB := lt_of_get gMB
                  have lAB := lt_of_get gAB
                  have hs2 : sameN t.next tB := by rw [htB]; exact hs1
                  simp (config := {contextual := true, maxDischargeDepth := 12}) only [tb, q_Merge, q_Dead, e23, e24, e25, e4, e5, he, hlt, hw2, a1, i1, lM, lA, lkA, hg1, hx0, mS, hg2, lkM, mM2, hs1, hs2, lMA, lMB, lAB, ↓bD, bU, forall_const, bS, implies_true, isNx, cs_dec, cs_not, cs_and, cs_or, cs_valid, eq_self, ↓wp_cond, ↓wp_loop, ↓reduceIte, reduceCtorEq, Nat.reduceEqDiff, Nat.reduceLT, Nat.reduceAdd, Nat.reduceMul, Int.ofNat_lt, Int.ofNat_le, exists_const, ae_app, ap_slc, Option.map_none, mkR_none, mkR_some, ar_look, ae_mset, ae_rng, ae_mkmap0, ar_ent, lookV_push, lookV_lowed, msetV_push, msetV_lowed, lt_put, same_put, sto_over, sto_lowed, cs_dead, Option.map_some]
                  refine ⟨n - 1, by omega, ?_⟩
                  rw [hI]
                  refine ⟨by simp (config := {maxDischargeDepth := 12}) only [kt_push, kt_lowed, hKB], i + 1, updN M (old.merge x), (updN A x), by omega, by simp only [E_pne, E_psame, elen_put, Nat.reduceEqDiff, ne_eq, not_false_eq_true, Nat.reduceLT, he], by simp only [E_pne, E_psame, elen_put, Nat.reduceEqDiff, ne_eq, not_false_eq_true, Nat.reduceLT, e23], by simp only [E_pne, E_psame, elen_put, Nat.reduceEqDiff, ne_eq, not_false_eq_true, Nat.reduceLT, e24], by simp only [E_pne, E_psame, elen_put, Nat.reduceEqDiff, ne_eq, not_false_eq_true, Nat.reduceLT, he], by simp only [E_pne, E_psame, elen_put, Nat.reduceEqDiff, ne_eq, not_false_eq_true, Nat.reduceLT, e4], by simp only [E_pne, E_psame, elen_put, Nat.reduceEqDiff, ne_eq, not_false_eq_true, Nat.reduceLT, e5], ?_, ?_, hfold, fun y hy => ?_, hvA2, by have := updN_len M (old.merge x); omega, updN_nodup hnd⟩
                  · simp (config := {maxDischargeDepth := 12}) only [gt_push, lt_push, lt_lowed, lowed_get, lMB, gMB]
                  · simp (config := {maxDischargeDepth := 12}) only [gt_push, lt_push, lt_lowed, lowed_get, lAB, gAB]
                  · rcases updN_mem hy with rfl | hy
                    · exact (merge_valid vo vx)
                    · exact hvM y hy
      · obtain rfl : i = l.length := by omega
        rw [List.drop_length, ofFold] at hfold
        rw [hfold] at hp
        simp only at hp
        injection hp with hp
        obtain ⟨rfl, rfl⟩ := Prod.mk.inj hp
        have hrg := rng_map gM
        simp (config := {contextual := true, maxDischargeDepth := 12}) only [tb, e23, e24, e25, e4, e5, he, hlt, lM, lA, hrg, ↓st_nxt, ↓bD, bU, forall_const, bS, implies_true, isNx, cs_dec, cs_not, cs_and, cs_or, cs_valid, eq_self, ↓wp_cond, ↓wp_loop, ↓reduceIte, reduceCtorEq, Nat.reduceEqDiff, Nat.reduceLT, Nat.reduceAdd, Nat.reduceMul, Int.ofNat_lt, Int.ofNat_le, exists_const, ae_app, ap_slc, Option.map_none, mkR_none, mkR_some, ar_look, ae_mset, ae_rng, ae_mkmap0, ar_ent, lookV_push, lookV_lowed, msetV_push, msetV_lowed, lt_put, same_put, sto_over, sto_lowed, cs_dead, Option.map_some]
        obtain ⟨pI, hpI⟩ : ∃ pI, pI = t.next := ⟨_, rfl⟩
        obtain ⟨I2, hI2⟩ : ∃ I : Nat → Env → St → Prop, ∀ n e t, I n e t = (Keep s t ∧ ∃ (seen : List Nat) (acc : List Nd), n + seen.length = M.length ∧ elen e = 89 ∧ E e 77 = .ptr pI 0 ∧ t.get mM = some (mapN M) ∧ t.get pI = some (.iter (some mM) M.length seen M.length) ∧ Own ndC s t (E e 16) acc ∧ seen.Nodup ∧ (∀ i ∈ seen, i < M.length) ∧ acc.map some = seen.map fun i => M[i]?) := ⟨fun n e t => (Keep s t ∧ ∃ (seen : List Nat) (acc : List Nd), n + seen.length = M.length ∧ elen e = 89 ∧ E e 77 = .ptr pI 0 ∧ t.get mM = some (mapN M) ∧ t.get pI = some (.iter (some mM) M.length seen M.length) ∧ Own ndC s t (E e 16) acc ∧ seen.Nodup ∧ (∀ i ∈ seen, i < M.length) ∧ acc.map some = seen.map fun i => M[i]?), fun _ _ _ => rfl⟩
        refine lwp_inv I2 (n := M.length) ?_ ?_
        · rw [hI2]
          refine ⟨hK.push _, [], [], by simp, by simp only [E_pne, E_psame, elen_put, Nat.reduceEqDiff, ne_eq, not_false_eq_true, Nat.reduceLT, he], by rw [hpI]; simp only [E_pne, E_psame, elen_put, Nat.reduceEqDiff, ne_eq, not_false_eq_true, Nat.reduceLT, he], ?_, ?_, ?_, by simp, by simp, rfl⟩
          · rw [gt_push lM]; exact gM
          · rw [hpI]; exact St.get_push_new _ _
          · simp only [E_pne, E_psame, elen_put, Nat.reduceEqDiff, ne_eq, not_false_eq_true, Nat.reduceLT, he]; exact .nil _ _ _
        clear e23 e24 e25 e4 e5 he gM gA lM lA
        intro n2 e2 t2 hi2
        rw [hI2] at hi2
        obtain ⟨hK2, seen, acc, hn2, he2, e77, gM2, gI2, hO2, hsd, hsl, hac⟩ := hi2
        have hpI' : s.next ≤ pI := by rw [hpI]; exact hK.next
        have lI2 := lt_of_get gI2
        have lM2 := lt_of_get gM2
        have hMp : mM ≠ pI := by
          intro e
          rw [e, gI2] at gM2
          cases gM2
        simp only [↓wp_seq, ↓wp_reg, ↓st_nxt, aev_t, e77]
        refine next_map gM2 gI2 (fun hall => ?_) (fun i x hx hns => ?_)
        · have hpm := seen_perm hsd hsl hac hall
          have hal : acc.length ≤ lim := by rw [hpm.length_eq]; omega
          have hnd2 : (acc.map Nd.d).Nodup := (hpm.map Nd.d).nodup_iff.2 hnd
          obtain ⟨t3, hsrt, hK3, hO3⟩ := sort_own hK2 hO2 hnd2 hal 61
          have hsm : sortN acc = sortN M := sorted_unique _ _ ((sortN_perm acc).trans (hpm.trans (sortN_perm M).symm)) (sortN_sorted acc hnd2) (sortN_sorted M hnd)
          rw [hsm] at hO3
          simp (config := {contextual := true, maxDischargeDepth := 12}) only [tb, he2, e77, hsrt, ↓bD, bU, forall_const, bS, implies_true, isNx, cs_dec, cs_not, cs_and, cs_or, cs_valid, eq_self, ↓wp_cond, ↓wp_loop, ↓reduceIte, reduceCtorEq, Nat.reduceEqDiff, Nat.reduceLT, Nat.reduceAdd, Nat.reduceMul, Int.ofNat_lt, Int.ofNat_le, exists_const, ae_app, ap_slc, Option.map_none, mkR_none, mkR_some, ar_look, ae_mset, ae_rng, ae_mkmap0, ar_ent, lookV_push, lookV_lowed, msetV_push, msetV_lowed, lt_put, same_put, sto_over, sto_lowed, cs_dead, Option.map_some]
          exact ⟨hK3, _, rfl, hO3⟩
        · obtain ⟨t4, ht4⟩ : ∃ t4, t4 = t2.put pI (.iter (some mM) M.length (seen ++ [i]) M.length) := ⟨_, rfl⟩
          rw [← ht4]
          have gM4 : t4.get mM = some (mapN M) := by rw [ht4, St.get_put_ne _ _ lI2 hMp]; exact gM2
          have gI4 : t4.get pI = some (.iter (some mM) M.length (seen ++ [i]) M.length) := by rw [ht4]; exact St.get_put_same gI2
          have hK4 : Keep s t4 := by rw [ht4]; exact hK2.put _ hpI' lI2
          have hO4 : Own ndC s t4 (E e2 16) acc := by
            rcases hO2 with q | ⟨j, q1, q2, q3, q4⟩
            · exact .inl q
            · refine .inr ⟨j, q1, q2, q3, ?_⟩
              have : j ≠ pI := by
                intro e
                rw [e, gI2] at q4
                cases q4
              rw [ht4, St.get_put_ne _ _ lI2 this]
              exact q4
          have lI4 := lt_of_get gI4
          have lM4 := lt_of_get gM4
          have hen := ent_map gM4 gI4 hx
          obtain ⟨u, t5, hap, hK5, hO5⟩ := appV_one (C := ndC) (hK4.lowed.push (.row (Nd.av x) true)) (hO4.lowed.push _) x 48 (by
            have : acc.length = seen.length := by have := congrArg List.length hac; simpa using this
            unfold lim at *
            simp [roomBytes]
            omega)
          have hap : appV ((t4.lowed.push (.row (Nd.av x) true)).push (.row (Nd.av x) true)) 6 48 (E e2 16) (.sl (t4.lowed.push (.row (Nd.av x) true)).next 0 1 (some 1) 6) = some (u, t5) := hap
          simp (config := {contextual := true, maxDischargeDepth := 12}) only [tb, he2, e77, hen, hap, ↓bD, bU, forall_const, bS, implies_true, isNx, cs_dec, cs_not, cs_and, cs_or, cs_valid, eq_self, ↓wp_cond, ↓wp_loop, ↓reduceIte, reduceCtorEq, Nat.reduceEqDiff, Nat.reduceLT, Nat.reduceAdd, Nat.reduceMul, Int.ofNat_lt, Int.ofNat_le, exists_const, ae_app, ap_slc, Option.map_none, mkR_none, mkR_some, ar_look, ae_mset, ae_rng, ae_mkmap0, ar_ent, lookV_push, lookV_lowed, msetV_push, msetV_lowed, lt_put, same_put, sto_over, sto_lowed, cs_dead, Option.map_some]
          have hne1 : ∀ o n c z, E e2 16 ≠ .sl mM o n c z := by
            intro o n c z e
            rcases hO4 with ⟨q, _⟩ | ⟨j, q1, q2, q3, q4⟩
            · rw [q] at e; cases e
            · rw [q1] at e
              injection e with e
              rw [e, gM4] at q4
              cases q4
          have hne2 : ∀ o n c z, E e2 16 ≠ .sl pI o n c z := by
            intro o n c z e
            rcases hO4 with ⟨q, _⟩ | ⟨j, q1, q2, q3, q4⟩
            · rw [q] at e; cases e
            · rw [q1] at e
              injection e with e
              rw [e, gI4] at q4
              cases q4
          have hil := getlt hx
          refine ⟨n2 - 1, by
            have := room_left hsd hsl hil hns
            omega, ?_⟩
          rw [hI2]
          refine ⟨hK5, seen ++ [i], acc ++ [x], ?_, by simp only [E_pne, E_psame, elen_put, Nat.reduceEqDiff, ne_eq, not_false_eq_true, Nat.reduceLT, he2], by simp only [E_pne, E_psame, elen_put, Nat.reduceEqDiff, ne_eq, not_false_eq_true, Nat.reduceLT, e77], ?_, ?_, by simp only [E_pne, E_psame, elen_put, Nat.reduceEqDiff, ne_eq, not_false_eq_true, Nat.reduceLT, he2]; exact hO5, ?_, ?_, ?_⟩
          · have := room_left hsd hsl hil hns
            simp
            omega
          · exact appV_frame hap hne1 (get_push_some _ (get_push_some _ gM4))
          · exact appV_frame hap hne2 (get_push_some _ (get_push_some _ gI4))
          · rw [List.nodup_append]
            exact ⟨hsd, by simp, fun a ha b hb e => by simp at hb; subst hb; subst e; exact hns ha⟩
          · intro k hk
            rcases List.mem_append.1 hk with hk | hk
            · exact hsl k hk
            · simp at hk; omega
          · rw [List.map_append, List.map_append, hac]
            simp [hx]

end Go.AM
end
/-
  Clone, Copy, Stain; the statement JoinValid in the abstract machine. Own work of this project; in part printed by a program of it.
-/
section
set_option linter.unusedVariables false
set_option linter.unusedSimpArgs false
set_option maxRecDepth 100000
set_option maxHeartbeats 8000000
namespace Go.AM
open Go Go.Proofs

/-! ### Stain -/
end Go.AM
end
/-
  The reference's Agree, put, Join; the program's Agree and Within; the helpers of the statements. Own work of this project; in part printed by a program of it.
-/
section
set_option linter.unusedVariables false
set_option linter.unusedSimpArgs false
set_option maxRecDepth 100000
set_option maxHeartbeats 8000000
namespace Go.AM
open Go Go.Proofs

theorem q_known (cl : Bool) (s : St) : acall (closed [] (.bool true)) cl [] s = some (.bool true, s) := acall_ro (by simp [closed]) rfl
def agreeL (l m : List Nd) : Bool := l.all fun x => match lookN m x.d with
  | some (_, y) => !x.clash y
  | none => true
end Go.AM
end
/-
  The reference's put and Join. Own work of this project; in part printed by a program of it.
-/
section
set_option linter.unusedVariables false
set_option linter.unusedSimpArgs false
set_option maxRecDepth 100000
set_option maxHeartbeats 8000000
namespace Go.AM
open Go Go.Proofs

/-- Where a node goes: behind all that come before it, from the start on. -/
def posL (x : Nd) : List Nd → Nat
  | [] => 0
  | y :: r => if y.d.before x.d = true then posL x r + 1 else 0
def putL (l : List Nd) (x : Nd) : List Nd := l.take (posL x l) ++ x :: l.drop (posL x l)
/-! ### The reference's Join -/
def rmerge (x y : Nd) : Nd := if x.clash y = true then nd0 else x.merge y
def jstep (out : List Nd) (y : Nd) : List Nd := match lookN out y.d with
  | some (k, x) => out.set k (rmerge x y)
  | none => putL out y
def refJ (l m : List Nd) : List Nd := m.foldl jstep l
end Go.AM
end
/-
  Plain laws: the program's join is the reference's. Own work of this project.
-/
section
set_option linter.unusedVariables false
set_option linter.unusedSimpArgs false
namespace Go.AM
open Go Go.Proofs

theorem chain_pairwise : ∀ {l : List Nd}, chain ndLt l = true → l.Pairwise ltP
  | [], _ => .nil
  | [x], _ => by simp
  | x :: y :: r, h => by
    rw [chain, Bool.and_eq_true] at h
    have ih := chain_pairwise (l := y :: r) h.2
    have hxy : ltP x y := h.1
    rw [List.pairwise_cons]
    refine ⟨fun z hz => ?_, ih⟩
    rcases List.mem_cons.1 hz with rfl | hz
    · exact hxy
    · exact ltP_trans hxy ((List.pairwise_cons.1 ih).1 z hz)
theorem pairwise_chain : ∀ {l : List Nd}, l.Pairwise ltP → chain ndLt l = true
  | [], _ => rfl
  | [x], _ => rfl
  | x :: y :: r, h => by
    rw [List.pairwise_cons] at h
    rw [chain, Bool.and_eq_true]
    exact ⟨h.1 y (by simp), pairwise_chain h.2⟩
theorem ltP_ne {x y : Nd} (h : ltP x y) : x.d ≠ y.d := by
  intro e
  unfold ltP at h
  rw [e, before_irr] at h
  cases h
theorem look_cons_ne {x : Nd} {r : List Nd} {d : Dot} (h : x.d ≠ d) : lookN (x :: r) d = (lookN r d).map fun p => (p.1 + 1, p.2) := by
  simp [lookN, h]
theorem look_cons_eq {x : Nd} {r : List Nd} {d : Dot} (h : x.d = d) : lookN (x :: r) d = some (0, x) := by
  simp [lookN, h]
theorem store_sorted {l : List Nd} (h : storeL l = true) : l.Pairwise ltP := by
  simp only [storeL, Bool.and_eq_true] at h
  exact chain_pairwise h.2
end Go.AM
end
/-
  Plain laws of the join: by what stands at each dot. Own work of this project.
-/
section
set_option linter.unusedVariables false
set_option linter.unusedSimpArgs false
namespace Go.AM
open Go Go.Proofs

/-- What stands at a dot. -/
def getN (l : List Nd) (d : Dot) : Option Nd := (lookN l d).map (·.2)
theorem getN_nil (d : Dot) : getN [] d = none := rfl
theorem getN_cons (x : Nd) (r : List Nd) (d : Dot) : getN (x :: r) d = if x.d = d then some x else getN r d := by
  unfold getN
  by_cases h : x.d = d
  · rw [look_cons_eq h, if_pos h]; rfl
  · rw [look_cons_ne h, if_neg h]
    cases lookN r d <;> rfl
theorem getN_some : ∀ {l : List Nd} {d : Dot} {x : Nd}, getN l d = some x → x ∈ l ∧ x.d = d
  | [], d, x, h => by simp [getN_nil] at h
  | y :: r, d, x, h => by
    rw [getN_cons] at h
    split at h
    · injection h with h
      subst h
      exact ⟨by simp, by assumption⟩
    · obtain ⟨h1, h2⟩ := getN_some h
      exact ⟨by simp [h1], h2⟩
theorem getN_mem : ∀ {l : List Nd} {x : Nd}, l.Pairwise ltP → x ∈ l → getN l x.d = some x
  | [], x, _, h => by simp at h
  | y :: r, x, hp, h => by
    rw [List.pairwise_cons] at hp
    rw [getN_cons]
    rcases List.mem_cons.1 h with rfl | h
    · rw [if_pos rfl]
    · rw [if_neg (ltP_ne (hp.1 x h)), getN_mem hp.2 h]
theorem nodup_of {l : List Nd} (h : l.Pairwise ltP) : l.Nodup := h.imp fun {a b} hab e => by
  subst e
  exact ltP_asymm hab hab
/-! ### At one dot -/
theorem clash_symm (x y : Nd) : x.clash y = y.clash x := by
  rw [Bool.eq_iff_iff, Nd.clash_true, Nd.clash_true]
  grind
theorem clash_self (x : Nd) : x.clash x = false := by
  rw [Nd.clash_false]
  exact ⟨rfl, rfl, rfl, .inr (.inr rfl)⟩
theorem merge_dead {x y : Nd} (h : x.x = 0) : (x.merge y).x = 0 := by
  unfold Nd.merge
  split <;> assumption
end Go.AM
end
/-
  The answers of join.Agree, Within and Join as plain pairs. Own work of this project; in part printed by a program of it.
-/
section
set_option linter.unusedVariables false
set_option linter.unusedSimpArgs false
set_option maxRecDepth 100000
set_option maxHeartbeats 8000000
namespace Go.AM
open Go Go.Proofs

def joinsP (l m : List Nd) : List Nd × Int := if storeL l = true ∧ storeL m = true then (if agreeL l m = true then (refJ l m, 0) else ([], 15)) else ([], 2)
end Go.AM
end
