/-
  Ordered maps: the reference. Own work of this project; in part printed by a program of it.
-/
import Derived.Test.YtmgfhkkcgdagpaaP3
import Derived.ProofKit
import Derived.Carry
import Derived.Deep.Slices
import Derived.HandedShaped
import Derived.OpenShut
import Derived.KernelRfl
set_option linter.unusedVariables false
set_option linter.unusedSimpArgs false
section
set_option maxRecDepth 100000
set_option maxHeartbeats 8000000
namespace Go.AM
open Go Go.Proofs

variable {s t u : St}

def oldA (base : Nat) : AV → Bool
  | .ptr id _ => decide (id < base)
  | _ => false
def lstep (base : Nat) (a : AV) (o : Option AV) (K : AV → Prop) : Prop := match o with
  | some v => oldA base a = true ∧ K v
  | none => False
@[congr] theorem lstep_congr {base : Nat} {a a' : AV} {o o' : Option AV} (ha : a = a') (h : o = o') (K : AV → Prop) : lstep base a o K = lstep base a' o' K := by rw [ha, h]
theorem lstep_some {base : Nat} {a : AV} (h : oldA base a = true) (v : AV) (K : AV → Prop) : lstep base a (some v) K = K v := by simp [lstep, h]
theorem oldA_lt {base id o : Nat} (h : id < base) : oldA base (.ptr id o) = true := by simp [oldA, h]
theorem st_loadnf {call : Nat → List AV → St → Option (AV × St)} {base : Nat} {d r : Option Nat} {rest : List AOper} {Q : Env → St → Prop} {env : Env} {s : St} (n : Nat) (x : AO) : awops call base (⟨d, .loadn n x, none, r, true⟩ :: rest) Q env s = lstep base (aev env x) (aread call env s (.loadn n x)) fun v => awops call base rest Q (pE env d v) s := by
  rw [awops_cons (by simp)]
  have h1 : aalloc env (.loadn n x) = none := rfl
  have h2 : apure env (.loadn n x) = none := rfl
  have h3 : ∀ s, aeff call env s (.loadn n x) = none := fun _ => rfl
  have h4 : oldLoad base env (.loadn n x) = oldA base (aev env x) := by
    show (match aev env x with | .ptr id _ => decide (id < base) | _ => false) = _
    unfold oldA
    cases aev env x <;> rfl
  simp only [aop, h1, h2, h3, Bool.true_and]
  cases aread call env s (.loadn n x) with
  | none => simp [lstep, estep]
  | some v =>
    rw [show oldLoad base env (AOp.loadn n x) = oldA base (aev env x) from h4]
    by_cases hb : oldA base (aev env x) = true
    · simp [lstep, estep, hb]
    · simp [lstep, estep, hb]
theorem st_load1nf {call : Nat → List AV → St → Option (AV × St)} {base : Nat} {d r : Option Nat} {rest : List AOper} {Q : Env → St → Prop} {env : Env} {s : St} (x : AO) : awops call base (⟨d, .load1 x, none, r, true⟩ :: rest) Q env s = lstep base (aev env x) (aread call env s (.load1 x)) fun v => awops call base rest Q (pE env d v) s := by
  rw [awops_cons (by simp)]
  have h1 : aalloc env (.load1 x) = none := rfl
  have h2 : apure env (.load1 x) = none := rfl
  have h3 : ∀ s, aeff call env s (.load1 x) = none := fun _ => rfl
  have h4 : oldLoad base env (.load1 x) = oldA base (aev env x) := by
    show (match aev env x with | .ptr id _ => decide (id < base) | _ => false) = _
    unfold oldA
    cases aev env x <;> rfl
  simp only [aop, h1, h2, h3, Bool.true_and]
  cases aread call env s (.load1 x) with
  | none => simp [lstep, estep]
  | some v =>
    rw [show oldLoad base env (AOp.load1 x) = oldA base (aev env x) from h4]
    by_cases hb : oldA base (aev env x) = true
    · simp [lstep, estep, hb]
    · simp [lstep, estep, hb]
theorem pre_nxt {α : Type} {l : List α} {i : Nat} {x : α} {P : α → Prop} (hx : l[i]? = some x) (hpre : ∀ (j : Nat) (y : α), j < i → l[j]? = some y → P y) (h : P x) : ∀ (j : Nat) (y : α), j < i + 1 → l[j]? = some y → P y := fun j y hj hy => by
  by_cases e : j = i
  · subst e
    rw [hx] at hy
    injection hy with hy
    rw [← hy]
    exact h
  · exact hpre j y (by omega) hy
def appG (base : Nat) (s : St) (sz bytes : Nat) (a x : AV) : Option (AV × St) := match appV (lowd s) sz bytes a x with
  | some (v, t) => if base ≤ t.low then some (v, { heap := t.heap, next := t.next, low := min s.low t.low }) else none
  | none => none
theorem st_appr {call : Nat → List AV → St → Option (AV × St)} {base : Nat} {d : Option Nat} {rest : List AOper} {Q : Env → St → Prop} {env : Env} {s : St} (sz b : Nat) (z : List AV) (a x : AO) (k : Nat) : awops call base (⟨d, .app sz b z a x, none, some k, true⟩ :: rest) Q env s = estep (appG base s sz b (aev env a) (aev env x)) fun v t => awops call base rest Q (pE env d v) t := by
  rw [st_efff (op := .app sz b z a x) (by simp) rfl rfl rfl]
  simp only [ae_app, appG, AOper.floor, AOper.stores, AOp.isApp, AOp.isStore, Option.isSome_some, Bool.and_true, Bool.false_or, if_true]
  show estep (appV (lowd s) sz b (aev env a) (aev env x)) _ = _
  cases appV (lowd s) sz b (aev env a) (aev env x) with
  | none => rfl
  | some q =>
    obtain ⟨v, t⟩ := q
    simp only [estep]
    by_cases h : base ≤ t.low
    · rw [if_pos h, if_pos h]
    · rw [if_neg h, if_neg h]
theorem st_appf0 {call : Nat → List AV → St → Option (AV × St)} {base : Nat} {d : Option Nat} {rest : List AOper} {Q : Env → St → Prop} {env : Env} {s : St} (sz b : Nat) (z : List AV) (a x : AO) : awops call base (⟨d, .app sz b z a x, none, none, true⟩ :: rest) Q env s = estep (appG s.next s sz b (aev env a) (aev env x)) fun v t => awops call base rest Q (pE env d v) t := by
  rw [st_efff (op := .app sz b z a x) (by simp) rfl rfl rfl]
  simp only [ae_app, appG, AOper.floor, AOper.stores, AOp.isApp, AOp.isStore, Option.isSome_none, Bool.and_false, Bool.false_or, Bool.false_eq_true, if_false]
  show estep (appV (lowd s) sz b (aev env a) (aev env x)) _ = _
  cases appV (lowd s) sz b (aev env a) (aev env x) with
  | none => rfl
  | some q =>
    obtain ⟨v, t⟩ := q
    simp only [estep]
    by_cases h : s.next ≤ t.low
    · rw [if_pos h, if_pos h]
    · rw [if_neg h, if_neg h]
theorem appG_list {β : Type} {C : Cod β} {base : Nat} {s0 : St} {v x : AV} {l m : List β} (hb : base ≤ s0.next) (hK : Keep s0 t) (hO : Own C s0 t v l) (hr : AM.read C t x = some m) (bytes : Nat) (hbd : (l.length + m.length) * bytes ≤ roomBytes) :
    ∃ v' t', appG base t C.sz bytes v x = some (v', t') ∧ Keep s0 t' ∧ Own C s0 t' v' (l ++ m) := by
  have hn := hK.next
  have hK' : Keep (lowd s0) (lowd t) := ⟨hn, hK.get, by show min s0.next s0.next ≤ t.next; omega⟩
  have hO' : Own C (lowd s0) (lowd t) v l := hO
  obtain ⟨v', t1, h1, h2, h3⟩ := appV_list hK' hO' (read_low' hr) bytes hbd
  have hl : s0.next ≤ t1.low := by
    have := h2.low
    have : min s0.next s0.next ≤ t1.low := this
    omega
  refine ⟨v', { heap := t1.heap, next := t1.next, low := min t.low t1.low }, by simp only [appG, h1, if_pos (Nat.le_trans hb hl)], ⟨h2.next, h2.get, ?_⟩, h3⟩
  show min s0.low s0.next ≤ min t.low t1.low
  have := hK.low
  omega
theorem rd_one {β : Type} {C : Cod β} {v : AV} {l : List β} (h : AM.read C s v = some l) : v.cells = [v] ∧ v.one = true := by
  cases v <;> first | exact ⟨rfl, rfl⟩ | simp [AM.read] at h
theorem boxV_m {a b : AV} (ha : a.one = true) (hb : b.one = true) : boxV 2 (.agg [a, b]) = some (fun id => .ptr id 0, .row [a, b] true) := by
  unfold boxV
  simp [AV.cells, ha, hb]
theorem row2_sto2 {id : Nat} {a b x y : AV} (h : t.get id = some (.row [a, b] true)) (hx : x.one = true) (hy : y.one = true) : AM.sto t 2 (.ptr id 0) (.agg [x, y]) = some (.und, t.put id (.row [x, y] true)) := by
  simp [AM.sto, h, AV.cells, hx, hy, setAt]
theorem row2_lod2 {id : Nat} {a b : AV} {own : Bool} (h : t.get id = some (.row [a, b] own)) : lod t 2 (.ptr id 0) = some (.agg [a, b]) := by simp [lod, h]
theorem own_neb {C : Cod PrS} (hC : C = prC) {lv : AV} {l : List PrS} (h : Own C s t lv l) {id : Nat} {b : Bool} {w : AV} {own : Bool} (hg : t.get id = some (.row [.bool b, w] own)) : ∀ o n c z, lv ≠ .sl id o n c z := by
  subst hC
  rintro o n c z rfl
  rcases h with ⟨h, _⟩ | ⟨j, h, h0, h1, h2⟩
  · cases h
  · injection h with h
    subst h
    rw [hg] at h2
    injection h2 with h2
    injection h2 with h2 _
    cases l with
    | nil => exact h0 rfl
    | cons y r =>
      rw [pr_cells2] at h2
      injection h2 with h2 _
      cases h2
/-- A list behind a flag in a box, one element more. -/
theorem box2_app {lv : AV} {l : List PrS} {ib : Nat} {b : Bool} (hK : Keep s t) (hb : t.get ib = some (.row [.bool b, lv] true)) (hib : s.next ≤ ib) (hO : Own prC s t lv l) (y : PrS) (hr : l.length < 100000) :
    ∃ lv' t', appV (t.push (.row (prC.enc y) true)) 2 24 lv (.sl t.next 0 1 (some 1) 2) = some (lv', t') ∧ AM.sto t' 1 (.ptr ib 1) lv' = some (.und, t'.put ib (.row [.bool b, lv'] true)) ∧ ltN ib t' ∧ Keep s (t'.put ib (.row [.bool b, lv'] true)) ∧ (t'.put ib (.row [.bool b, lv'] true)).get ib = some (.row [.bool b, lv'] true) ∧ Own prC s (t'.put ib (.row [.bool b, lv'] true)) lv' (l ++ [y]) ∧
      ∀ id b', t.get id = some b' → id ≠ ib → (∀ o n c z, lv ≠ .sl id o n c z) → (t'.put ib (.row [.bool b, lv'] true)).get id = some b' := by
  obtain ⟨lv', t', hap, hK', hO'⟩ := appV_one (C := prC) hK hO y 24 (by unfold roomBytes; omega)
  have fr : ∀ id b, t.get id = some b → (∀ o n c z, lv ≠ .sl id o n c z) → t'.get id = some b := fun id b hg hn => appV_frame hap hn (get_push_some _ hg)
  have hb' := fr ib _ hb (own_neb rfl hO hb)
  have hlt := St.get_lt hb'
  have hO2 : Own prC s (t'.put ib (.row [.bool b, lv'] true)) lv' (l ++ [y]) := by
    have hne := own_neb rfl hO' hb'
    rcases hO' with q | ⟨j, q, h0, h1, h2⟩
    · exact .inl q
    · refine .inr ⟨j, q, h0, h1, ?_⟩
      rw [St.get_put_ne _ _ hlt fun e => hne 0 _ none _ (by rw [q, e])]
      exact h2
  exact ⟨lv', t', hap, (row2_sto hb' (own_one1 hO').1 (own_one1 hO').2).2, hlt, hK'.put _ hib hlt, St.get_put_same hb', hO2, fun id b hg hi hn => by rw [St.get_put_ne _ _ hlt hi]; exact fr id b hg hn⟩
noncomputable def R_Rbefore : Con := runFn (tb []) a61
theorem s_Rbefore : SoundAt Try.prog 61 R_Rbefore := run_sound (tb_sound (l := []) (by simp)) mixed Try.func61 k61 c61
theorem n_Rbefore : noNxtC a61.body = true := by kernel_rfl
theorem w_Rbefore {s : St} {rv : AV} {L : List PrS} (hr : AM.read prC s rv = some L) (d : Bool) (a b : Int) : ∀ env : Env, elen env = a61.ntmps → (∀ i x_, [.agg [.bool d, rv], .int .i64 a, .int .i64 b][i]? = some x_ → E env i = x_) → awp (tb []) a61.body (fun x e t => (∀ i, x ≠ .exit i) ∧ aresults e t a61.results = some (.bool (decide (sg d a < sg d b))) ∧ Keep s t) env s := by
  intro env hlen ha
  have h0 : E env 0 = _ := ha 0 _ rfl
  have h1 : E env 1 = _ := ha 1 _ rfl
  have h2 : E env 2 = _ := ha 2 _ rfl
  have hlen : elen env = _ := hlen
  simp only [a61] at hlen
  unfold a61
  try dsimp only [oO, oG]
  have ho := rd_one hr
  have hbx := boxV_m (a := .bool d) (b := rv) rfl ho.2
  have hK1 : Keep s (s.push (.row [.bool d, rv] true)) := (Keep.refl s).push _
  have hg1 := St.get_push_new s (.row [.bool d, rv] true)
  have hr1 := hK1.read hr
  obtain ⟨b0, b1, blt⟩ := row2_lod hg1
  have b2 := row2_lod2 hg1
  have hL := lenV_read hr
  cases d
  · simp only [sg, Bool.false_eq_true, if_false]
    simp (config := {contextual := true, maxDischargeDepth := 12, maxSteps := 4000000}) only [tb_at, h0, h1, h2, hlen, hbx, b0, blt, notV_bool, Bool.not_true, Bool.not_false, pickV_t, pickV_f, bin_eql, bin_neq, bin_neb, bin_npn, bin_np, bin_npnx, gcall_tt, gpure_tf, beq_self_eq_true, Bool.true_and, Bool.and_true, decide_true, decide_false, ↓bD, bU, forall_const, bS, implies_true, isNx, eq_self, ↓wp_cond, ↓wp_loop, ↓reduceIte, reduceCtorEq, Nat.reduceEqDiff, Nat.reduceLT, Nat.reduceAdd, Nat.reduceMul, bT, ↓sg_bsl, ↓st_callf, bX, ap_mkfn, ap_conv, ↓wi_seq, ↓wi_base, ↓wi_block, ↓wi_cond, ↓wi_loop, ↓wi_rf, ↓wy_seq, ↓wy_base, ↓wy_block, ↓wy_cond, ↓wy_loop, ↓wy_yld, ae_callvV, callvV_fn, List.append_nil, List.cons_append, List.nil_append, bin_nff, bin_nfn, bin_nffx, bin_nfnx, bin_streq, bin_bo_same, lstep_some, ↓st_load1nf, ↓st_loadnf, ↓st_appr, ↓st_appf0]
    all_goals first | exact hK1 | skip
  · have e : (sg true a < sg true b) = (b < a) := by
      simp only [sg, if_true]
      exact propext ⟨fun h => by omega, fun h => by omega⟩
    simp only [e]
    simp (config := {contextual := true, maxDischargeDepth := 12, maxSteps := 4000000}) only [tb_at, h0, h1, h2, hlen, hbx, b0, blt, notV_bool, Bool.not_true, Bool.not_false, pickV_t, pickV_f, bin_eql, bin_neq, bin_neb, bin_npn, bin_np, bin_npnx, gcall_tt, gpure_tf, beq_self_eq_true, Bool.true_and, Bool.and_true, decide_true, decide_false, ↓bD, bU, forall_const, bS, implies_true, isNx, eq_self, ↓wp_cond, ↓wp_loop, ↓reduceIte, reduceCtorEq, Nat.reduceEqDiff, Nat.reduceLT, Nat.reduceAdd, Nat.reduceMul, bT, ↓sg_bsl, ↓st_callf, bX, ap_mkfn, ap_conv, ↓wi_seq, ↓wi_base, ↓wi_block, ↓wi_cond, ↓wi_loop, ↓wi_rf, ↓wy_seq, ↓wy_base, ↓wy_block, ↓wy_cond, ↓wy_loop, ↓wy_yld, ae_callvV, callvV_fn, List.append_nil, List.cons_append, List.nil_append, bin_nff, bin_nfn, bin_nffx, bin_nfnx, bin_streq, bin_bo_same, lstep_some, ↓st_load1nf, ↓st_loadnf, ↓st_appr, ↓st_appf0]
    all_goals first | exact hK1 | skip
theorem q_Rbefore (cl : Bool) {s : St} {rv : AV} {L : List PrS} (hr : AM.read prC s rv = some L) (d : Bool) (a b : Int) : acall R_Rbefore cl [.agg [.bool d, rv], .int .i64 a, .int .i64 b] s = some (.bool (decide (sg d a < sg d b)), s) := run_same n_Rbefore (by simp [a61]) rfl (w_Rbefore (s := lowd s) (read_low' hr) d a b)
noncomputable def R_RRank : Con := runFn (tb [(61, R_Rbefore)]) a42
theorem s_RRank : SoundAt Try.prog 42 R_RRank := run_sound (tb_sound (l := [(61, R_Rbefore)]) (by simpa using s_Rbefore)) mixed Try.func42 k42 c42
theorem n_RRank : noNxtC a42.body = true := by kernel_rfl
theorem w_RRank {s : St} {rv : AV} {L : List PrS} (hr : AM.read prC s rv = some L) (hl : L.length ≤ 10000) (d : Bool) (k : Int) : ∀ env : Env, elen env = a42.ntmps → (∀ i x_, [.agg [.bool d, rv], .int .i64 k][i]? = some x_ → E env i = x_) → awp (tb [(61, R_Rbefore)]) a42.body (fun x e t => (∀ i, x ≠ .exit i) ∧ aresults e t a42.results = some (.int .i64 ((rkD d L k : Nat) : Int)) ∧ Keep s t) env s := by
  intro env hlen ha
  have h0 : E env 0 = _ := ha 0 _ rfl
  have h1 : E env 1 = _ := ha 1 _ rfl
  have hlen : elen env = _ := hlen
  simp only [a42] at hlen
  unfold a42
  try dsimp only [oO, oG]
  have ho := rd_one hr
  have hbx := boxV_m (a := .bool d) (b := rv) rfl ho.2
  have hK1 : Keep s (s.push (.row [.bool d, rv] true)) := (Keep.refl s).push _
  have hg1 := St.get_push_new s (.row [.bool d, rv] true)
  have hr1 := hK1.read hr
  obtain ⟨b0, b1, blt⟩ := row2_lod hg1
  have b2 := row2_lod2 hg1
  have hL := lenV_read hr
  simp (config := {contextual := true, maxDischargeDepth := 12, maxSteps := 4000000}) only [tb_at, h0, h1, hlen, hbx, notV_bool, Bool.not_true, Bool.not_false, pickV_t, pickV_f, bin_eql, bin_neq, bin_neb, bin_npn, bin_np, bin_npnx, gcall_tt, gpure_tf, beq_self_eq_true, Bool.true_and, Bool.and_true, decide_true, decide_false, ↓bD, bU, forall_const, bS, implies_true, isNx, eq_self, ↓wp_cond, ↓wp_loop, ↓reduceIte, reduceCtorEq, Nat.reduceEqDiff, Nat.reduceLT, Nat.reduceAdd, Nat.reduceMul, bT, ↓sg_bsl, ↓st_callf, bX, ap_mkfn, ap_conv, ↓wi_seq, ↓wi_base, ↓wi_block, ↓wi_cond, ↓wi_loop, ↓wi_rf, ↓wy_seq, ↓wy_base, ↓wy_block, ↓wy_cond, ↓wy_loop, ↓wy_yld, ae_callvV, callvV_fn, List.append_nil, List.cons_append, List.nil_append, bin_nff, bin_nfn, bin_nffx, bin_nfnx, bin_streq, bin_bo_same, lstep_some, ↓st_load1nf, ↓st_loadnf, ↓st_appr, ↓st_appf0]
  obtain ⟨I, hI⟩ : ∃ I : Nat → Env → St → Prop, ∀ n e t, I n e t = (t = s.push (.row [.bool d, rv] true) ∧ ∃ i : Nat, n + i = L.length ∧ elen e = 25 ∧ E e 1 = .int .i64 k ∧ E e 2 = .ptr s.next 0 ∧ E e 5 = .int .i64 (i : Int) ∧ i ≤ L.length ∧ ∀ (j : Nat) (y : PrS), j < i → L[j]? = some y → sg d y.1 < sg d k) := ⟨fun n e t => (t = s.push (.row [.bool d, rv] true) ∧ ∃ i : Nat, n + i = L.length ∧ elen e = 25 ∧ E e 1 = .int .i64 k ∧ E e 2 = .ptr s.next 0 ∧ E e 5 = .int .i64 (i : Int) ∧ i ≤ L.length ∧ ∀ (j : Nat) (y : PrS), j < i → L[j]? = some y → sg d y.1 < sg d k), fun _ _ _ => rfl⟩
  refine lwp_inv I (n := L.length) ?_ ?_
  · rw [hI]
    exact ⟨rfl, 0, by omega, (by simp only [bE, Nat.reduceEqDiff, bN, Nat.reduceLT, hlen]; try rfl), (by simp only [bE, Nat.reduceEqDiff, bN, Nat.reduceLT, hlen, h1]; try rfl), (by simp only [bE, Nat.reduceEqDiff, bN, Nat.reduceLT, hlen]; try rfl), (by simp only [bE, Nat.reduceEqDiff, bN, Nat.reduceLT, hlen]; try rfl), Nat.zero_le _, fun j y hj => by omega⟩
  clear h0 ha
  intro n e t hi
  rw [hI] at hi
  obtain ⟨hK, i, hni, he, e1, e2, e5, hil, hpre⟩ := hi
  subst hK
  by_cases hlt : i < L.length
  rotate_left
  · have y1 := eq_false (show ¬ (i : Int) < (L.length : Int) by omega)
    have hrk : rkD d L k = i := rk_eq hil hpre fun y hy => by have := getlt hy; omega
    rw [hrk]
    simp (config := {contextual := true, maxDischargeDepth := 12, maxSteps := 4000000}) only [tb_at, he, e1, e2, e5, b1, blt, hL, y1, reserve0, notV_bool, Bool.not_true, Bool.not_false, pickV_t, pickV_f, bin_eql, bin_neq, bin_neb, bin_npn, bin_np, bin_npnx, gcall_tt, gpure_tf, beq_self_eq_true, Bool.true_and, Bool.and_true, decide_true, decide_false, ↓bD, bU, forall_const, bS, implies_true, isNx, eq_self, ↓wp_cond, ↓wp_loop, ↓reduceIte, reduceCtorEq, Nat.reduceEqDiff, Nat.reduceLT, Nat.reduceAdd, Nat.reduceMul, bT, ↓sg_bsl, ↓st_callf, bX, ap_mkfn, ap_conv, ↓wi_seq, ↓wi_base, ↓wi_block, ↓wi_cond, ↓wi_loop, ↓wi_rf, ↓wy_seq, ↓wy_base, ↓wy_block, ↓wy_cond, ↓wy_loop, ↓wy_yld, ae_callvV, callvV_fn, List.append_nil, List.cons_append, List.nil_append, bin_nff, bin_nfn, bin_nffx, bin_nfnx, bin_streq, bin_bo_same, lstep_some, ↓st_load1nf, ↓st_loadnf, ↓st_appr, ↓st_appf0]
    all_goals first | exact hK1 | skip
  have y1 := eq_true (show (i : Int) < (L.length : Int) by omega)
  have hw2 := wrap_add1 (n := i) (by omega)
  obtain ⟨y, hy⟩ := getsome hlt
  obtain ⟨i1, _, a1, _, a3⟩ := pr_lods hr1 hy
  have q1 := q_Rbefore false hr1 d y.1 k
  by_cases hc : sg d y.1 < sg d k
  · rw [decide_eq_true hc] at q1
    simp (config := {contextual := true, maxDischargeDepth := 12, maxSteps := 4000000}) only [tb_at, he, e1, e2, e5, b1, b2, blt, hL, y1, hw2, i1, a1, a3, q1, reserve0, notV_bool, Bool.not_true, Bool.not_false, pickV_t, pickV_f, bin_eql, bin_neq, bin_neb, bin_npn, bin_np, bin_npnx, gcall_tt, gpure_tf, beq_self_eq_true, Bool.true_and, Bool.and_true, decide_true, decide_false, ↓bD, bU, forall_const, bS, implies_true, isNx, eq_self, ↓wp_cond, ↓wp_loop, ↓reduceIte, reduceCtorEq, Nat.reduceEqDiff, Nat.reduceLT, Nat.reduceAdd, Nat.reduceMul, bT, ↓sg_bsl, ↓st_callf, bX, ap_mkfn, ap_conv, ↓wi_seq, ↓wi_base, ↓wi_block, ↓wi_cond, ↓wi_loop, ↓wi_rf, ↓wy_seq, ↓wy_base, ↓wy_block, ↓wy_cond, ↓wy_loop, ↓wy_yld, ae_callvV, callvV_fn, List.append_nil, List.cons_append, List.nil_append, bin_nff, bin_nfn, bin_nffx, bin_nfnx, bin_streq, bin_bo_same, lstep_some, ↓st_load1nf, ↓st_loadnf, ↓st_appr, ↓st_appf0]
    refine ⟨n - 1, by omega, ?_⟩
    rw [hI]
    exact ⟨rfl, i + 1, by omega, (by simp only [bE, Nat.reduceEqDiff, bN, Nat.reduceLT, he, e1, e2, e5]; try rfl), (by simp only [bE, Nat.reduceEqDiff, bN, Nat.reduceLT, he, e1, e2, e5]; try rfl), (by simp only [bE, Nat.reduceEqDiff, bN, Nat.reduceLT, he, e1, e2, e5]; try rfl), (by simp only [bE, Nat.reduceEqDiff, bN, Nat.reduceLT, he, e1, e2, e5]; try rfl), by omega, pre_nxt (P := fun y => sg d y.1 < sg d k) hy hpre hc⟩
  · rw [decide_eq_false hc] at q1
    have hrk : rkD d L k = i := rk_eq hil hpre fun z hz => by
      rw [hy] at hz
      injection hz with hz
      rw [← hz]
      exact hc
    rw [hrk]
    simp (config := {contextual := true, maxDischargeDepth := 12, maxSteps := 4000000}) only [tb_at, he, e1, e2, e5, b1, b2, blt, hL, y1, i1, a1, a3, q1, reserve0, notV_bool, Bool.not_true, Bool.not_false, pickV_t, pickV_f, bin_eql, bin_neq, bin_neb, bin_npn, bin_np, bin_npnx, gcall_tt, gpure_tf, beq_self_eq_true, Bool.true_and, Bool.and_true, decide_true, decide_false, ↓bD, bU, forall_const, bS, implies_true, isNx, eq_self, ↓wp_cond, ↓wp_loop, ↓reduceIte, reduceCtorEq, Nat.reduceEqDiff, Nat.reduceLT, Nat.reduceAdd, Nat.reduceMul, bT, ↓sg_bsl, ↓st_callf, bX, ap_mkfn, ap_conv, ↓wi_seq, ↓wi_base, ↓wi_block, ↓wi_cond, ↓wi_loop, ↓wi_rf, ↓wy_seq, ↓wy_base, ↓wy_block, ↓wy_cond, ↓wy_loop, ↓wy_yld, ae_callvV, callvV_fn, List.append_nil, List.cons_append, List.nil_append, bin_nff, bin_nfn, bin_nffx, bin_nfnx, bin_streq, bin_bo_same, lstep_some, ↓st_load1nf, ↓st_loadnf, ↓st_appr, ↓st_appf0]
    all_goals first | exact hK1 | skip
theorem q_RRank (cl : Bool) {s : St} {rv : AV} {L : List PrS} (hr : AM.read prC s rv = some L) (hl : L.length ≤ 10000) (d : Bool) (k : Int) : acall R_RRank cl [.agg [.bool d, rv], .int .i64 k] s = some (.int .i64 ((rkD d L k : Nat) : Int), s) := run_same n_RRank (by simp [a42]) rfl (w_RRank (s := lowd s) (read_low' hr) hl d k)
end Go.AM
end
/-
  Ordered maps: the reference, continued. Own work of this project; in part printed by a program of it.
-/
section
set_option maxRecDepth 100000
set_option maxHeartbeats 8000000
namespace Go.AM
open Go Go.Proofs

variable {s t u : St}

theorem bin_nfls (a : Int) (b : ByteArray) : binOp .neq (.fl [.i, .s]) (.agg [.int .i64 a, .str b]) (.agg [.int .i64 a, .str b]) = some (.bool false) := by
  have hb : (b == b) = true := by
    cases b
    simp [BEq.beq, ByteArray.beq]
    rw [Array.isEqv_eq_decide]
    simp
  simp [binOp, eqV, eqL, eqF, hb]
theorem own_bornP {v : AV} {l : List PrS} {id : Nat} {b0 b : AB} (h : Own prC s t v l) (hg : t.get id = some b0) (hid : id < s.next) : Own prC s (t.born id b) v l := by
  rcases h with h | ⟨j, rfl, h0, h1, h2⟩
  · exact .inl h
  · refine .inr ⟨j, rfl, h0, h1, ?_⟩
    rw [St.get_born_ne _ _ (St.get_lt hg) (by omega)]
    exact h2
def dropK (k : Int) (L : List PrS) : List PrS := L.filter fun y => decide (y.1 ≠ k)
theorem dropK_len (k : Int) (L : List PrS) : (dropK k L).length ≤ L.length := List.length_filter_le _ _
theorem dropK_snoc {k : Int} {L : List PrS} {i : Nat} {y : PrS} (hy : L[i]? = some y) : dropK k (L.take (i + 1)) = if y.1 = k then dropK k (L.take i) else dropK k (L.take i) ++ [y] := by
  unfold dropK
  rw [take_snoc hy, List.filter_append]
  by_cases e : y.1 = k
  · simp [e]
  · simp [e]
def putR (d : Bool) (L : List PrS) (k : Int) (v : ByteArray) : List PrS := (dropK k L).take (rkD d (dropK k L) k) ++ (k, v) :: (dropK k L).drop (rkD d (dropK k L) k)
noncomputable def R_RFrom : Con := runFn (tb [(42, R_RRank)]) a18
theorem s_RFrom : SoundAt Try.prog 18 R_RFrom := run_sound (tb_sound (l := [(42, R_RRank)]) (by simpa using s_RRank)) mixed Try.func18 k18 c18
theorem n_RFrom : noNxtC a18.body = true := by kernel_rfl
theorem w_RFrom {s : St} {rv : AV} {L : List PrS} (hr : AM.read prC s rv = some L) (hl : L.length ≤ 10000) (d : Bool) (k : Int) : ∀ env : Env, elen env = a18.ntmps → (∀ i x_, [.agg [.bool d, rv], .int .i64 k][i]? = some x_ → E env i = x_) → awp (tb [(42, R_RRank)]) a18.body (fun x e t => (∀ i, x ≠ .exit i) ∧ ∃ r, aresults e t a18.results = some r ∧ AM.read prC t r = some (L.drop (rkD d L k)) ∧ Keep s t) env s := by
  intro env hlen ha
  have h0 : E env 0 = _ := ha 0 _ rfl
  have h1 : E env 1 = _ := ha 1 _ rfl
  have hlen : elen env = _ := hlen
  simp only [a18] at hlen
  unfold a18
  try dsimp only [oO, oG]
  have ho := rd_one hr
  have hbx := boxV_m (a := .bool d) (b := rv) rfl ho.2
  have hK1 : Keep s (s.push (.row [.bool d, rv] true)) := (Keep.refl s).push _
  have hg1 := St.get_push_new s (.row [.bool d, rv] true)
  have hr1 := hK1.read hr
  obtain ⟨b0, b1, blt⟩ := row2_lod hg1
  have b2 := row2_lod2 hg1
  have hL := lenV_read hr
  have q1 := q_RRank true hr1 hl d k
  obtain ⟨v', hsl, hrd⟩ := slc_lo (C := prC) hr1 (k := .i64) (i := ((rkD d L k : Nat) : Int)) rfl (rk_le d k L)
  rw [prC_sz] at hsl
  simp (config := {contextual := true, maxDischargeDepth := 12, maxSteps := 4000000}) only [tb_at, h0, h1, hlen, hbx, b1, b2, blt, ar_call, q1, hsl, reserve0, notV_bool, Bool.not_true, Bool.not_false, pickV_t, pickV_f, bin_eql, bin_neq, bin_neb, bin_npn, bin_np, bin_npnx, gcall_tt, gpure_tf, beq_self_eq_true, Bool.true_and, Bool.and_true, decide_true, decide_false, ↓bD, bU, forall_const, bS, implies_true, isNx, eq_self, ↓wp_cond, ↓wp_loop, ↓reduceIte, reduceCtorEq, Nat.reduceEqDiff, Nat.reduceLT, Nat.reduceAdd, Nat.reduceMul, bT, ↓sg_bsl, ↓st_callf, bX, ap_mkfn, ap_conv, ↓wi_seq, ↓wi_base, ↓wi_block, ↓wi_cond, ↓wi_loop, ↓wi_rf, ↓wy_seq, ↓wy_base, ↓wy_block, ↓wy_cond, ↓wy_loop, ↓wy_yld, ae_callvV, callvV_fn, List.append_nil, List.cons_append, List.nil_append, bin_nff, bin_nfn, bin_nffx, bin_nfnx, bin_streq, bin_bo_same, lstep_some, ↓st_load1nf, ↓st_loadnf, ↓st_appr, ↓st_appf0, bin_nfls]
  first | exact ⟨_, rfl, hrd _ (.refl _), hK1⟩ | exact ⟨_, rfl, hrd _ (.refl _)⟩
theorem q_RFrom {s : St} {rv : AV} {L : List PrS} (hr : AM.read prC s rv = some L) (hl : L.length ≤ 10000) (d : Bool) (k : Int) : ∃ w t, acall R_RFrom false [.agg [.bool d, rv], .int .i64 k] s = some (w, t) ∧ AM.read prC t w = some (L.drop (rkD d L k)) ∧ Keep s t :=
  run_any (s := s) n_RFrom (args := [.agg [.bool d, rv], .int .i64 k]) (Q := fun r t => AM.read prC t r = some (L.drop (rkD d L k))) (by simp [a18]) (fun r t t' hg hn h => read_mono h fun id b hb => by rw [hg]; exact hb) (fun r t hgr hk h => by
    cases r <;> first | exact h | cases hgr | (simp [AM.read] at h)) (w_RFrom (s := lowd s) (read_low' hr) hl d k)
noncomputable def R_RDelete : Con := runFn (tb []) a31
theorem s_RDelete : SoundAt Try.prog 31 R_RDelete := run_sound (tb_sound (l := []) (by simp)) mixed Try.func31 k31 c31
theorem n_RDelete : noNxtC a31.body = true := by kernel_rfl
theorem w_RDelete {s : St} {rv : AV} {L : List PrS} (hr : AM.read prC s rv = some L) (hl : L.length ≤ 10000) (d : Bool) (k : Int) : ∀ env : Env, elen env = a31.ntmps → (∀ i x_, [.agg [.bool d, rv], .int .i64 k][i]? = some x_ → E env i = x_) → awp (tb []) a31.body (fun x e t => (∀ i, x ≠ .exit i) ∧ ∃ r, aresults e t a31.results = some r ∧ (∃ lv, r = .agg [.bool d, lv] ∧ Own prC s t lv (dropK k L)) ∧ Keep s t) env s := by
  intro env hlen ha
  have h0 : E env 0 = _ := ha 0 _ rfl
  have h1 : E env 1 = _ := ha 1 _ rfl
  have hlen : elen env = _ := hlen
  simp only [a31] at hlen
  unfold a31
  try dsimp only [oO, oG]
  have ho := rd_one hr
  have hbx := boxV_m (a := .bool d) (b := rv) rfl ho.2
  have hK1 : Keep s (s.push (.row [.bool d, rv] true)) := (Keep.refl s).push _
  have hg1 := St.get_push_new s (.row [.bool d, rv] true)
  have hr1 := hK1.read hr
  obtain ⟨b0, b1, blt⟩ := row2_lod hg1
  have b2 := row2_lod2 hg1
  have hL := lenV_read hr
  have n1 : (s.push (.row [.bool d, rv] true)).next = s.next + 1 := rfl
  have n2 : ((s.push (.row [.bool d, rv] true)).push (.row [.bool false, .nils] true)).next = s.next + 2 := rfl
  obtain ⟨u2, hu2⟩ : ∃ u2, u2 = (s.push (.row [.bool d, rv] true)).push (.row [.bool false, .nils] true) := ⟨_, rfl⟩
  have g2a : u2.get s.next = some (.row [.bool d, rv] true) := by rw [hu2]; exact get_push_some _ hg1
  have g2b : u2.get (s.next + 1) = some (.row [.bool false, .nils] true) := by rw [hu2]; exact St.get_push_new (s.push (.row [.bool d, rv] true)) _
  have hK2 : Keep s u2 := by rw [hu2]; exact hK1.push _
  rw [← hu2] at n2
  have st1 := sto_z2 (m := s.next + 2) (t := u2) n2.symm (a := .bool d) (b := .nils) rfl rfl [.bool false, .nils] rfl
  obtain ⟨u3, hu3⟩ : ∃ u3, u3 = u2.lowed.push (.row [.bool d, .nils] true) := ⟨_, rfl⟩
  have g3c : u3.get (s.next + 2) = some (.row [.bool d, .nils] true) := by rw [hu3, ← n2]; exact St.get_push_new u2.lowed _
  have hK3 : Keep s u3 := by rw [hu3]; exact (hK2.trans (keep_lowed u2)).push _
  have hK23 : Keep u2 u3 := by rw [hu3]; exact (keep_lowed u2).push _
  rw [← hu3] at st1
  obtain ⟨c0, c1, clt⟩ := row2_lod g2a
  have fs0 := fstep_bw0' (x := .bool d) ⟨rfl, rfl⟩ (.bool false) .nils
  have lt0 : ltN (s.next + 2) (u2.push (.row [.bool false, .nils] true)) := by show s.next + 2 < u2.next + 1; omega
  simp (config := {contextual := true, maxDischargeDepth := 12, maxSteps := 4000000}) only [tb_at, h0, h1, hlen, hbx, n1, ← hu2, n2, c0, clt, ap_build, fillP_nil, fillP_cons, fs0, st1, lt0, notV_bool, Bool.not_true, Bool.not_false, pickV_t, pickV_f, bin_eql, bin_neq, bin_neb, bin_npn, bin_np, bin_npnx, gcall_tt, gpure_tf, beq_self_eq_true, Bool.true_and, Bool.and_true, decide_true, decide_false, ↓bD, bU, forall_const, bS, implies_true, isNx, eq_self, ↓wp_cond, ↓wp_loop, ↓reduceIte, reduceCtorEq, Nat.reduceEqDiff, Nat.reduceLT, Nat.reduceAdd, Nat.reduceMul, bT, ↓sg_bsl, ↓st_callf, bX, ap_mkfn, ap_conv, ↓wi_seq, ↓wi_base, ↓wi_block, ↓wi_cond, ↓wi_loop, ↓wi_rf, ↓wy_seq, ↓wy_base, ↓wy_block, ↓wy_cond, ↓wy_loop, ↓wy_yld, ae_callvV, callvV_fn, List.append_nil, List.cons_append, List.nil_append, bin_nff, bin_nfn, bin_nffx, bin_nfnx, bin_streq, bin_bo_same, lstep_some, ↓st_load1nf, ↓st_loadnf, ↓st_appr, ↓st_appf0, bin_nfls]
  obtain ⟨I, hI⟩ : ∃ I : Nat → Env → St → Prop, ∀ n e t, I n e t = (Keep s t ∧ ∃ (i : Nat) (lv : AV), n + i = L.length ∧ elen e = 36 ∧ E e 1 = .int .i64 k ∧ E e 2 = .ptr s.next 0 ∧ E e 4 = .ptr (s.next + 1) 0 ∧ E e 5 = .ptr (s.next + 2) 0 ∧ E e 6 = .int .i64 (i : Int) ∧ t.get s.next = some (.row [.bool d, rv] true) ∧ t.get (s.next + 1) = some (.row [.bool false, .nils] true) ∧ t.get (s.next + 2) = some (.row [.bool d, lv] true) ∧ Own prC s t lv (dropK k (L.take i))) := ⟨fun n e t => (Keep s t ∧ ∃ (i : Nat) (lv : AV), n + i = L.length ∧ elen e = 36 ∧ E e 1 = .int .i64 k ∧ E e 2 = .ptr s.next 0 ∧ E e 4 = .ptr (s.next + 1) 0 ∧ E e 5 = .ptr (s.next + 2) 0 ∧ E e 6 = .int .i64 (i : Int) ∧ t.get s.next = some (.row [.bool d, rv] true) ∧ t.get (s.next + 1) = some (.row [.bool false, .nils] true) ∧ t.get (s.next + 2) = some (.row [.bool d, lv] true) ∧ Own prC s t lv (dropK k (L.take i))), fun _ _ _ => rfl⟩
  refine lwp_inv I (n := L.length) ?_ ?_
  · rw [hI]
    exact ⟨hK3, 0, .nils, by omega, (by simp only [bE, Nat.reduceEqDiff, bN, Nat.reduceLT, hlen]; try rfl), (by simp only [bE, Nat.reduceEqDiff, bN, Nat.reduceLT, hlen, h1]; try rfl), (by simp only [bE, Nat.reduceEqDiff, bN, Nat.reduceLT, hlen]; try rfl), (by simp only [bE, Nat.reduceEqDiff, bN, Nat.reduceLT, hlen]; try rfl), (by simp only [bE, Nat.reduceEqDiff, bN, Nat.reduceLT, hlen]; try rfl), (by simp only [bE, Nat.reduceEqDiff, bN, Nat.reduceLT, hlen]; try rfl), hK23.blk g2a, hK23.blk g2b, g3c, .nil _ _ _⟩
  clear h0 ha
  intro n e t hi
  rw [hI] at hi
  obtain ⟨hK, i, lv, hni, he, e1, e2, e4, e5, e6, g0, g1, g2, hO⟩ := hi
  obtain ⟨d0, d1, dlt⟩ := row2_lod g0
  obtain ⟨f0, f1, flt⟩ := row2_lod g2
  by_cases hlt : i < L.length
  rotate_left
  · have y1 := eq_false (show ¬ (i : Int) < (L.length : Int) by omega)
    obtain rfl : i = L.length := by omega
    rw [List.take_length] at hO
    have ld5 := row2_lod2 g2
    have st2 := row2_sto2 g1 (x := .bool d) (y := lv) rfl (own_one1 hO).2
    have lt2 := St.get_lt g1
    have ld2 := row2_lod2 (St.get_put_same (b := .row [.bool d, lv] true) g1)
    have hO2 : Own prC s (t.put (s.next + 1) (.row [.bool d, lv] true)) lv (dropK k L) := by
      have hne := own_neb rfl hO g1
      rcases hO with q | ⟨j, q, q0, q1, q2⟩
      · exact .inl q
      · refine .inr ⟨j, q, q0, q1, ?_⟩
        rw [St.get_put_ne _ _ lt2 fun e => hne 0 _ none _ (by rw [q, e])]
        exact q2
    have hKf := hK.put (id := s.next + 1) (.row [.bool d, lv] true) (by omega) lt2
    simp (config := {contextual := true, maxDischargeDepth := 12, maxSteps := 4000000}) only [tb_at, he, e1, e2, e4, e5, e6, d1, dlt, hL, y1, ld5, flt, st2, lt2, ld2, notV_bool, Bool.not_true, Bool.not_false, pickV_t, pickV_f, bin_eql, bin_neq, bin_neb, bin_npn, bin_np, bin_npnx, gcall_tt, gpure_tf, beq_self_eq_true, Bool.true_and, Bool.and_true, decide_true, decide_false, ↓bD, bU, forall_const, bS, implies_true, isNx, eq_self, ↓wp_cond, ↓wp_loop, ↓reduceIte, reduceCtorEq, Nat.reduceEqDiff, Nat.reduceLT, Nat.reduceAdd, Nat.reduceMul, bT, ↓sg_bsl, ↓st_callf, bX, ap_mkfn, ap_conv, ↓wi_seq, ↓wi_base, ↓wi_block, ↓wi_cond, ↓wi_loop, ↓wi_rf, ↓wy_seq, ↓wy_base, ↓wy_block, ↓wy_cond, ↓wy_loop, ↓wy_yld, ae_callvV, callvV_fn, List.append_nil, List.cons_append, List.nil_append, bin_nff, bin_nfn, bin_nffx, bin_nfnx, bin_streq, bin_bo_same, lstep_some, ↓st_load1nf, ↓st_loadnf, ↓st_appr, ↓st_appf0, bin_nfls]
    first | exact ⟨_, rfl, ⟨lv, rfl, hO2⟩, hKf⟩ | exact ⟨⟨lv, rfl, hO2⟩, hKf⟩ | exact ⟨_, rfl, lv, rfl, hO2⟩
  have y1 := eq_true (show (i : Int) < (L.length : Int) by omega)
  have hw2 := wrap_add1 (n := i) (by omega)
  obtain ⟨y, hy⟩ := getsome hlt
  have hrt := hK.read hr
  obtain ⟨i1, a0, a1, _, a3⟩ := pr_lods hrt hy
  have hsn := dropK_snoc (k := k) hy
  by_cases hc : y.1 = k
  · have z1 := eq_true hc
    rw [if_pos hc] at hsn
    rw [← hsn] at hO
    simp (config := {contextual := true, maxDischargeDepth := 12, maxSteps := 4000000}) only [tb_at, he, e1, e2, e4, e5, e6, d1, dlt, hL, y1, hw2, i1, a1, a3, z1, notV_bool, Bool.not_true, Bool.not_false, pickV_t, pickV_f, bin_eql, bin_neq, bin_neb, bin_npn, bin_np, bin_npnx, gcall_tt, gpure_tf, beq_self_eq_true, Bool.true_and, Bool.and_true, decide_true, decide_false, ↓bD, bU, forall_const, bS, implies_true, isNx, eq_self, ↓wp_cond, ↓wp_loop, ↓reduceIte, reduceCtorEq, Nat.reduceEqDiff, Nat.reduceLT, Nat.reduceAdd, Nat.reduceMul, bT, ↓sg_bsl, ↓st_callf, bX, ap_mkfn, ap_conv, ↓wi_seq, ↓wi_base, ↓wi_block, ↓wi_cond, ↓wi_loop, ↓wi_rf, ↓wy_seq, ↓wy_base, ↓wy_block, ↓wy_cond, ↓wy_loop, ↓wy_yld, ae_callvV, callvV_fn, List.append_nil, List.cons_append, List.nil_append, bin_nff, bin_nfn, bin_nffx, bin_nfnx, bin_streq, bin_bo_same, lstep_some, ↓st_load1nf, ↓st_loadnf, ↓st_appr, ↓st_appf0, bin_nfls]
    refine ⟨n - 1, by omega, ?_⟩
    rw [hI]
    exact ⟨hK, i + 1, lv, by omega, (by simp only [bE, Nat.reduceEqDiff, bN, Nat.reduceLT, he, e1, e2, e4, e5, e6]; try rfl), (by simp only [bE, Nat.reduceEqDiff, bN, Nat.reduceLT, he, e1, e2, e4, e5, e6]; try rfl), (by simp only [bE, Nat.reduceEqDiff, bN, Nat.reduceLT, he, e1, e2, e4, e5, e6]; try rfl), (by simp only [bE, Nat.reduceEqDiff, bN, Nat.reduceLT, he, e1, e2, e4, e5, e6]; try rfl), (by simp only [bE, Nat.reduceEqDiff, bN, Nat.reduceLT, he, e1, e2, e4, e5, e6]; try rfl), (by simp only [bE, Nat.reduceEqDiff, bN, Nat.reduceLT, he, e1, e2, e4, e5, e6]; try rfl), g0, g1, g2, hO⟩
  · have z1 := eq_false hc
    rw [if_neg hc] at hsn
    have hbs : bslV [.int .i64 0, .str ⟨#[]⟩] 1 2 [(0, .agg [.int .i64 y.1, .str y.2])] = some (fun id => .sl id 0 1 (some 1) 2, .row [.int .i64 y.1, .str y.2] true) := by
      simp [bslV, fillP, aev, AV.cells, AV.one, setAt]
    obtain ⟨lv', t2, hap, hst, hlt2, hK2', g2', hO2, hfr⟩ := box2_app hK g2 (by omega) hO y (by have := dropK_len k (L.take i); rw [List.length_take] at this; omega)
    rw [← hsn] at hO2
    have g0' := hfr _ _ g0 (by omega) (own_neb rfl hO g0)
    have g1' := hfr _ _ g1 (by omega) (own_neb rfl hO g1)
    have hap : appV (t.push (.row [.int .i64 y.1, .str y.2] true)) 2 24 lv (.sl t.next 0 1 (some 1) 2) = some (lv', t2) := hap
    have hKR := keep_reserve t 1
    obtain ⟨d0', d1', dlt'⟩ := row2_lod (hKR.blk g0)
    obtain ⟨f0', f1', flt'⟩ := row2_lod (hKR.blk g2)
    obtain ⟨i1', a0', a1', _, a3'⟩ := pr_lods (hKR.read hrt) hy
    simp (config := {contextual := true, maxDischargeDepth := 12, maxSteps := 4000000}) only [tb_at, he, e1, e2, e4, e5, e6, d1, dlt, hL, y1, hw2, i1, a1, a3, z1, d1', dlt', f1', flt', a0', a3', hbs, hap, hst, hlt2, notV_bool, Bool.not_true, Bool.not_false, pickV_t, pickV_f, bin_eql, bin_neq, bin_neb, bin_npn, bin_np, bin_npnx, gcall_tt, gpure_tf, beq_self_eq_true, Bool.true_and, Bool.and_true, decide_true, decide_false, ↓bD, bU, forall_const, bS, implies_true, isNx, eq_self, ↓wp_cond, ↓wp_loop, ↓reduceIte, reduceCtorEq, Nat.reduceEqDiff, Nat.reduceLT, Nat.reduceAdd, Nat.reduceMul, bT, ↓sg_bsl, ↓st_callf, bX, ap_mkfn, ap_conv, ↓wi_seq, ↓wi_base, ↓wi_block, ↓wi_cond, ↓wi_loop, ↓wi_rf, ↓wy_seq, ↓wy_base, ↓wy_block, ↓wy_cond, ↓wy_loop, ↓wy_yld, ae_callvV, callvV_fn, List.append_nil, List.cons_append, List.nil_append, bin_nff, bin_nfn, bin_nffx, bin_nfnx, bin_streq, bin_bo_same, lstep_some, ↓st_load1nf, ↓st_loadnf, ↓st_appr, ↓st_appf0, bin_nfls]
    refine ⟨n - 1, by omega, ?_⟩
    rw [hI]
    exact ⟨hK2', i + 1, lv', by omega, (by simp only [bE, Nat.reduceEqDiff, bN, Nat.reduceLT, he, e1, e2, e4, e5, e6]; try rfl), (by simp only [bE, Nat.reduceEqDiff, bN, Nat.reduceLT, he, e1, e2, e4, e5, e6]; try rfl), (by simp only [bE, Nat.reduceEqDiff, bN, Nat.reduceLT, he, e1, e2, e4, e5, e6]; try rfl), (by simp only [bE, Nat.reduceEqDiff, bN, Nat.reduceLT, he, e1, e2, e4, e5, e6]; try rfl), (by simp only [bE, Nat.reduceEqDiff, bN, Nat.reduceLT, he, e1, e2, e4, e5, e6]; try rfl), (by simp only [bE, Nat.reduceEqDiff, bN, Nat.reduceLT, he, e1, e2, e4, e5, e6]; try rfl), g0', g1', g2', hO2⟩
theorem q_RDelete {s : St} {rv : AV} {L : List PrS} (hr : AM.read prC s rv = some L) (hl : L.length ≤ 10000) (d : Bool) (k : Int) : ∃ lv t, acall R_RDelete false [.agg [.bool d, rv], .int .i64 k] s = some (.agg [.bool d, lv], t) ∧ Own prC s t lv (dropK k L) ∧ Keep s t := by
  obtain ⟨r, t, h1, ⟨lv, rfl, h2⟩, h4⟩ := run_any (s := s) n_RDelete (args := [.agg [.bool d, rv], .int .i64 k]) (Q := fun r t => ∃ lv, r = .agg [.bool d, lv] ∧ Own prC s t lv (dropK k L)) (by simp [a31]) (fun r t t' hg hn ⟨lv, e, h⟩ => ⟨lv, e, h.mono fun id b hb => by rw [hg]; exact hb⟩) (fun r t hgr hk h => by
    obtain ⟨lv, rfl, h⟩ := h
    rcases h with ⟨rfl, e⟩ | ⟨j, rfl, _⟩
    · exact ⟨.nils, rfl, .inl ⟨rfl, e⟩⟩
    · cases d <;> cases hgr) (w_RDelete (s := lowd s) (read_low' hr) hl d k)
  exact ⟨lv, t, h1, h2, h4⟩

end Go.AM
end
/-
  Ordered maps: Set of the reference, Same, light; plain laws. Own work of this project; in part printed by a program of it.
-/
section
set_option maxRecDepth 100000
set_option maxHeartbeats 8000000
namespace Go.AM
open Go Go.Proofs

variable {s t u : St}
noncomputable def R_RSet : Con := runFn (tb [(31, R_RDelete), (42, R_RRank)]) a12
theorem s_RSet : SoundAt Try.prog 12 R_RSet := run_sound (tb_sound (l := [(31, R_RDelete), (42, R_RRank)]) (by simpa using ⟨s_RDelete, s_RRank⟩)) mixed Try.func12 k12 c12
theorem n_RSet : noNxtC a12.body = true := by kernel_rfl
theorem w_RSet {s : St} {rv : AV} {L : List PrS} (hr : AM.read prC s rv = some L) (hl : L.length ≤ 9000) (d : Bool) (k : Int) (v : ByteArray) : ∀ env : Env, elen env = a12.ntmps → (∀ i x_, [.agg [.bool d, rv], .int .i64 k, .str v][i]? = some x_ → E env i = x_) → awp (tb [(31, R_RDelete), (42, R_RRank)]) a12.body (fun x e t => (∀ i, x ≠ .exit i) ∧ ∃ r, aresults e t a12.results = some r ∧ (∃ lv, r = .agg [.bool d, lv] ∧ Own prC s t lv (putR d L k v)) ∧ Keep s t) env s := by
  intro env hlen ha
  have h0 : E env 0 = _ := ha 0 _ rfl
  have h1 : E env 1 = _ := ha 1 _ rfl
  have h2 : E env 2 = _ := ha 2 _ rfl
  have hlen : elen env = _ := hlen
  simp only [a12] at hlen
  unfold a12
  try dsimp only [oO, oG]
  have ho := rd_one hr
  have hbx := boxV_m (a := .bool d) (b := rv) rfl ho.2
  have hK1 : Keep s (s.push (.row [.bool d, rv] true)) := (Keep.refl s).push _
  have hg1 := St.get_push_new s (.row [.bool d, rv] true)
  have hr1 := hK1.read hr
  obtain ⟨b0, b1, blt⟩ := row2_lod hg1
  have b2 := row2_lod2 hg1
  have hL := lenV_read hr
  have n1 : (s.push (.row [.bool d, rv] true)).next = s.next + 1 := rfl
  obtain ⟨u2, hu2⟩ : ∃ u2, u2 = (s.push (.row [.bool d, rv] true)).push (.row [.bool false, .nils] true) := ⟨_, rfl⟩
  have g2a : u2.get s.next = some (.row [.bool d, rv] true) := by rw [hu2]; exact get_push_some _ hg1
  have g2b : u2.get (s.next + 1) = some (.row [.bool false, .nils] true) := by rw [hu2]; exact St.get_push_new (s.push (.row [.bool d, rv] true)) _
  have hK2 : Keep s u2 := by rw [hu2]; exact hK1.push _
  have ld0 := row2_lod2 g2a
  have clt := St.get_lt g2a
  obtain ⟨lv1, t3, q1, hO1, hK3⟩ := q_RDelete (hK2.read hr) (by omega) d k
  obtain ⟨M, hM⟩ : ∃ M, M = dropK k L := ⟨_, rfl⟩
  rw [← hM] at hO1
  have hML : M.length ≤ L.length := by rw [hM]; exact dropK_len k L
  have st1 := row2_sto2 (hK3.blk g2a) (x := .bool d) (y := lv1) rfl (own_one1 hO1).2
  have lt1 := St.get_lt (hK3.blk g2a)
  obtain ⟨u, hu⟩ : ∃ u, u = t3.put s.next (.row [.bool d, lv1] true) := ⟨_, rfl⟩
  have gu : u.get s.next = some (.row [.bool d, lv1] true) := by rw [hu]; exact St.get_put_same (hK3.blk g2a)
  have gu1 : u.get (s.next + 1) = some (.row [.bool false, .nils] true) := by rw [hu, St.get_put_ne _ _ lt1 (by omega)]; exact hK3.blk g2b
  have hKu : Keep s u := by rw [hu]; exact (hK2.trans hK3).put _ (Nat.le_refl _) lt1
  have hr1u : AM.read prC u lv1 = some M := by
    have hne := own_neb rfl hO1 (hK3.blk g2a)
    refine (show Own prC u2 u lv1 M from ?_).read
    rcases hO1 with e | ⟨j, e, q0, qa, qb⟩
    · exact .inl e
    · refine .inr ⟨j, e, q0, qa, ?_⟩
      rw [hu, St.get_put_ne _ _ lt1 fun e' => hne 0 _ none _ (by rw [e, e'])]
      exact qb
  rw [← hu] at st1
  have ld1 := row2_lod2 gu
  have ltu := St.get_lt gu
  have q2 := q_RRank false hr1u (by omega) d k
  obtain ⟨i, hi⟩ : ∃ i, i = rkD d M k := ⟨_, rfl⟩
  rw [← hi] at q2
  have hil : i ≤ M.length := by rw [hi]; exact rk_le d k M
  have hKR : Keep u (u.reserve 1) := keep_reserve u 1
  obtain ⟨v1, sl1, rd1⟩ := slc_hi (C := prC) hr1u (fun id off n c z e => by
    rcases hO1 with ⟨e', _⟩ | ⟨j, e', _⟩ <;> rw [e'] at e <;> cases e) (k := .i64) (i := (i : Int)) rfl hil
  obtain ⟨v2, sl2, rd2⟩ := slc_lo (C := prC) hr1u (k := .i64) (i := (i : Int)) rfl hil
  rw [prC_sz] at sl1 sl2
  obtain ⟨w1, t4, ap1, hK4, hO4⟩ := appG_list (C := prC) (Nat.le_refl _) (Keep.refl (u.reserve 1)) (.nil prC (u.reserve 1) (u.reserve 1)) (rd1 _ hKR) 24 (by rw [List.length_take]; unfold roomBytes; simp; omega)
  rw [List.nil_append] at hO4
  have hun : t4.get u.next = some .unborn := by rw [hK4.get _ (by simp), St.get_reserve]; simp
  have hun0 : t4.get (u.next + 0) = some .unborn := hun
  obtain ⟨t5, ht5⟩ : ∃ t5, t5 = t4.born u.next (.row [.int .i64 k, .str v] true) := ⟨_, rfl⟩
  have hK5 : Keep u t5 := by rw [ht5]; exact (hKR.trans hK4).born _ (Nat.le_refl _) (St.get_lt hun)
  have hO5 : Own prC u t5 w1 (M.take i) := by
    rw [ht5]
    exact (own_bornP hO4 hun (by simp)).from (by simp)
  have g5 : t5.get u.next = some (.row [.int .i64 k, .str v] true) := by rw [ht5]; exact St.get_born_same hun
  have hrd5 : AM.read prC t5 (.sl u.next 0 1 (some 1) 2) = some [(k, v)] := read_of (C := prC) (n := 1) rfl g5 (by simp [prC]) rfl
  obtain ⟨w2, t6, ap2, hK6, hO6⟩ := appG_list (C := prC) (Nat.le_refl u.next) hK5 hO5 hrd5 24 (by rw [List.length_take]; unfold roomBytes; simp; omega)
  obtain ⟨w3, t7, ap3, hK7, hO7⟩ := appG_list (C := prC) (Nat.le_refl u.next) hK6 hO6 (rd2 _ hK6) 24 (by rw [List.length_append, List.length_take, List.length_drop]; unfold roomBytes; simp; omega)
  rw [prC_sz] at ap1 ap2 ap3
  have hput : M.take i ++ [(k, v)] ++ M.drop i = putR d L k v := by
    unfold putR
    rw [← hM, ← hi]
    simp
  rw [hput] at hO7
  have oa : oldA u.next (.ptr s.next 0) = true := oldA_lt ltu
  have oa1 : oldA u.next (.ptr s.next 1) = true := oldA_lt ltu
  obtain ⟨c0, c1, clR⟩ := row2_lod (hKR.blk gu)
  obtain ⟨e0_, e1_, elt⟩ := row2_lod (hK6.blk gu)
  have fs0 := fstep_bw0' (x := .bool d) ⟨rfl, rfl⟩ (.bool false) .nils
  have fs1 := fstep_bw1' (x := w3) (own_one1 hO7) (.bool d) .nils
  have fs2 := fstep_bw0' (x := .int .i64 k) ⟨rfl, rfl⟩ (.int .i64 0) (.str ⟨#[]⟩)
  have fs3 := fstep_bw1' (x := .str v) ⟨rfl, rfl⟩ (.int .i64 k) (.str ⟨#[]⟩)
  have hbs : bslV [.int .i64 0, .str ⟨#[]⟩] 1 2 [(0, .agg [.int .i64 k, .str v])] = some (fun id => .sl id 0 1 (some 1) 2, .row [.int .i64 k, .str v] true) := by
    simp [bslV, fillP, aev, AV.cells, AV.one, setAt]
  have g7 := hK7.blk gu1
  have st2 := row2_sto2 g7 (x := .bool d) (y := w3) rfl (own_one1 hO7).2
  have lt2 := St.get_lt g7
  have ld2 := row2_lod2 (St.get_put_same (b := .row [.bool d, w3] true) g7)
  have hO8 : Own prC s (t7.put (s.next + 1) (.row [.bool d, w3] true)) w3 (putR d L k v) := by
    have hne := own_neb rfl hO7 g7
    have hKn := hKu.next
    rcases hO7 with e | ⟨j, e, q0, qa, qb⟩
    · exact .inl e
    · refine .inr ⟨j, e, q0, by omega, ?_⟩
      rw [St.get_put_ne _ _ lt2 fun e' => hne 0 _ none _ (by rw [e, e'])]
      exact qb
  have hKf : Keep s (t7.put (s.next + 1) (.row [.bool d, w3] true)) := (hKu.trans hK7).put _ (by omega) lt2
  simp (config := {contextual := true, maxDischargeDepth := 12, maxSteps := 4000000}) only [tb_at, h0, h1, h2, hlen, hbx, n1, ← hu2, ld0, clt, q1, st1, lt1, ld1, ltu, q2, oa, oa1, c0, c1, clR, sl1, ap1, hun, hun0, Nat.add_zero, fs0, fs1, fs2, fs3, ap_build, fillP_nil, fillP_cons, hbs, ← ht5, ap2, e0_, e1_, elt, sl2, ap3, st2, lt2, ld2, notV_bool, Bool.not_true, Bool.not_false, pickV_t, pickV_f, bin_eql, bin_neq, bin_neb, bin_npn, bin_np, bin_npnx, gcall_tt, gpure_tf, beq_self_eq_true, Bool.true_and, Bool.and_true, decide_true, decide_false, ↓bD, bU, forall_const, bS, implies_true, isNx, eq_self, ↓wp_cond, ↓wp_loop, ↓reduceIte, reduceCtorEq, Nat.reduceEqDiff, Nat.reduceLT, Nat.reduceAdd, Nat.reduceMul, bT, ↓sg_bsl, ↓st_callf, bX, ap_mkfn, ap_conv, ↓wi_seq, ↓wi_base, ↓wi_block, ↓wi_cond, ↓wi_loop, ↓wi_rf, ↓wy_seq, ↓wy_base, ↓wy_block, ↓wy_cond, ↓wy_loop, ↓wy_yld, ae_callvV, callvV_fn, List.append_nil, List.cons_append, List.nil_append, bin_nff, bin_nfn, bin_nffx, bin_nfnx, bin_streq, bin_bo_same, lstep_some, ↓st_load1nf, ↓st_loadnf, ↓st_appr, ↓st_appf0, bin_nfls]
  first | exact ⟨_, rfl, ⟨w3, rfl, hO8⟩, hKf⟩ | exact ⟨⟨w3, rfl, hO8⟩, hKf⟩ | exact ⟨_, rfl, w3, rfl, hO8⟩
theorem q_RSet {s : St} {rv : AV} {L : List PrS} (hr : AM.read prC s rv = some L) (hl : L.length ≤ 9000) (d : Bool) (k : Int) (v : ByteArray) : ∃ lv t, acall R_RSet false [.agg [.bool d, rv], .int .i64 k, .str v] s = some (.agg [.bool d, lv], t) ∧ Own prC s t lv (putR d L k v) ∧ Keep s t := by
  obtain ⟨r, t, h1, ⟨lv, rfl, h2⟩, h4⟩ := run_any (s := s) n_RSet (args := [.agg [.bool d, rv], .int .i64 k, .str v]) (Q := fun r t => ∃ lv, r = .agg [.bool d, lv] ∧ Own prC s t lv (putR d L k v)) (by simp [a12]) (fun r t t' hg hn ⟨lv, e, h⟩ => ⟨lv, e, h.mono fun id b hb => by rw [hg]; exact hb⟩) (fun r t hgr hk h => by
    obtain ⟨lv, rfl, h⟩ := h
    rcases h with ⟨rfl, e⟩ | ⟨j, rfl, _⟩
    · exact ⟨.nils, rfl, .inl ⟨rfl, e⟩⟩
    · cases d <;> cases hgr) (w_RSet (s := lowd s) (read_low' hr) hl d k v)
  exact ⟨lv, t, h1, h2, h4⟩
noncomputable def R_Same : Con := runFn (tb []) a15
theorem s_Same : SoundAt Try.prog 15 R_Same := run_sound (tb_sound (l := []) (by simp)) mixed Try.func15 k15 c15
theorem n_Same : noNxtC a15.body = true := by kernel_rfl
theorem w_Same {s : St} {a c : AV} {L : List PrS} (ha_ : AM.read prC s a = some L) (hc_ : AM.read prC s c = some L) (hl : L.length ≤ 10000) : ∀ env : Env, elen env = a15.ntmps → (∀ i x_, [a, c][i]? = some x_ → E env i = x_) → awp (tb []) a15.body (fun x e t => (∀ i, x ≠ .exit i) ∧ aresults e t a15.results = some (.bool true) ∧ Keep s t) env s := by
  intro env hlen ha
  have h0 : E env 0 = _ := ha 0 _ rfl
  have h1 : E env 1 = _ := ha 1 _ rfl
  have hlen : elen env = _ := hlen
  simp only [a15] at hlen
  unfold a15
  try dsimp only [oO, oG]
  have hL := lenV_read ha_
  have hL2 := lenV_read hc_
  have nn : ((L.length : Int) = (L.length : Int)) = True := eq_self _
  simp (config := {contextual := true, maxDischargeDepth := 12, maxSteps := 4000000}) only [tb_at, h0, h1, hlen, hL, hL2, nn, notV_bool, Bool.not_true, Bool.not_false, pickV_t, pickV_f, bin_eql, bin_neq, bin_neb, bin_npn, bin_np, bin_npnx, gcall_tt, gpure_tf, beq_self_eq_true, Bool.true_and, Bool.and_true, decide_true, decide_false, ↓bD, bU, forall_const, bS, implies_true, isNx, eq_self, ↓wp_cond, ↓wp_loop, ↓reduceIte, reduceCtorEq, Nat.reduceEqDiff, Nat.reduceLT, Nat.reduceAdd, Nat.reduceMul, bT, ↓sg_bsl, ↓st_callf, bX, ap_mkfn, ap_conv, ↓wi_seq, ↓wi_base, ↓wi_block, ↓wi_cond, ↓wi_loop, ↓wi_rf, ↓wy_seq, ↓wy_base, ↓wy_block, ↓wy_cond, ↓wy_loop, ↓wy_yld, ae_callvV, callvV_fn, List.append_nil, List.cons_append, List.nil_append, bin_nff, bin_nfn, bin_nffx, bin_nfnx, bin_streq, bin_bo_same, lstep_some, ↓st_load1nf, ↓st_loadnf, ↓st_appr, ↓st_appf0, bin_nfls]
  obtain ⟨I, hI⟩ : ∃ I : Nat → Env → St → Prop, ∀ n e t, I n e t = (t = s ∧ ∃ i : Nat, n + i = L.length ∧ elen e = 26 ∧ E e 0 = a ∧ E e 1 = c ∧ E e 5 = .int .i64 (i : Int)) := ⟨fun n e t => (t = s ∧ ∃ i : Nat, n + i = L.length ∧ elen e = 26 ∧ E e 0 = a ∧ E e 1 = c ∧ E e 5 = .int .i64 (i : Int)), fun _ _ _ => rfl⟩
  refine lwp_inv I (n := L.length) ?_ ?_
  · rw [hI]
    exact ⟨rfl, 0, by omega, (by simp only [bE, Nat.reduceEqDiff, bN, Nat.reduceLT, hlen]; try rfl), (by simp only [bE, Nat.reduceEqDiff, bN, Nat.reduceLT, hlen, h0]; try rfl), (by simp only [bE, Nat.reduceEqDiff, bN, Nat.reduceLT, hlen, h1]; try rfl), (by simp only [bE, Nat.reduceEqDiff, bN, Nat.reduceLT, hlen]; try rfl)⟩
  clear h0 h1 ha
  intro n e t hi
  rw [hI] at hi
  obtain ⟨hK, i, hni, he, e0, e1, e5⟩ := hi
  subst hK
  by_cases hlt : i < L.length
  rotate_left
  · have y1 := eq_false (show ¬ (i : Int) < (L.length : Int) by omega)
    simp (config := {contextual := true, maxDischargeDepth := 12, maxSteps := 4000000}) only [tb_at, he, e0, e1, e5, hL, y1, notV_bool, Bool.not_true, Bool.not_false, pickV_t, pickV_f, bin_eql, bin_neq, bin_neb, bin_npn, bin_np, bin_npnx, gcall_tt, gpure_tf, beq_self_eq_true, Bool.true_and, Bool.and_true, decide_true, decide_false, ↓bD, bU, forall_const, bS, implies_true, isNx, eq_self, ↓wp_cond, ↓wp_loop, ↓reduceIte, reduceCtorEq, Nat.reduceEqDiff, Nat.reduceLT, Nat.reduceAdd, Nat.reduceMul, bT, ↓sg_bsl, ↓st_callf, bX, ap_mkfn, ap_conv, ↓wi_seq, ↓wi_base, ↓wi_block, ↓wi_cond, ↓wi_loop, ↓wi_rf, ↓wy_seq, ↓wy_base, ↓wy_block, ↓wy_cond, ↓wy_loop, ↓wy_yld, ae_callvV, callvV_fn, List.append_nil, List.cons_append, List.nil_append, bin_nff, bin_nfn, bin_nffx, bin_nfnx, bin_streq, bin_bo_same, lstep_some, ↓st_load1nf, ↓st_loadnf, ↓st_appr, ↓st_appf0, bin_nfls]
    all_goals first | exact .refl _ | skip
  have y1 := eq_true (show (i : Int) < (L.length : Int) by omega)
  have hw2 := wrap_add1 (n := i) (by omega)
  obtain ⟨y, hy⟩ := getsome hlt
  obtain ⟨i1, a0, _, _, a3⟩ := pr_lods ha_ hy
  obtain ⟨j1, b0, _, _, b3⟩ := pr_lods hc_ hy
  simp (config := {contextual := true, maxDischargeDepth := 12, maxSteps := 4000000}) only [tb_at, he, e0, e1, e5, hL, y1, hw2, i1, a0, a3, j1, b0, b3, reserve0, notV_bool, Bool.not_true, Bool.not_false, pickV_t, pickV_f, bin_eql, bin_neq, bin_neb, bin_npn, bin_np, bin_npnx, gcall_tt, gpure_tf, beq_self_eq_true, Bool.true_and, Bool.and_true, decide_true, decide_false, ↓bD, bU, forall_const, bS, implies_true, isNx, eq_self, ↓wp_cond, ↓wp_loop, ↓reduceIte, reduceCtorEq, Nat.reduceEqDiff, Nat.reduceLT, Nat.reduceAdd, Nat.reduceMul, bT, ↓sg_bsl, ↓st_callf, bX, ap_mkfn, ap_conv, ↓wi_seq, ↓wi_base, ↓wi_block, ↓wi_cond, ↓wi_loop, ↓wi_rf, ↓wy_seq, ↓wy_base, ↓wy_block, ↓wy_cond, ↓wy_loop, ↓wy_yld, ae_callvV, callvV_fn, List.append_nil, List.cons_append, List.nil_append, bin_nff, bin_nfn, bin_nffx, bin_nfnx, bin_streq, bin_bo_same, lstep_some, ↓st_load1nf, ↓st_loadnf, ↓st_appr, ↓st_appf0, bin_nfls]
  refine ⟨n - 1, by omega, ?_⟩
  rw [hI]
  exact ⟨rfl, i + 1, by omega, (by simp only [bE, Nat.reduceEqDiff, bN, Nat.reduceLT, he, e0, e1, e5]; try rfl), (by simp only [bE, Nat.reduceEqDiff, bN, Nat.reduceLT, he, e0, e1, e5]; try rfl), (by simp only [bE, Nat.reduceEqDiff, bN, Nat.reduceLT, he, e0, e1, e5]; try rfl), (by simp only [bE, Nat.reduceEqDiff, bN, Nat.reduceLT, he, e0, e1, e5]; try rfl)⟩
theorem q_Same (cl : Bool) {s : St} {a c : AV} {L : List PrS} (ha_ : AM.read prC s a = some L) (hc_ : AM.read prC s c = some L) (hl : L.length ≤ 10000) : acall R_Same cl [a, c] s = some (.bool true, s) := run_same n_Same (by simp [a15]) rfl (w_Same (s := lowd s) (read_low' ha_) (read_low' hc_) hl)

def lensV : AV → Option AV
  | .str b => some (.int .i64 (b.size : Int))
  | _ => none
theorem ap_lens {env : Env} (x : AO) : apure env (.len .st x) = lensV (aev env x) := by
  simp only [apure, lensV] <;> (cases aev env x <;> rfl)
theorem lensV_str (b : ByteArray) : lensV (.str b) = some (.int .i64 (b.size : Int)) := nrfl rfl
abbrev AcT := Int × Int × ByteArray
def acC : Cod AcT where
  sz := 3
  enc := fun x => [.int .i64 x.1, .int .i64 x.2.1, .str x.2.2]
  dec := fun cs => match cs with
    | [.int .i64 a, .int .i64 b, .str c] => some (a, b, c)
    | _ => none
  pos := by decide
  len := fun _ => rfl
  plain := fun _ => rfl
  dec_enc := fun _ => rfl
  enc_dec := fun cs x h => by
    split at h
    · injection h with h; subst h; rfl
    · cases h
theorem acC_sz : acC.sz = 3 := rfl
theorem ac_lods {v : AV} {l : List AcT} (h : AM.read acC s v = some l) {i : Nat} {x : AcT} (hi : l[i]? = some x) : iadV 3 v (.int .i64 (i : Int)) = some (.ptr (bid v) (boff v + i * 3)) ∧ lod s 3 (.ptr (bid v) (boff v + i * 3)) = some (.agg [.int .i64 x.1, .int .i64 x.2.1, .str x.2.2]) ∧
    lod1 s (.ptr (bid v) (boff v + i * 3)) = some (.int .i64 x.1) ∧ lod1 s (.ptr (bid v) (boff v + i * 3 + 1)) = some (.int .i64 x.2.1) ∧ lod1 s (.ptr (bid v) (boff v + i * 3 + 2)) = some (.str x.2.2) ∧ ltN (bid v) s := by
  have h1 := read_idx h hi .i64
  rw [acC_sz] at h1
  have hl := read_lt h (Keep.refl s) hi
  refine ⟨h1, ?_⟩
  cases v with
  | nils => simp [AM.read] at h; subst h; simp at hi
  | sl id off n cap z =>
    obtain ⟨rfl, rfl, cs, own, hg, _, _, h5⟩ := read_sl h
    show lod s 3 (.ptr id (off + i * 3)) = _ ∧ lod1 s (.ptr id (off + i * 3)) = _ ∧ lod1 s (.ptr id (off + i * 3 + 1)) = _ ∧ lod1 s (.ptr id (off + i * 3 + 2)) = _ ∧ _
    have one : ∀ k v, k < 3 → (acC.enc x)[k]? = some v → cs[off + i * 3 + k]? = some v := fun k v hk hv => by
      obtain ⟨_, k2⟩ := h5 i x hi k 1 (by rw [acC_sz]; omega)
      rw [acC_sz] at k2
      have e := congrArg (fun l => l[0]?) k2
      simpa [List.getElem?_take, List.getElem?_drop, hv] using e
    refine ⟨?_, ?_, ?_, ?_, hl⟩
    · obtain ⟨k1, k2⟩ := h5 i x hi 0 3 (by rw [acC_sz]; omega)
      rw [acC_sz, Nat.add_zero] at k1 k2
      simp only [lod, hg]
      rw [if_pos (by omega), k2]
      rfl
    · simp only [lod1, hg]; exact one 0 _ (by omega) rfl
    · simp only [lod1, hg]; exact one 1 _ (by omega) rfl
    · simp only [lod1, hg]; exact one 2 _ (by omega) rfl
  | _ => simp [AM.read] at h
def okA (y : AcT) : Bool := !(decide (100 < (y.2.2.size : Int)) || decide (4611686018427387904 < y.2.1) || decide (y.2.1 < -4611686018427387904))
def ltA (l : List AcT) : Bool := (l.take 61).all okA && decide ((l.length : Int) ≤ 60)
theorem ltA_true {l : List AcT} (h : ltA l = true) : l.length ≤ 60 ∧ ∀ y ∈ l, -4611686018427387904 ≤ y.2.1 ∧ y.2.1 ≤ 4611686018427387904 ∧ y.2.2.size ≤ 100 := by
  unfold ltA at h
  rw [Bool.and_eq_true, decide_eq_true_eq] at h
  obtain ⟨h1, h2⟩ := h
  rw [List.take_of_length_le (by omega)] at h1
  refine ⟨by omega, fun y hy => ?_⟩
  have := List.all_eq_true.1 h1 y hy
  unfold okA at this
  rw [Bool.not_eq_true', Bool.or_eq_false_iff, Bool.or_eq_false_iff, decide_eq_false_iff_not, decide_eq_false_iff_not, decide_eq_false_iff_not] at this
  omega
noncomputable def R_light : Con := runFn (tb []) a8
theorem s_light : SoundAt Try.prog 8 R_light := run_sound (tb_sound (l := []) (by simp)) mixed Try.func8 k8 c8
theorem n_light : noNxtC a8.body = true := by kernel_rfl
theorem w_light {s : St} {v : AV} {l : List AcT} (hr : AM.read acC s v = some l) : ∀ env : Env, elen env = a8.ntmps → (∀ i x_, [v][i]? = some x_ → E env i = x_) → awp (tb []) a8.body (fun x e t => (∀ i, x ≠ .exit i) ∧ aresults e t a8.results = some (.bool (ltA l)) ∧ Keep s t) env s := by
  intro env hlen ha
  have h0 : E env 0 = _ := ha 0 _ rfl
  have hlen : elen env = _ := hlen
  simp only [a8] at hlen
  unfold a8
  try dsimp only [oO, oG]
  have hL := lenV_read hr
  simp (config := {contextual := true, maxDischargeDepth := 12, maxSteps := 4000000}) only [tb_at, h0, hlen, notV_bool, Bool.not_true, Bool.not_false, pickV_t, pickV_f, bin_eql, bin_neq, bin_neb, bin_npn, bin_np, bin_npnx, gcall_tt, gpure_tf, beq_self_eq_true, Bool.true_and, Bool.and_true, decide_true, decide_false, ↓bD, bU, forall_const, bS, implies_true, isNx, eq_self, ↓wp_cond, ↓wp_loop, ↓reduceIte, reduceCtorEq, Nat.reduceEqDiff, Nat.reduceLT, Nat.reduceAdd, Nat.reduceMul, bT, ↓sg_bsl, ↓st_callf, bX, ap_mkfn, ap_conv, ↓wi_seq, ↓wi_base, ↓wi_block, ↓wi_cond, ↓wi_loop, ↓wi_rf, ↓wy_seq, ↓wy_base, ↓wy_block, ↓wy_cond, ↓wy_loop, ↓wy_yld, ae_callvV, callvV_fn, List.append_nil, List.cons_append, List.nil_append, bin_nff, bin_nfn, bin_nffx, bin_nfnx, bin_streq, bin_bo_same, lstep_some, ↓st_load1nf, ↓st_loadnf, ↓st_appr, ↓st_appf0, bin_nfls, ap_lens, lensV_str]
  obtain ⟨I, hI⟩ : ∃ I : Nat → Env → St → Prop, ∀ n e t, I n e t = (t = s ∧ ∃ i : Nat, n + i = 61 ∧ elen e = 40 ∧ E e 0 = v ∧ E e 3 = .int .i64 (i : Int) ∧ i ≤ l.length ∧ (l.take i).all okA = true) := ⟨fun n e t => (t = s ∧ ∃ i : Nat, n + i = 61 ∧ elen e = 40 ∧ E e 0 = v ∧ E e 3 = .int .i64 (i : Int) ∧ i ≤ l.length ∧ (l.take i).all okA = true), fun _ _ _ => rfl⟩
  refine lwp_inv I (n := 61) ?_ ?_
  · rw [hI]
    exact ⟨rfl, 0, by omega, (by simp only [bE, Nat.reduceEqDiff, bN, Nat.reduceLT, hlen]; try rfl), (by simp only [bE, Nat.reduceEqDiff, bN, Nat.reduceLT, hlen, h0]; try rfl), (by simp only [bE, Nat.reduceEqDiff, bN, Nat.reduceLT, hlen]; try rfl), Nat.zero_le _, rfl⟩
  clear h0 ha
  intro n e t hi
  rw [hI] at hi
  obtain ⟨hK, i, hni, he, e0, e3, hil, hpre⟩ := hi
  subst hK
  by_cases hlt : i < l.length ∧ i < 61
  rotate_left
  · have hall : (l.take 61).all okA = true := by
      rcases (by omega : i = 61 ∨ i = l.length) with rfl | rfl
      · exact hpre
      · rw [List.take_length] at hpre
        exact List.all_eq_true.2 fun y hy => List.all_eq_true.1 hpre y (List.mem_of_mem_take hy)
    have hlt2 : ltA l = decide ((l.length : Int) ≤ 60) := by unfold ltA; rw [hall, Bool.true_and]
    rw [hlt2]
    by_cases c1 : i < l.length
    · have y1 := eq_true (show (i : Int) < (l.length : Int) by omega)
      have y2 := eq_false (show ¬ (i : Int) < 61 by omega)
      simp (config := {contextual := true, maxDischargeDepth := 12, maxSteps := 4000000}) only [tb_at, he, e0, e3, hL, y1, y2, notV_bool, Bool.not_true, Bool.not_false, pickV_t, pickV_f, bin_eql, bin_neq, bin_neb, bin_npn, bin_np, bin_npnx, gcall_tt, gpure_tf, beq_self_eq_true, Bool.true_and, Bool.and_true, decide_true, decide_false, ↓bD, bU, forall_const, bS, implies_true, isNx, eq_self, ↓wp_cond, ↓wp_loop, ↓reduceIte, reduceCtorEq, Nat.reduceEqDiff, Nat.reduceLT, Nat.reduceAdd, Nat.reduceMul, bT, ↓sg_bsl, ↓st_callf, bX, ap_mkfn, ap_conv, ↓wi_seq, ↓wi_base, ↓wi_block, ↓wi_cond, ↓wi_loop, ↓wi_rf, ↓wy_seq, ↓wy_base, ↓wy_block, ↓wy_cond, ↓wy_loop, ↓wy_yld, ae_callvV, callvV_fn, List.append_nil, List.cons_append, List.nil_append, bin_nff, bin_nfn, bin_nffx, bin_nfnx, bin_streq, bin_bo_same, lstep_some, ↓st_load1nf, ↓st_loadnf, ↓st_appr, ↓st_appf0, bin_nfls, ap_lens, lensV_str]
      all_goals first | exact .refl _ | skip
    · have y1 := eq_false (show ¬ (i : Int) < (l.length : Int) by omega)
      simp (config := {contextual := true, maxDischargeDepth := 12, maxSteps := 4000000}) only [tb_at, he, e0, e3, hL, y1, notV_bool, Bool.not_true, Bool.not_false, pickV_t, pickV_f, bin_eql, bin_neq, bin_neb, bin_npn, bin_np, bin_npnx, gcall_tt, gpure_tf, beq_self_eq_true, Bool.true_and, Bool.and_true, decide_true, decide_false, ↓bD, bU, forall_const, bS, implies_true, isNx, eq_self, ↓wp_cond, ↓wp_loop, ↓reduceIte, reduceCtorEq, Nat.reduceEqDiff, Nat.reduceLT, Nat.reduceAdd, Nat.reduceMul, bT, ↓sg_bsl, ↓st_callf, bX, ap_mkfn, ap_conv, ↓wi_seq, ↓wi_base, ↓wi_block, ↓wi_cond, ↓wi_loop, ↓wi_rf, ↓wy_seq, ↓wy_base, ↓wy_block, ↓wy_cond, ↓wy_loop, ↓wy_yld, ae_callvV, callvV_fn, List.append_nil, List.cons_append, List.nil_append, bin_nff, bin_nfn, bin_nffx, bin_nfnx, bin_streq, bin_bo_same, lstep_some, ↓st_load1nf, ↓st_loadnf, ↓st_appr, ↓st_appf0, bin_nfls, ap_lens, lensV_str]
      all_goals first | exact .refl _ | skip
  have y1 := eq_true (show (i : Int) < (l.length : Int) by omega)
  have y2 := eq_true (show (i : Int) < 61 by omega)
  have hw2 := wrap_add1 (n := i) (by omega)
  obtain ⟨y, hy⟩ := getsome hlt.1
  obtain ⟨i1, _, _, a1, a2, a3⟩ := ac_lods hr hy
  by_cases hok : okA y = true
  · have hok' := hok
    unfold okA at hok'
    rw [Bool.not_eq_true', Bool.or_eq_false_iff, Bool.or_eq_false_iff, decide_eq_false_iff_not, decide_eq_false_iff_not, decide_eq_false_iff_not] at hok'
    have z1 := eq_false hok'.1.1
    have z2 := eq_false hok'.1.2
    have z3 := eq_false hok'.2
    simp (config := {contextual := true, maxDischargeDepth := 12, maxSteps := 4000000}) only [tb_at, he, e0, e3, hL, y1, y2, hw2, i1, a1, a2, a3, z1, z2, z3, notV_bool, Bool.not_true, Bool.not_false, pickV_t, pickV_f, bin_eql, bin_neq, bin_neb, bin_npn, bin_np, bin_npnx, gcall_tt, gpure_tf, beq_self_eq_true, Bool.true_and, Bool.and_true, decide_true, decide_false, ↓bD, bU, forall_const, bS, implies_true, isNx, eq_self, ↓wp_cond, ↓wp_loop, ↓reduceIte, reduceCtorEq, Nat.reduceEqDiff, Nat.reduceLT, Nat.reduceAdd, Nat.reduceMul, bT, ↓sg_bsl, ↓st_callf, bX, ap_mkfn, ap_conv, ↓wi_seq, ↓wi_base, ↓wi_block, ↓wi_cond, ↓wi_loop, ↓wi_rf, ↓wy_seq, ↓wy_base, ↓wy_block, ↓wy_cond, ↓wy_loop, ↓wy_yld, ae_callvV, callvV_fn, List.append_nil, List.cons_append, List.nil_append, bin_nff, bin_nfn, bin_nffx, bin_nfnx, bin_streq, bin_bo_same, lstep_some, ↓st_load1nf, ↓st_loadnf, ↓st_appr, ↓st_appf0, bin_nfls, ap_lens, lensV_str]
    refine ⟨n - 1, by omega, ?_⟩
    rw [hI]
    exact ⟨rfl, i + 1, by omega, (by simp only [bE, Nat.reduceEqDiff, bN, Nat.reduceLT, he, e0, e3]; try rfl), (by simp only [bE, Nat.reduceEqDiff, bN, Nat.reduceLT, he, e0, e3]; try rfl), (by simp only [bE, Nat.reduceEqDiff, bN, Nat.reduceLT, he, e0, e3]; try rfl), by omega, by rw [take_snoc hy, List.all_append, hpre]; simp [hok]⟩
  · have hno : ltA l = false := by
      unfold ltA
      rw [Bool.and_eq_false_iff]
      refine .inl ?_
      rw [List.all_eq_false]
      exact ⟨y, List.mem_of_getElem? (l := l.take 61) (i := i) (by rw [List.getElem?_take_of_lt hlt.2]; exact hy), hok⟩
    rw [hno]
    have hok' : okA y = false := by simpa using hok
    unfold okA at hok'
    by_cases c1 : 100 < (y.2.2.size : Int)
    · have z1 := eq_true c1
      simp (config := {contextual := true, maxDischargeDepth := 12, maxSteps := 4000000}) only [tb_at, he, e0, e3, hL, y1, y2, i1, a1, a2, a3, z1, notV_bool, Bool.not_true, Bool.not_false, pickV_t, pickV_f, bin_eql, bin_neq, bin_neb, bin_npn, bin_np, bin_npnx, gcall_tt, gpure_tf, beq_self_eq_true, Bool.true_and, Bool.and_true, decide_true, decide_false, ↓bD, bU, forall_const, bS, implies_true, isNx, eq_self, ↓wp_cond, ↓wp_loop, ↓reduceIte, reduceCtorEq, Nat.reduceEqDiff, Nat.reduceLT, Nat.reduceAdd, Nat.reduceMul, bT, ↓sg_bsl, ↓st_callf, bX, ap_mkfn, ap_conv, ↓wi_seq, ↓wi_base, ↓wi_block, ↓wi_cond, ↓wi_loop, ↓wi_rf, ↓wy_seq, ↓wy_base, ↓wy_block, ↓wy_cond, ↓wy_loop, ↓wy_yld, ae_callvV, callvV_fn, List.append_nil, List.cons_append, List.nil_append, bin_nff, bin_nfn, bin_nffx, bin_nfnx, bin_streq, bin_bo_same, lstep_some, ↓st_load1nf, ↓st_loadnf, ↓st_appr, ↓st_appf0, bin_nfls, ap_lens, lensV_str]
      all_goals first | exact .refl _ | skip
    have z1 := eq_false c1
    by_cases c2 : 4611686018427387904 < y.2.1
    · have z2 := eq_true c2
      simp (config := {contextual := true, maxDischargeDepth := 12, maxSteps := 4000000}) only [tb_at, he, e0, e3, hL, y1, y2, i1, a1, a2, a3, z1, z2, notV_bool, Bool.not_true, Bool.not_false, pickV_t, pickV_f, bin_eql, bin_neq, bin_neb, bin_npn, bin_np, bin_npnx, gcall_tt, gpure_tf, beq_self_eq_true, Bool.true_and, Bool.and_true, decide_true, decide_false, ↓bD, bU, forall_const, bS, implies_true, isNx, eq_self, ↓wp_cond, ↓wp_loop, ↓reduceIte, reduceCtorEq, Nat.reduceEqDiff, Nat.reduceLT, Nat.reduceAdd, Nat.reduceMul, bT, ↓sg_bsl, ↓st_callf, bX, ap_mkfn, ap_conv, ↓wi_seq, ↓wi_base, ↓wi_block, ↓wi_cond, ↓wi_loop, ↓wi_rf, ↓wy_seq, ↓wy_base, ↓wy_block, ↓wy_cond, ↓wy_loop, ↓wy_yld, ae_callvV, callvV_fn, List.append_nil, List.cons_append, List.nil_append, bin_nff, bin_nfn, bin_nffx, bin_nfnx, bin_streq, bin_bo_same, lstep_some, ↓st_load1nf, ↓st_loadnf, ↓st_appr, ↓st_appf0, bin_nfls, ap_lens, lensV_str]
      all_goals first | exact .refl _ | skip
    have z2 := eq_false c2
    have c3 : y.2.1 < -4611686018427387904 := by
      simpa [c1, c2] using hok'
    have z3 := eq_true c3
    simp (config := {contextual := true, maxDischargeDepth := 12, maxSteps := 4000000}) only [tb_at, he, e0, e3, hL, y1, y2, i1, a1, a2, a3, z1, z2, z3, notV_bool, Bool.not_true, Bool.not_false, pickV_t, pickV_f, bin_eql, bin_neq, bin_neb, bin_npn, bin_np, bin_npnx, gcall_tt, gpure_tf, beq_self_eq_true, Bool.true_and, Bool.and_true, decide_true, decide_false, ↓bD, bU, forall_const, bS, implies_true, isNx, eq_self, ↓wp_cond, ↓wp_loop, ↓reduceIte, reduceCtorEq, Nat.reduceEqDiff, Nat.reduceLT, Nat.reduceAdd, Nat.reduceMul, bT, ↓sg_bsl, ↓st_callf, bX, ap_mkfn, ap_conv, ↓wi_seq, ↓wi_base, ↓wi_block, ↓wi_cond, ↓wi_loop, ↓wi_rf, ↓wy_seq, ↓wy_base, ↓wy_block, ↓wy_cond, ↓wy_loop, ↓wy_yld, ae_callvV, callvV_fn, List.append_nil, List.cons_append, List.nil_append, bin_nff, bin_nfn, bin_nffx, bin_nfnx, bin_streq, bin_bo_same, lstep_some, ↓st_load1nf, ↓st_loadnf, ↓st_appr, ↓st_appf0, bin_nfls, ap_lens, lensV_str]
    all_goals first | exact .refl _ | skip
theorem q_light (cl : Bool) {s : St} {v : AV} {l : List AcT} (hr : AM.read acC s v = some l) : acall R_light cl [v] s = some (.bool (ltA l), s) := run_same n_light (by simp [a8]) rfl (w_light (s := lowd s) (read_low' hr))

/-! ### Plain laws -/
variable {d : Bool} {L : List PrS}
theorem srt_rk (h : SrtD d L) {k : Int} {j : Nat} {y : PrS} (hy : L[j]? = some y) (hj : rkD d L k ≤ j) : ¬ sg d y.1 < sg d k := by
  have hjl := getlt hy
  obtain ⟨z, hz⟩ := getsome (show rkD d L k < L.length by omega)
  have h1 := rk_at hz
  by_cases e : j = rkD d L k
  · subst e
    rw [hz] at hy; injection hy with hy; rw [← hy]; exact h1
  · have := h.lt hz hy (by omega)
    omega
theorem drop_hit (h : SrtD d L) {k : Int} {v : ByteArray} (hg : gtD d L k = some v) : dropK k L = L.take (rkD d L k) ++ L.drop (rkD d L k + 1) := by
  have hx := gt_some hg
  have hi := getlt hx
  unfold dropK
  conv => lhs; rw [← List.take_append_drop (rkD d L k) L]
  rw [List.filter_append, List.drop_eq_getElem_cons hi, List.filter_cons]
  have e : L[rkD d L k] = (k, v) := (List.getElem?_eq_some_iff.1 hx).2
  rw [e]
  simp only [ne_eq, not_true_eq_false, decide_false, Bool.false_eq_true, if_false]
  congr 1
  · rw [List.filter_eq_self]
    intro y hy
    obtain ⟨j, hj⟩ := List.mem_iff_getElem?.1 hy
    have hj1 := getlt hj
    rw [List.length_take] at hj1
    rw [List.getElem?_take_of_lt (by omega)] at hj
    have := rk_lt (d := d) (k := k) (show j < rkD d L k by omega) hj
    have hne : y.1 ≠ k := fun q => by rw [q] at this; omega
    simp [hne]
  · rw [List.filter_eq_self]
    intro y hy
    obtain ⟨j, hj⟩ := List.mem_iff_getElem?.1 hy
    rw [List.getElem?_drop] at hj
    have := h.lt hx hj (by omega)
    have hne : y.1 ≠ k := fun q => by rw [q] at this; simp at this
    simp [hne]
theorem drop_miss (h : SrtD d L) {k : Int} (hg : gtD d L k = none) : dropK k L = L := by
  unfold dropK
  rw [List.filter_eq_self]
  intro y hy
  obtain ⟨j, hj⟩ := List.mem_iff_getElem?.1 hy
  have hne : y.1 ≠ k := fun q => by
    have h1 : ¬ j < rkD d L k := fun hlt => by
      have := rk_lt (d := d) (k := k) hlt hj
      rw [q] at this
      omega
    have h2 : ¬ rkD d L k < j := fun hlt => by
      obtain ⟨z, hz⟩ := getsome (show rkD d L k < L.length by have := getlt hj; omega)
      have h3 := h.lt hz hj hlt
      have h4 := rk_at hz
      rw [q] at h3
      omega
    have e : j = rkD d L k := by omega
    subst e
    unfold gtD at hg
    rw [hj] at hg
    simp [q] at hg
  simp [hne]
theorem dropK_del (h : SrtD d L) (k : Int) : dropK k L = delD d L k := by
  unfold delD
  rcases gtD_split d L k with ⟨hg, hg1⟩ | ⟨v, hg, hg1⟩
  · rw [hg1, drop_miss h hg]; rfl
  · rw [hg1, drop_hit h hg]; rfl
theorem putR_put (h : SrtD d L) (k : Int) (v : ByteArray) : putR d L k v = putD d L k v := by
  unfold putR putD
  rcases gtD_split d L k with ⟨hg, hg1⟩ | ⟨v0, hg, hg1⟩
  · rw [hg1, drop_miss h hg]; rfl
  · have hx := gt_some hg
    have hi := getlt hx
    have hlt : (L.take (rkD d L k)).length = rkD d L k := by rw [List.length_take]; omega
    have hrk : rkD d (dropK k L) k = rkD d L k := by
      rw [drop_hit h hg]
      refine rk_eq (by rw [List.length_append]; omega) (fun j y hj hy => ?_) (fun y hy => ?_)
      · rw [List.getElem?_append_left (by omega), List.getElem?_take_of_lt hj] at hy
        exact rk_lt hj hy
      · rw [List.getElem?_append_right (by omega), hlt, Nat.sub_self, List.getElem?_drop] at hy
        have := h.lt hx hy (by omega)
        simp at this
        omega
    rw [hg1, hrk, drop_hit h hg, List.take_append_of_le_length (by omega), List.drop_append_of_le_length (by omega), List.take_of_length_le (by omega), List.drop_eq_nil_of_le (by omega)]
    rfl
theorem srt_app {A B : List PrS} {x : PrS} (hA : SrtD d A) (hB : SrtD d B) (h1 : ∀ a ∈ A, sg d a.1 < sg d x.1) (h2 : ∀ b ∈ B, sg d x.1 < sg d b.1) : SrtD d (A ++ x :: B) := by
  unfold SrtD
  rw [List.pairwise_append, List.pairwise_cons]
  refine ⟨hA, ⟨h2, hB⟩, fun a ha b hb => ?_⟩
  rcases List.mem_cons.1 hb with rfl | hb
  · exact h1 a ha
  · have := h1 a ha
    have := h2 b hb
    omega
theorem SrtD.drop (h : SrtD d L) (i : Nat) : SrtD d (L.drop i) := List.Pairwise.sublist (List.drop_sublist i L) h
theorem put_srt (h : SrtD d L) (k : Int) (v : ByteArray) : SrtD d (putD d L k v) := by
  unfold putD
  refine srt_app (h.take _) (h.drop _) (fun a ha => ?_) (fun b hb => ?_)
  · obtain ⟨j, hj⟩ := List.mem_iff_getElem?.1 ha
    have hj1 := getlt hj
    rw [List.length_take] at hj1
    rw [List.getElem?_take_of_lt (by omega)] at hj
    exact rk_lt (show j < rkD d L k by omega) hj
  · obtain ⟨j, hj⟩ := List.mem_iff_getElem?.1 hb
    rw [List.getElem?_drop] at hj
    show sg d k < sg d b.1
    rcases gtD_split d L k with ⟨hg, hg1⟩ | ⟨v0, hg, hg1⟩
    · rw [hg1] at hj
      simp only [Bool.false_eq_true, if_false] at hj
      have h1 := srt_rk (k := k) h hj (by omega)
      have hne : b.1 ≠ k := fun q => by
        have hb' : b ∈ dropK k L := by rw [drop_miss h hg]; exact List.mem_of_getElem? hj
        unfold dropK at hb'
        rw [List.mem_filter] at hb'
        simp [q] at hb'
      have := mt (sg_inj d b.1 k).1 hne
      omega
    · rw [hg1] at hj
      simp only [if_true] at hj
      have := h.lt (gt_some hg) hj (by omega)
      exact this
theorem del_srt (h : SrtD d L) (k : Int) : SrtD d (delD d L k) := by
  rw [← dropK_del h]
  exact List.Pairwise.sublist List.filter_sublist h

end Go.AM
end
/-
  Ordered maps: a map looks like the reference. Own work of this project; in part printed by a program of it.
-/
section
set_option maxRecDepth 100000
set_option maxHeartbeats 8000000
namespace Go.AM
open Go Go.Proofs

variable {s t u : St}

theorem sg_callf3 {call : Nat → List AV → St → Option (AV × St)} {base : Nat} {d : Option Nat} {r : Option Nat} {rest : List AOper} {Q : Env → St → Prop} {env : Env} {s : St} (f : Nat) (l : List AO) (t : Nat) (w : Bool) : awops call base (⟨d, .call f false l, some (t, w), r, true⟩ :: rest) Q env s = gcall s (E env t) w (acallF (call f) (l.map (aev env)) s) fun v t => awops call base rest Q (pE env d v) t := by
  rw [st_guard, st_callf]
  rfl
theorem gpure_ff0 (x : AV) (K : AV → Prop) : gpure (.bool false) false (some x) K = K x := nrfl rfl
theorem acallF_it {c : Con} {args : List AV} {l : List PrS} (h : ∃ w t, acall c false args (lowd s) = some (w, t) ∧ ItR (lowd s) t w l ∧ Keep (lowd s) t) : ∃ w t, acallF c args s = some (w, t) ∧ ItR s t w l ∧ Keep s t := by
  obtain ⟨w, t, h1, h2, h3⟩ := h
  obtain ⟨t', g1, g2, g3, g4⟩ := acallF_keep h1 h3
  exact ⟨w, t', g1, (show ItR s t w l from h2).mono fun id b hb => by rw [g2]; exact hb, g4⟩
theorem acallF_own {c : Con} {args : List AV} {l : List PrS} (h : ∃ w t, acall c false args (lowd s) = some (w, t) ∧ Own prC (lowd s) t w l ∧ Keep (lowd s) t) : ∃ w t, acallF c args s = some (w, t) ∧ Own prC s t w l ∧ Keep s t := by
  obtain ⟨w, t, h1, h2, h3⟩ := h
  obtain ⟨t', g1, g2, g3, g4⟩ := acallF_keep h1 h3
  exact ⟨w, t', g1, (show Own prC s t w l from h2).mono fun id b hb => by rw [g2]; exact hb, g4⟩
theorem q_pairsF {s0 : St} {f : AV} {l : List PrS} (h : ItR s0 s f l) (hl : l.length ≤ 10000) {m : Int} : ∃ v t, acallF (conF prC pPairs) [f, .int .i64 m] s = some (v, t) ∧ Own prC s t v (if m < 1 then [] else l.take m.toNat) ∧ Keep s t :=
  acallF_own (q_pairs (h.keep (keep_low s)) hl)
theorem it_read {f : AV} {l : List PrS} (hl : l.length ≤ 60) : (if (100 : Int) < 1 then [] else l.take (Int.toNat 100)) = l := by
  rw [if_neg (by decide)]
  exact List.take_of_length_le (by show l.length ≤ 100; omega)
end Go.AM
end
/-
  The chapter's examples: 'known' answers true. Own work of this project; in part printed by a program of it.
-/
section
set_option maxRecDepth 100000
set_option maxHeartbeats 8000000
namespace Go.AM
open Go Go.Proofs

variable {s t u : St}

def tabK : Nat → AFun
  | 9 => .code a9
  | 10 => .code a10
  | 30 => .code a30
  | 28 => .code a28
  | 27 => .code a27
  | 34 => .code a34
  | 35 => .code a35
  | 50 => .code a50
  | 38 => .code a38
  | 15 => .code a15
  | 36 => .code a36
  | 11 => .code a11
  | 51 => .code a51
  | 17 => .code a17
  | 25 => .code a25
  | 49 => .code a49
  | 26 => .code a26
  | 55 => .code a55
  | 56 => .code a56
  | 13 => .code a13
  | 14 => .code a14
  | 40 => .code a40
  | 39 => .code a39
  | 58 => .code a58
  | 43 => .code a43
  | 62 => .code a62
  | 57 => .code a57
  | 16 => .con (conF prC pPairs)
  | 41 => .con (conIns)
  | 44 => .con (conDel)
  | _ => .no
theorem tabK_ok : ∀ f, FunOk Try.prog f (tabK f) := by
  intro f
  unfold tabK
  split
  · exact ⟨k9, _, Try.func9, c9⟩
  · exact ⟨k10, _, Try.func10, c10⟩
  · exact ⟨k30, _, Try.func30, c30⟩
  · exact ⟨k28, _, Try.func28, c28⟩
  · exact ⟨k27, _, Try.func27, c27⟩
  · exact ⟨k34, _, Try.func34, c34⟩
  · exact ⟨k35, _, Try.func35, c35⟩
  · exact ⟨k50, _, Try.func50, c50⟩
  · exact ⟨k38, _, Try.func38, c38⟩
  · exact ⟨k15, _, Try.func15, c15⟩
  · exact ⟨k36, _, Try.func36, c36⟩
  · exact ⟨k11, _, Try.func11, c11⟩
  · exact ⟨k51, _, Try.func51, c51⟩
  · exact ⟨k17, _, Try.func17, c17⟩
  · exact ⟨k25, _, Try.func25, c25⟩
  · exact ⟨k49, _, Try.func49, c49⟩
  · exact ⟨k26, _, Try.func26, c26⟩
  · exact ⟨k55, _, Try.func55, c55⟩
  · exact ⟨k56, _, Try.func56, c56⟩
  · exact ⟨k13, _, Try.func13, c13⟩
  · exact ⟨k14, _, Try.func14, c14⟩
  · exact ⟨k40, _, Try.func40, c40⟩
  · exact ⟨k39, _, Try.func39, c39⟩
  · exact ⟨k58, _, Try.func58, c58⟩
  · exact ⟨k43, _, Try.func43, c43⟩
  · exact ⟨k62, _, Try.func62, c62⟩
  · exact ⟨k57, _, Try.func57, c57⟩
  · exact s_pairs
  · exact s_cInsI
  · exact s_cDelI
  · trivial
theorem known_run : isTrue (acalls tabK 1000 16 9 [] St.empty) = true := by kernel_rfl
theorem s_known : SoundAt Try.prog 9 (closed [] (.bool true)) := by
  obtain ⟨s, hs⟩ := isTrue_ex known_run
  exact closed_sound (acalls_sound mixed tabK_ok 16 _) hs rfl
theorem q_known (cl : Bool) {s : St} : acall (closed [] (.bool true)) cl [] s = some (.bool true, s) := by simp [acall, closed, AV.ground, AV.plain, AV.plains]

end Go.AM
end
/-
  The row's last part: a call that leaves what was there alone, and answers true. Own work of this project.
-/
section
namespace Go.AM
open Go Go.ChangeShapes Go.WideShapes Go.ChangeAt Go.RowKit

variable {H : Type} {enc : TypeId × Value → H} {P : Program}

theorem Clean.below {W W' : World} (h : Clean W W') : Below W.heap.size W W' := ⟨h.os, h.tape, h.output, h.size, h.block⟩
theorem Clean.frozen {W W' : World} (h : Clean W W') {a : Addr} (ha : a.block < W.heap.size) : W'.frozen? a = W.frozen? a := h.below.frozen ha

theorem trodAll_clean (hl : laidOutB P = true) {W W' : World} (hc : Clean W W') (sp : Nat → Bool) : ∀ {ts : List TypeId} {vs : List Value} {ds : List (DataW H)} {ps : List MemPlace}, (∀ t ∈ ts, P.readableRec t = true ∧ t < P.types.size) →
    DataW.TrodAll enc P W 0 (fun _ => true) true ts vs ds ps → (∀ p ∈ ps, sp p.block = true) → DataW.TrodAll enc P W' 0 sp true ts vs ds ps
  | [], vs, ds, ps, _, h, _ => by
    obtain ⟨rfl, rfl, rfl⟩ := trodAll_nil h
    rfl
  | t :: ts, vs, ds, ps, hr, h, hs => by
    obtain ⟨v, vs1, d, ds1, a, b, rfl, rfl, rfl, h1, h2⟩ := trodAll_cons h
    have hlt := DataW.TrodAll.lt h
    refine ⟨a, b, ?_, trodAll_clean hl hc sp (fun t ht => hr t (by simp [ht])) h2 fun p hp => hs p (by simp [hp]), rfl⟩
    exact WideElems.Trod_stays hl (hr t (by simp)).1 (hr t (by simp)).2 h1 (fun x hx => hc.below.same (hlt x (by simp [hx]))) fun x hx => hs x (by simp [hx])

theorem post_of_clean {f : Func} {s : ChangeSpec} {apart fresh handsOn again : Bool} {W W' : World} {args : Array Value} {ds gs : List (DataW H)} {before : List MemPlace} {tb : TypeId} (hl : laidOutB P = true)
    (hread : ∀ t ∈ f.params.toList, P.readableRec t = true ∧ t < P.types.size) (hW : DataW.Whole enc P f.params.toList s.vars apart W args.toList ds gs before) (hv : s.vars = [])
    (hres : (s.fn H (ds ++ gs)).results = [.lit (.bool true)]) (hargs : (s.fn H (ds ++ gs)).args = ds) (hvars : (s.fn H (ds ++ gs)).vars = []) (hrt : f.resultTypes = #[tb]) (hb : P.underlying tb = some .bool) (hc : Clean W W') :
    s.post enc P f apart fresh handsOn again W args (.bool true) W' := by
  have hlt : ∀ p ∈ before, p.block < W.heap.size := hW.lt
  have hW0 := hW
  obtain ⟨pa, pv, hA, hV, rfl, hz, hn⟩ := hW
  have hpv : pv = [] := by
    rw [hv] at hV
    cases gs with
    | nil => exact hV
    | cons g gs => exact hV.elim
  subst hpv
  simp only [List.append_nil] at hW0 hlt hz hn
  have hR : ∀ (b : Nat) (sp : Nat → Bool) (hd : Bool), DataW.TrodAll enc P W' b sp hd [tb] [.bool true] [.lit (.bool true)] [] := fun b sp hd => trodAll_mk1 (shut_bool hb true)
  have hrl : (Value.bool true).resultList f.resultTypes.size = [.bool true] := by simp [hrt, Value.resultList]
  refine ⟨ds, gs, pa, [], pa, [], hW0, ?_, ?_, ?_, ?_, fun _ => ⟨fun j t r h1 h2 => ?_, ?_⟩⟩
  · rw [hrl, hres, hrt]
    exact hR _ _ _
  · rw [hargs]
    exact trodAll_clean hl hc _ hread hA fun p hp => by simpa using hlt p hp
  · rw [hvars, hv]
    rfl
  · exact hc.below.frame _
  · rw [hrl] at h2
    rw [hrt] at h1
    cases j with
    | zero =>
      simp at h1 h2
      subst h1; subst h2
      simp [Value.okWide, hb, Cell.okWide, Cell.ok]
    | succ j => simp at h1
  · refine ⟨[.lit (.bool true)] ++ ds, [], pa, ⟨[] ++ pa, [], ?_, ?_, by simp, ?_, ?_⟩, fun p hp _ => hp⟩
    · rw [hrl, hrt]
      exact trodAll_append (trodAll_clean hl hc _ hread hA fun _ _ => rfl) (hR _ _ _)
    · rw [hv]
      rfl
    · intro b off hp
      rw [hc.frozen (hlt _ hp)]
      exact hz b off hp
    · intro ha
      simpa using hn ha

end Go.AM
end
/-
  From a row's reading of an argument to the abstract machine's memory. Own work of this project.
-/
section
namespace Go.AM
open Go Go.ChangeShapes Go.WideShapes Go.ChangeAt Go.RowKit Go.Deep

/-- The kinds of plain cells. -/
inductive CK where
  | b | i (k : IntKind) | s
def CK.ok : CK → AV → Prop
  | .b, v => ∃ x, v = .bool x
  | .i k, v => ∃ n, v = .int k n ∧ (Lit.int k n).wf = true
  | .s, v => ∃ x, v = .str x
def CKs : List CK → List AV → Prop
  | [], vs => vs = []
  | k :: ks, vs => ∃ v r, vs = v :: r ∧ k.ok v ∧ CKs ks r
theorem CKs.append : ∀ {ks ks' : List CK} {vs vs' : List AV}, CKs ks vs → CKs ks' vs' → CKs (ks ++ ks') (vs ++ vs')
  | [], ks', vs, vs', h, h' => by simp only [CKs] at h; subst h; exact h'
  | k :: ks, ks', vs, vs', h, h' => by
    simp only [CKs] at h
    obtain ⟨v, r, rfl, h1, h2⟩ := h
    exact ⟨v, r ++ vs', rfl, h1, CKs.append h2 h'⟩
theorem CKs.len : ∀ {ks : List CK} {vs : List AV}, CKs ks vs → vs.length = ks.length
  | [], vs, h => by simp only [CKs] at h; subst h; rfl
  | k :: ks, vs, h => by
    simp only [CKs] at h
    obtain ⟨v, r, rfl, h1, h2⟩ := h
    simp [CKs.len h2]
theorem CK.ok_one {k : CK} {v : AV} (h : k.ok v) : v.one = true := by
  cases k <;> simp only [CK.ok] at h
  · obtain ⟨x, rfl⟩ := h; rfl
  · obtain ⟨x, rfl, _⟩ := h; rfl
  · obtain ⟨x, rfl⟩ := h; rfl
theorem CKs.one : ∀ {ks : List CK} {vs : List AV}, CKs ks vs → vs.all AV.one = true
  | [], vs, h => by simp only [CKs] at h; subst h; rfl
  | k :: ks, vs, h => by
    simp only [CKs] at h
    obtain ⟨v, r, rfl, h1, h2⟩ := h
    simp [CK.ok_one h1, CKs.one h2]

variable (P : Program)
variable {P}
variable {H : Type} {enc : TypeId × Value → H} {w : World} {base : Nat} {spare : Nat → Bool} {held : Bool}
theorem cell_some {a : Addr} {v : Value} (h : w.cell? a = some v) : ∃ cells el fr, w.heap[a.block]? = some (.cells cells el fr) ∧ a.spot = none := by
  unfold World.cell? at h
  split at h
  · rename_i c el fr hh
    split at h
    · cases h
    · rename_i hs
      exact ⟨c, el, fr, hh, by simpa using hs⟩
  · cases h
theorem addr_block (a : Addr) (i : Nat) : (a.add i).block = a.block := by unfold Addr.add; split <;> rfl
theorem addr_spot (a : Addr) (i : Nat) (h : (a.add i).spot = none) (h0 : i = 0 ∨ True) : i = 0 → a.spot = none := by
  intro hi
  subst hi
  unfold Addr.add at h
  simpa using h

/-- Cells, each kind in its turn, again and again. -/
def Rows (ks : List CK) (rows : List (List AV)) : Prop := ∀ r ∈ rows, CKs ks r
end Go.AM
end
/-
  Arguments with slices in slices and in structs, opened into the abstract machine's memory. Own work of this project.
-/
section
set_option maxRecDepth 100000
namespace Go.AM
open Go Go.ChangeShapes Go.WideShapes Go.ChangeAt Go.RowKit Go.Deep

/-- Some block of cells is there. -/
def HasCellsD (W : World) : Prop := ∃ (b : Nat) (cs : Array Value) (e : TypeId) (fr : Nat × Nat), W.heap[b]? = some (Obj.cells cs e fr)
theorem dummyD {W : World} (h : HasCellsD W) : ∃ L : Loc, L.b < W.heap.size ∧ ∀ ρ, BlkOk ρ L W (.row [] false) := by
  obtain ⟨b, cs, e, fr, hb⟩ := h
  refine ⟨⟨b, 0, cs.size⟩, (Array.getElem?_eq_some_iff.1 hb).1, fun ρ => ?_⟩
  simp only [BlkOk]
  exact ⟨cs, e, fr, hb, rfl, by simp, fun i v h => by simp at h, by simp, rfl⟩

section
variable (P : Program)
/-- What the memory shows at cells of a type. -/
def RdF (ok : TypeId → List AV → Prop) : List Field → List AV → Prop
  | [], vs => vs = []
  | f :: r, vs => ∃ a b, vs = a ++ b ∧ ok f.type a ∧ RdF ok r b
def RdT (s : St) : Nat → TypeId → List AV → Prop
  | 0, _, _ => False
  | d + 1, t, vs => match P.underlying t with
    | some .bool => ∃ x, vs = [.bool x]
    | some (.int k) => ∃ n, vs = [.int k n] ∧ (Lit.int k n).wf = true
    | some .string => ∃ x, vs = [.str x]
    | some (.struct fs) => RdF (RdT s d) fs.toList vs
    | some (.slice e) => vs = [.nils] ∨ ∃ (id n cap : Nat) (rows : List (List AV)), vs = [.sl id 0 n (some cap) (P.cellsOf e)] ∧ n ≤ cap ∧ cap ≤ maxLen ∧ rows.length = cap ∧ s.get id = some (.row rows.flatten false) ∧ ∀ r ∈ rows, RdT s d e r ∧ r.length = P.cellsOf e
    | _ => False
def okF (ok : TypeId → Bool) : List Field → Nat → Nat → Bool
  | [], at_, sz => decide (sz = at_)
  | f :: r, at_, sz => decide (f.offset = at_) && ok f.type && okF ok r (at_ + P.cellsOf f.type) sz
def okT : Nat → TypeId → Bool
  | 0, _ => false
  | d + 1, t => match P.underlying t with
    | some .bool | some (.int _) | some .string => true
    | some (.struct fs) => okF P (okT d) fs.toList 0 (P.cellsOf t)
    | some (.slice e) => decide (P.cellsOf e ≠ 0) && okT d e
    | _ => false
end

variable {P : Program} {H : Type} {enc : TypeId × Value → H} {W : World} {base : Nat} {held : Bool}
/-- Cells, and the blocks that they reach, numbered from 'start' on. -/
structure Opn (W : World) (Q : St → List AV → Prop) (start : Nat) (cs : List Value) (vs : List AV) (bl : List (AB × Loc)) : Prop where
  lt : ∀ p ∈ bl, p.2.b < W.heap.size
  own : ∀ p ∈ bl, p.1.owned = false
  vr : ∀ ρ : Ren, (∀ i p, bl[i]? = some p → ρ (start + i) = some p.2) → VRs ρ vs cs ∧ ∀ p ∈ bl, BlkOk ρ p.2 W p.1
  rd : ∀ s : St, (∀ i p, bl[i]? = some p → s.get (start + i) = some p.1) → Q s vs
  one : vs.all AV.one = true
  len : vs.length = cs.length
theorem Opn.plain {Q : St → List AV → Prop} {start : Nat} {cs : List Value} {vs : List AV} (h : ∀ ρ, VRs ρ vs cs) (hq : ∀ s, Q s vs) (ho : vs.all AV.one = true) (hl : vs.length = cs.length) : Opn W Q start cs vs [] :=
  ⟨by simp, by simp, fun ρ _ => ⟨h ρ, by simp⟩, fun s _ => hq s, ho, hl⟩
theorem Opn.app {Q1 Q2 : St → List AV → Prop} {start : Nat} {c1 c2 : List Value} {v1 v2 : List AV} {b1 b2 : List (AB × Loc)} (h : Opn W Q1 start c1 v1 b1) (k : Opn W Q2 (start + b1.length) c2 v2 b2) :
    Opn W (fun s _ => Q1 s v1 ∧ Q2 s v2) start (c1 ++ c2) (v1 ++ v2) (b1 ++ b2) := by
  have e1 : ∀ {i : Nat} {p}, b1[i]? = some p → (b1 ++ b2)[i]? = some p := fun {i p} hp => by
    rw [List.getElem?_append_left (List.getElem?_eq_some_iff.1 hp).1]; exact hp
  have e2 : ∀ {i : Nat} {p}, b2[i]? = some p → (b1 ++ b2)[b1.length + i]? = some p := fun {i p} hp => by
    rw [List.getElem?_append_right (by omega), Nat.add_sub_cancel_left]; exact hp
  refine ⟨fun p hp => ?_, fun p hp => ?_, fun ρ hρ => ?_, fun s hs => ⟨h.rd s fun i p hp => hs i p (e1 hp), k.rd s fun i p hp => ?_⟩, by simp [h.one, k.one], by simp [h.len, k.len]⟩
  · rcases List.mem_append.1 hp with q | q
    · exact h.lt p q
    · exact k.lt p q
  · rcases List.mem_append.1 hp with q | q
    · exact h.own p q
    · exact k.own p q
  · obtain ⟨r1, r2⟩ := h.vr ρ fun i p hp => hρ i p (e1 hp)
    obtain ⟨r3, r4⟩ := k.vr ρ fun i p hp => by have := hρ _ p (e2 hp); rwa [← Nat.add_assoc] at this
    refine ⟨r1.append r3, fun p hp => ?_⟩
    rcases List.mem_append.1 hp with q | q
    · exact r2 p q
    · exact r4 p q
  · have := hs _ p (e2 hp)
    rwa [← Nat.add_assoc] at this
theorem Opn.imp {Q Q' : St → List AV → Prop} {start : Nat} {cs : List Value} {vs : List AV} {bl : List (AB × Loc)} (h : Opn W Q start cs vs bl) (k : ∀ s, Q s vs → Q' s vs) : Opn W Q' start cs vs bl :=
  ⟨h.lt, h.own, h.vr, fun s hs => k s (h.rd s hs), h.one, h.len⟩

/-- A slice's place, its elements as they are read one by one. -/
theorem slice_geo {t e : TypeId} {fuel : Nat} {cs : List Value} {x : DataW H × List MemPlace} (hu : P.underlying t = some (.slice e)) (h0 : P.cellsOf e ≠ 0)
    (h : DataW.trod enc P W base (fun _ => true) held fuel t cs = some x) : cs = [.slice none 0 0] ∨ (∃ a, cs = [.slice (some a) 0 0]) ∨
    ∃ (b off len cap : Nat) (cells : Array Value) (el : TypeId) (fr : Nat × Nat) (n : Nat), cs = [.slice (some ⟨b, off, none⟩) len cap] ∧ 0 < cap ∧ len ≤ cap ∧ cap ≤ maxLen ∧ W.heap[b]? = some (.cells cells el fr) ∧ off + cap * P.cellsOf e ≤ cells.size ∧
      ∀ i, i < cap → ∃ x, DataW.trod enc P W base (fun _ => true) held n e ((cells.toList.drop (off + i * P.cellsOf e)).take (P.cellsOf e)) = some x := by
  rcases open_slice hu h with ⟨rfl, _⟩ | ⟨a, len, cap, m, n, D, Pl, rfl, hb, hl, hm, hmm, _, hx⟩
  · exact .inl rfl
  right
  simp only [if_true] at hmm
  subst hmm
  by_cases hc : m = 0
  · left
    subst hc
    have : len = 0 := by omega
    subst this
    exact ⟨a, rfl⟩
  right
  obtain ⟨cs0, h1, _⟩ := hx 0 (by omega)
  obtain ⟨_, hl0, hat0⟩ := World.cells?_some h1
  have hc0 := hat0 0 (by omega)
  obtain ⟨b, off, spot⟩ := a
  have hsome : ∃ v, cs0[0]? = some v := ⟨cs0[0]'(by omega), by simp⟩
  obtain ⟨v0, hv0⟩ := hsome
  rw [hv0] at hc0
  obtain ⟨cells, el, fr, hh, hsp⟩ := cell_some hc0
  rw [addr_block, addr_block] at hh
  simp only at hh
  have hspot : spot = none := by
    have h2 := addr_spot _ 0 hsp (.inl rfl) rfl
    have h3 := addr_spot _ (0 * P.cellsOf e) h2 (.inr trivial) (by simp)
    exact h3
  subst hspot
  have hat : ∀ i, i < m → off + (i + 1) * P.cellsOf e ≤ cells.size ∧ ∃ x, DataW.trod enc P W base (fun _ => true) held n e ((cells.toList.drop (off + i * P.cellsOf e)).take (P.cellsOf e)) = some x := by
    intro i hi
    obtain ⟨cs', e1, e2⟩ := hx i hi
    obtain ⟨_, hl', hat'⟩ := World.cells?_some e1
    have hget : ∀ j, j < P.cellsOf e → cells[off + i * P.cellsOf e + j]? = cs'[j]? := by
      intro j hj
      have := hat' j hj
      rw [addr_add, addr_add, cell_at hh] at this
      exact this
    have hsz : off + (i + 1) * P.cellsOf e ≤ cells.size := by
      have hj : P.cellsOf e - 1 < P.cellsOf e := by omega
      have := hget _ hj
      rw [List.getElem?_eq_getElem (by omega)] at this
      have hlt := (Array.getElem?_eq_some_iff.1 this).1
      rw [Nat.succ_mul]
      omega
    refine ⟨hsz, (D i, Pl i), ?_⟩
    have : (cells.toList.drop (off + i * P.cellsOf e)).take (P.cellsOf e) = cs' := by
      apply List.ext_getElem?
      intro j
      by_cases hj : j < P.cellsOf e
      · rw [List.getElem?_take_of_lt hj, List.getElem?_drop]
        have := hget j (by omega)
        simpa using this
      · rw [List.getElem?_eq_none (by simp; omega), List.getElem?_eq_none (by omega)]
    rw [this]
    exact e2
  obtain ⟨q2, _⟩ := hat (m - 1) (by omega)
  rw [show m - 1 + 1 = m by omega] at q2
  exact ⟨b, off, len, m, cells, el, fr, n, rfl, by omega, hl, hm, hh, q2, fun i hi => (hat i hi).2⟩

def DeepOk (P : Program) (enc : TypeId × Value → H) (W : World) (base : Nat) (held : Bool) (d : Nat) (t : TypeId) : Prop :=
  ∀ (fuel : Nat) (cs : List Value) (x : DataW H × List MemPlace), DataW.trod enc P W base (fun _ => true) held fuel t cs = some x → ∀ start, ∃ vs bl, Opn W (fun s vs => RdT P s d t vs) start cs vs bl

theorem deep_fields {d : Nat} (IH : ∀ t, okT P d t = true → DeepOk P enc W base held d t) {n : Nat} {cs : List Value} {sz : Nat} (hcs : cs.length = sz) : ∀ (fs : List Field) (at_ : Nat), okF P (okT P d) fs at_ sz = true →
    (∀ f ∈ fs, ∃ x, DataW.trod enc P W base (fun _ => true) held n f.type ((cs.drop f.offset).take (P.cellsOf f.type)) = some x) → ∀ start, ∃ vs bl, Opn W (fun s vs => RdF (RdT P s d) fs vs) start (cs.drop at_) vs bl
  | [], at_, h, _, start => by
    simp only [okF, decide_eq_true_eq] at h
    rw [List.drop_eq_nil_of_le (by omega)]
    exact ⟨[], [], .plain (fun _ => VRs_nil) (fun _ => rfl) rfl rfl⟩
  | f :: r, at_, h, hx, start => by
    simp only [okF, Bool.and_eq_true, decide_eq_true_eq] at h
    obtain ⟨⟨hoff, hok⟩, hr⟩ := h
    obtain ⟨x, hxf⟩ := hx f (by simp)
    obtain ⟨v1, b1, o1⟩ := IH f.type hok n _ x hxf start
    obtain ⟨v2, b2, o2⟩ := deep_fields IH hcs r (at_ + P.cellsOf f.type) hr (fun g hg => hx g (by simp [hg])) (start + b1.length)
    refine ⟨v1 ++ v2, b1 ++ b2, ?_⟩
    have := o1.app o2
    rw [hoff, ← List.drop_drop, List.take_append_drop] at this
    exact this.imp fun s q => ⟨v1, v2, rfl, q⟩
theorem deep_rows {d : Nat} {e : TypeId} {n : Nat} (IH : DeepOk P enc W base held d e) (cells : List Value) (off : Nat) : ∀ (k : Nat), off + k * P.cellsOf e ≤ cells.length →
    (∀ i, i < k → ∃ x, DataW.trod enc P W base (fun _ => true) held n e ((cells.drop (off + i * P.cellsOf e)).take (P.cellsOf e)) = some x) → ∀ start, ∃ (rows : List (List AV)) (bl : List (AB × Loc)), rows.length = k ∧
      Opn W (fun s _ => ∀ r ∈ rows, RdT P s d e r ∧ r.length = P.cellsOf e) start ((cells.drop off).take (k * P.cellsOf e)) rows.flatten bl
  | 0, _, _, start => ⟨[], [], rfl, .plain (fun _ => by simpa using VRs_nil) (fun _ r hr => by simp at hr) rfl (by simp)⟩
  | k + 1, hle, hx, start => by
    obtain ⟨rows, b1, h1, o1⟩ := deep_rows IH cells off k (by rw [Nat.succ_mul] at hle; omega) (fun i hi => hx i (by omega)) start
    obtain ⟨x, hxk⟩ := hx k (by omega)
    obtain ⟨v2, b2, o2⟩ := IH n _ x hxk (start + b1.length)
    refine ⟨rows ++ [v2], b1 ++ b2, by simp [h1], ?_⟩
    have hl2 : v2.length = P.cellsOf e := by
      rw [o2.len, List.length_take, List.length_drop]
      rw [Nat.succ_mul] at hle
      omega
    have := o1.app o2
    rw [List.flatten_append, List.flatten_singleton, Nat.succ_mul, List.take_add, List.drop_drop]
    refine this.imp fun s hq r hr => ?_
    rcases List.mem_append.1 hr with q | q
    · exact hq.1 r q
    · simp at q
      subst q
      exact ⟨hq.2, hl2⟩
theorem VRs.cell {ρ : Ren} {vs : List AV} {cs : List Value} (h : VRs ρ vs cs) {i : Nat} {v : AV} (hi : vs[i]? = some v) : ∃ c, cs[i]? = some c ∧ VR ρ v c := VRs.at_ i h hi
theorem deep_open (hc : HasCellsD W) : ∀ (d : Nat) (t : TypeId), okT P d t = true → DeepOk P enc W base held d t
  | 0, t, h => by simp [okT] at h
  | d + 1, t, h => by
    intro fuel cs x hx start
    simp only [okT] at h
    split at h
    · rename_i hu
      obtain ⟨b, rfl, _⟩ := DataW.trod_bool hu hx
      exact ⟨[.bool b], [], .plain (fun ρ => VRs_cons.2 ⟨by simp [VR], VRs_nil⟩) (fun s => by simp only [RdT, hu]; exact ⟨b, rfl⟩) rfl rfl⟩
    · rename_i k hu
      obtain ⟨b, rfl, _, hw⟩ := DataW.trod_int hu hx
      exact ⟨[.int k b], [], .plain (fun ρ => VRs_cons.2 ⟨by simp [VR], VRs_nil⟩) (fun s => by simp only [RdT, hu]; exact ⟨b, rfl, hw⟩) rfl rfl⟩
    · rename_i hu
      obtain ⟨b, rfl, _⟩ := DataW.trod_string hu hx
      exact ⟨[.str b], [], .plain (fun ρ => VRs_cons.2 ⟨by simp [VR], VRs_nil⟩) (fun s => by simp only [RdT, hu]; exact ⟨b, rfl⟩) rfl rfl⟩
    · rename_i fs hu
      obtain ⟨xs, n, _, _, hl, hxl, hf⟩ := DataW.trod_struct hu hx
      obtain ⟨vs, bl, ho⟩ := deep_fields (fun t hk => deep_open hc d t hk) hl fs.toList 0 h (n := n) (fun f hmem => by
        obtain ⟨i, hi⟩ := List.getElem?_of_mem hmem
        have hi' : fs[i]? = some f := by simpa using hi
        have hlt : i < xs.length := by
          have := (Array.getElem?_eq_some_iff.1 hi').1
          omega
        exact ⟨xs[i], by rw [hf i f hi']; simp [hlt]⟩) start
      rw [List.drop_zero] at ho
      exact ⟨vs, bl, ho.imp fun s q => by simp only [RdT, hu]; exact q⟩
    · rename_i e hu
      simp only [Bool.and_eq_true, decide_eq_true_eq] at h
      obtain ⟨L, hL1, hL2⟩ := dummyD hc
      rcases slice_geo hu h.1 hx with rfl | ⟨a, rfl⟩ | ⟨b, off, len, cap, cells, el, fr, n, rfl, h2, h3, h4, h5, h6, h7⟩
      · exact ⟨[.nils], [], .plain (fun ρ => VRs_cons.2 ⟨by simp [VR], VRs_nil⟩) (fun s => by simp only [RdT, hu]; exact .inl (by trivial)) rfl rfl⟩
      · refine ⟨[.sl start 0 0 (some 0) (P.cellsOf e)], [(.row [] false, L)], ?_, ?_, fun ρ hρ => ⟨VRs_cons.2 ⟨?_, VRs_nil⟩, ?_⟩, fun s hs => ?_, rfl, rfl⟩
        · intro p hp
          simp at hp
          subst hp
          exact hL1
        · intro p hp
          simp at hp
          subst hp
          rfl
        · simp only [VR]
          exact ⟨L, a, 0, hρ 0 _ rfl, rfl, Nat.le_refl _, fun k hk => by injection hk, .inl rfl⟩
        · intro p hp
          simp at hp
          subst hp
          exact hL2 ρ
        · simp only [RdT, hu]
          exact .inr ⟨start, 0, 0, [], rfl, Nat.le_refl _, Nat.zero_le _, rfl, hs 0 _ rfl, fun r hr => by simp at hr⟩
      · have hlt := (Array.getElem?_eq_some_iff.1 h5).1
        obtain ⟨rows, bl, hr1, ho⟩ := deep_rows (deep_open hc d e h.2) cells.toList off cap (by simpa using h6) h7 (start + 1)
        have hfl : rows.flatten.length = cap * P.cellsOf e := by
          rw [ho.len, List.length_take, List.length_drop]
          simp
          omega
        have hup : ∀ {ρ : Ren}, (∀ i p, ((AB.row rows.flatten false, (⟨b, off, cells.size⟩ : Loc)) :: bl)[i]? = some p → ρ (start + i) = some p.2) → ∀ i p, bl[i]? = some p → ρ (start + 1 + i) = some p.2 := fun hρ i p hp => by
          have := hρ (i + 1) p (by simpa using hp)
          rwa [show start + (i + 1) = start + 1 + i by omega] at this
        refine ⟨[.sl start 0 len (some cap) (P.cellsOf e)], (.row rows.flatten false, ⟨b, off, cells.size⟩) :: bl, ?_, ?_, fun ρ hρ => ?_, fun s hs => ?_, rfl, rfl⟩
        · intro p hp
          rcases List.mem_cons.1 hp with rfl | hp
          · exact hlt
          · exact ho.lt p hp
        · intro p hp
          rcases List.mem_cons.1 hp with rfl | hp
          · rfl
          · exact ho.own p hp
        · obtain ⟨r1, r2⟩ := ho.vr ρ (hup hρ)
          refine ⟨VRs_cons.2 ⟨?_, VRs_nil⟩, fun p hp => ?_⟩
          · simp only [VR]
            exact ⟨⟨b, off, cells.size⟩, ⟨b, off, none⟩, cap, hρ 0 _ rfl, rfl, h3, fun k hk => by injection hk, .inr ⟨by simp, by simpa using h6⟩⟩
          · rcases List.mem_cons.1 hp with rfl | hp
            · simp only [BlkOk]
              refine ⟨cells, el, fr, h5, rfl, by rw [hfl]; exact h6, fun i v hi => ?_, by simp, ho.one⟩
              have hi' := (List.getElem?_eq_some_iff.1 hi).1
              obtain ⟨c, hc1, hc2⟩ := r1.cell hi
              refine ⟨c, ?_, hc2⟩
              rw [List.getElem?_take_of_lt (by omega), List.getElem?_drop] at hc1
              simpa using hc1
            · exact r2 p hp
        · simp only [RdT, hu]
          refine .inr ⟨start, len, cap, rows, rfl, h3, h4, hr1, hs 0 _ rfl, ?_⟩
          refine ho.rd s fun i p hp => ?_
          have := hs (i + 1) p (by simpa using hp)
          rwa [show start + (i + 1) = start + 1 + i by omega] at this
    · cases h

/-! ### All arguments of a call -/
def argAV (P : Program) (t : TypeId) (vs : List AV) : AV := match P.underlying t with
  | some (.struct _) => .agg vs
  | _ => vs.headD .und
def RdA (P : Program) (s : St) (d : Nat) (t : TypeId) (v : AV) : Prop := ∃ vs, RdT P s d t vs ∧ v = argAV P t vs
def RdAs (P : Program) (s : St) (d : Nat) : List TypeId → List AV → Prop
  | [], xs => xs = []
  | t :: ts, xs => ∃ v r, xs = v :: r ∧ RdA P s d t v ∧ RdAs P s d ts r
structure OpnA (W : World) (Q : St → List AV → Prop) (start : Nat) (cs : List Value) (vs : List AV) (bl : List (AB × Loc)) : Prop where
  lt : ∀ p ∈ bl, p.2.b < W.heap.size
  own : ∀ p ∈ bl, p.1.owned = false
  vr : ∀ ρ : Ren, (∀ i p, bl[i]? = some p → ρ (start + i) = some p.2) → VRs ρ vs cs ∧ ∀ p ∈ bl, BlkOk ρ p.2 W p.1
  rd : ∀ s : St, (∀ i p, bl[i]? = some p → s.get (start + i) = some p.1) → Q s vs
theorem OpnA.cons {Q1 Q2 : St → List AV → Prop} {start : Nat} {c : Value} {cs : List Value} {v : AV} {vs : List AV} {b1 b2 : List (AB × Loc)} (h : OpnA W Q1 start [c] [v] b1) (k : OpnA W Q2 (start + b1.length) cs vs b2) :
    OpnA W (fun s _ => Q1 s [v] ∧ Q2 s vs) start (c :: cs) (v :: vs) (b1 ++ b2) := by
  have e1 : ∀ {i : Nat} {p}, b1[i]? = some p → (b1 ++ b2)[i]? = some p := fun {i p} hp => by
    rw [List.getElem?_append_left (List.getElem?_eq_some_iff.1 hp).1]; exact hp
  have e2 : ∀ {i : Nat} {p}, b2[i]? = some p → (b1 ++ b2)[b1.length + i]? = some p := fun {i p} hp => by
    rw [List.getElem?_append_right (by omega), Nat.add_sub_cancel_left]; exact hp
  refine ⟨fun p hp => ?_, fun p hp => ?_, fun ρ hρ => ?_, fun s hs => ⟨h.rd s fun i p hp => hs i p (e1 hp), k.rd s fun i p hp => ?_⟩⟩
  · rcases List.mem_append.1 hp with q | q
    · exact h.lt p q
    · exact k.lt p q
  · rcases List.mem_append.1 hp with q | q
    · exact h.own p q
    · exact k.own p q
  · obtain ⟨r1, r2⟩ := h.vr ρ fun i p hp => hρ i p (e1 hp)
    obtain ⟨r3, r4⟩ := k.vr ρ fun i p hp => by have := hρ _ p (e2 hp); rwa [← Nat.add_assoc] at this
    refine ⟨r1.append r3, fun p hp => ?_⟩
    rcases List.mem_append.1 hp with q | q
    · exact r2 p q
    · exact r4 p q
  · have := hs _ p (e2 hp)
    rwa [← Nat.add_assoc] at this
theorem arg_deep (hc : HasCellsD W) {d : Nat} {t : TypeId} (hok : okT P (d + 1) t = true) {v : Value} {x : DataW H} {p : List MemPlace} (h : DataW.Trod enc P W base (fun _ => true) held t v x p) {b0 : Nat} (hval : Value.okWide P W .any b0 t v) (start : Nat) :
    ∃ a bl, OpnA W (fun s _ => RdA P s (d + 1) t a) start [v] [a] bl := by
  obtain ⟨fuel, h⟩ := h
  obtain ⟨vs, bl, ho⟩ := deep_open hc (d + 1) t hok fuel _ _ h start
  have hone : ∀ (hv : v.cells.toList = [v]) (ha : argAV P t vs = vs.headD .und), ∃ a bl, OpnA W (fun s _ => RdA P s (d + 1) t a) start [v] [a] bl := by
    intro hv ha
    have hl := ho.len
    rw [hv] at hl
    match vs, hl with
    | [a], _ =>
      refine ⟨a, bl, ho.lt, ho.own, fun ρ hρ => ?_, fun s hs => ⟨[a], ho.rd s hs, by rw [ha]; rfl⟩⟩
      have := ho.vr ρ hρ
      rw [hv] at this
      exact this
  simp only [okT] at hok
  split at hok
  · rename_i hu
    obtain ⟨b, rfl⟩ := okWide_bool hu hval
    exact hone rfl (by simp [argAV, hu])
  · rename_i k hu
    obtain ⟨b, rfl⟩ := okWide_int hu hval
    exact hone rfl (by simp [argAV, hu])
  · rename_i hu
    obtain ⟨b, rfl⟩ := okWide_string hu hval
    exact hone rfl (by simp [argAV, hu])
  · rename_i fs hu
    obtain ⟨cs, rfl, _⟩ := okWide_struct hu hval
    refine ⟨.agg vs, bl, ho.lt, ho.own, fun ρ hρ => ?_, fun s hs => ⟨vs, ho.rd s hs, by simp [argAV, hu]⟩⟩
    obtain ⟨r1, r2⟩ := ho.vr ρ hρ
    refine ⟨VRs_cons.2 ⟨?_, VRs_nil⟩, r2⟩
    simp only [VR]
    exact ⟨cs.toList, by simp, r1⟩
  · rename_i e hu
    obtain ⟨a, len, cap, rfl⟩ := okWide_slice hu hval
    exact hone rfl (by simp [argAV, hu])
  · cases hok
theorem args_deep (hc : HasCellsD W) {d : Nat} : ∀ {ts : List TypeId} {vs : List Value} {ds : List (DataW H)} {ps : List MemPlace}, (∀ t ∈ ts, okT P (d + 1) t = true) → DataW.TrodAll enc P W base (fun _ => true) held ts vs ds ps →
    (∀ (j : Nat) t v, ts[j]? = some t → vs[j]? = some v → ∃ b0, Value.okWide P W .any b0 t v) → ∀ start, ∃ xs bl, OpnA W (fun s _ => RdAs P s (d + 1) ts xs) start vs xs bl
  | [], vs, ds, ps, _, h, _, start => by
    obtain ⟨rfl, rfl, rfl⟩ := trodAll_nil h
    exact ⟨[], [], by simp, by simp, fun ρ _ => ⟨VRs_nil, by simp⟩, fun s _ => rfl⟩
  | t :: ts, vs, ds, ps, hok, h, hval, start => by
    obtain ⟨v, vs1, x, ds1, a, b, rfl, rfl, rfl, h1, h2⟩ := trodAll_cons h
    obtain ⟨b0, hv⟩ := hval 0 t v rfl rfl
    obtain ⟨av, bl1, o1⟩ := arg_deep hc (hok t (by simp)) h1 hv start
    obtain ⟨xs, bl2, o2⟩ := args_deep hc (fun t' ht => hok t' (by simp [ht])) h2 (fun j t' v' e1 e2 => hval (j + 1) t' v' (by simpa using e1) (by simpa using e2)) (start + bl1.length)
    have := o1.cons o2
    exact ⟨av :: xs, bl1 ++ bl2, this.lt, this.own, this.vr, fun s hs => ⟨av, xs, rfl, this.rd s hs⟩⟩
open Classical in
noncomputable def lawC (P : Program) (d : Nat) (ts : List TypeId) : List AV → St → Option (AV × St) := fun xs s => if RdAs P s d ts xs then some (.bool true, { heap := s.heap, next := s.next, low := min s.low s.next }) else none
theorem deep_call {d : Nat} {ts : List TypeId} {args : List Value} {xs : List AV} {bl : List (AB × Loc)} (ho : OpnA W (fun s _ => RdAs P s d ts xs) 0 args xs bl) {f : Nat} (hs : SoundAt P f (lawC P d ts)) : Calls P f args.toArray W fun e W' => e = .returned (.bool true) ∧ Clean W W' := by
  obtain ⟨s0, hs0⟩ : ∃ s0 : St, s0 = ⟨(bl.map (·.1)).reverse, bl.length, 0⟩ := ⟨_, rfl⟩
  have hnx : s0.next = bl.length := by rw [hs0]
  have hget : ∀ i, s0.get i = (bl[i]?).map (·.1) := by
    intro i
    subst hs0
    unfold St.get
    simp only
    split
    · rename_i h
      rw [List.getElem?_reverse (by simp; omega)]
      simp only [List.length_map, List.getElem?_map]
      rw [show bl.length - 1 - (bl.length - 1 - i) = i by omega]
    · rename_i h
      rw [List.getElem?_eq_none (by omega)]
      rfl
  have hown : ∀ i b, s0.get i = some b → b.owned = false := by
    intro i b h
    rw [hget] at h
    obtain ⟨p, hp, rfl⟩ := Option.map_eq_some_iff.1 h
    exact ho.own p (List.mem_of_getElem? hp)
  obtain ⟨ρ, hρ⟩ : ∃ ρ : Ren, ρ = fun i => (bl[i]?).map (·.2) := ⟨_, rfl⟩
  have hρ1 : ∀ i p, bl[i]? = some p → ρ (0 + i) = some p.2 := fun i p hp => by rw [hρ, Nat.zero_add]; simp [hp]
  obtain ⟨hv, hb⟩ := ho.vr ρ hρ1
  have hR : R s0 ρ W := by
    refine ⟨fun i L h => ?_, fun i b L h1 h2 => ?_, fun i j L M bi bj _ _ _ e3 _ e5 _ => ?_⟩
    · rw [hρ] at h
      obtain ⟨p, hp, rfl⟩ := Option.map_eq_some_iff.1 h
      exact ho.lt p (List.mem_of_getElem? hp)
    · rw [hget] at h1
      rw [hρ] at h2
      obtain ⟨p, hp, rfl⟩ := Option.map_eq_some_iff.1 h1
      simp [hp] at h2
      subst h2
      exact hb p (List.mem_of_getElem? hp)
    · rw [hown i bi e3] at e5; cases e5
  have hrd := ho.rd s0 fun i p hp => by rw [Nat.zero_add, hget, hp]; rfl
  obtain ⟨_, _, h⟩ := hs xs s0 _ _ (by unfold lawC; rw [if_pos hrd])
  have := h ρ W args (fun i hi => by rw [hρ]; simp; omega) hR hv
  refine this.mono fun e W' hp => ?_
  obtain ⟨ρ', v, rfl, hv', hst, _⟩ := hp
  simp only [VR] at hv'
  subst hv'
  exact ⟨rfl, hst.size, hst.os, hst.tape, hst.output, hst.drawn, fun b hb => hst.frame b hb fun id L blk _ _ h1 h2 => by rw [hown id blk h1] at h2; cases h2⟩
theorem trodAll_len : ∀ {ts : List TypeId} {vs : List Value} {ds : List (DataW H)} {ps : List MemPlace}, DataW.TrodAll enc P W base (fun _ => true) held ts vs ds ps → ds.length = ts.length
  | [], vs, ds, ps, h => by
    obtain ⟨rfl, rfl, rfl⟩ := trodAll_nil h
    rfl
  | t :: ts, vs, ds, ps, h => by
    obtain ⟨v, vs1, x, ds1, a, b, rfl, rfl, rfl, h1, h2⟩ := trodAll_cons h
    simp [trodAll_len h2]
end Go.AM
end
/-
  What the arguments of the statements show: numbers, nodes, states, lists of states. Own work of this project.
-/
section
set_option maxRecDepth 100000
namespace Go.AM
open Go Go.Proofs

variable {P : Program} {s : St}
theorem rd_slice {d : Nat} {t e : TypeId} {vs : List AV} (hu : P.underlying t = some (.slice e)) (h : RdT P s (d + 1) t vs) : vs = [.nils] ∨ ∃ (id n cap : Nat) (rows : List (List AV)), vs = [.sl id 0 n (some cap) (P.cellsOf e)] ∧ n ≤ cap ∧ cap ≤ maxLen ∧ rows.length = cap ∧ s.get id = some (.row rows.flatten false) ∧ ∀ r ∈ rows, RdT P s d e r ∧ r.length = P.cellsOf e := by
  simp only [RdT, hu] at h
  exact h
theorem rd_int {d : Nat} {t : TypeId} {k : IntKind} {vs : List AV} (hu : P.underlying t = some (.int k)) (h : RdT P s (d + 1) t vs) : ∃ n, vs = [.int k n] ∧ (Lit.int k n).wf = true := by
  simp only [RdT, hu] at h
  exact h
theorem rda_int {d : Nat} {t : TypeId} {k : IntKind} {v : AV} (hu : P.underlying t = some (.int k)) (h : RdA P s (d + 1) t v) : ∃ n, v = .int k n ∧ (Lit.int k n).wf = true := by
  obtain ⟨vs, h1, rfl⟩ := h
  obtain ⟨n, rfl, hw⟩ := rd_int hu h1
  exact ⟨n, by simp [argAV, hu], hw⟩
theorem lawC_some {d : Nat} {ts : List TypeId} {xs : List AV} {r : AV} {s' : St} (h : lawC P d ts xs s = some (r, s')) : RdAs P s d ts xs ∧ r = .bool true ∧ s' = s.lowed := by
  unfold lawC at h
  split at h
  · rename_i hr
    injection h with h
    obtain ⟨rfl, rfl⟩ := Prod.mk.inj h
    exact ⟨hr, rfl, rfl⟩
  · cases h
theorem rdas_1 {d : Nat} {t : TypeId} {xs : List AV} (h : RdAs P s d [t] xs) : ∃ v, xs = [v] ∧ RdA P s d t v := by
  obtain ⟨v, r, rfl, h1, h2⟩ := h
  simp only [RdAs] at h2
  subst h2
  exact ⟨v, rfl, h1⟩
theorem rdas_2 {d : Nat} {t1 t2 : TypeId} {xs : List AV} (h : RdAs P s d [t1, t2] xs) : ∃ v w, xs = [v, w] ∧ RdA P s d t1 v ∧ RdA P s d t2 w := by
  obtain ⟨v, r, rfl, h1, h2⟩ := h
  obtain ⟨w, rfl, h3⟩ := rdas_1 h2
  exact ⟨v, w, rfl, h1, h3⟩
theorem rdas_3 {d : Nat} {t1 t2 t3 : TypeId} {xs : List AV} (h : RdAs P s d [t1, t2, t3] xs) : ∃ v w u, xs = [v, w, u] ∧ RdA P s d t1 v ∧ RdA P s d t2 w ∧ RdA P s d t3 u := by
  obtain ⟨v, r, rfl, h1, h2⟩ := h
  obtain ⟨w, u, rfl, h3, h4⟩ := rdas_2 h2
  exact ⟨v, w, u, rfl, h1, h3, h4⟩
end Go.AM
end
/-
  Arguments that are structs, field by field. Own work of this project.
-/
section
namespace Go.AM
open Go

variable {s t u : St}
section
variable {P : Program}
def RdTs (P : Program) (s : St) (d : Nat) : List TypeId → List AV → Prop
  | [], vs => vs = []
  | t :: r, vs => ∃ a b, vs = a ++ b ∧ RdT P s d t a ∧ RdTs P s d r b
theorem rd_fields {d : Nat} : ∀ (fs : List Field) (vs : List AV), RdF (RdT P s d) fs vs → RdTs P s d (fs.map (·.type)) vs
  | [], _, h => h
  | f :: r, vs, h => by
    obtain ⟨a, b, rfl, h1, h2⟩ := h
    exact ⟨a, b, rfl, h1, rd_fields r b h2⟩
def fieldsT (P : Program) (t : TypeId) : Option (List TypeId) := match P.underlying t with
  | some (.struct fs) => some (fs.toList.map (·.type))
  | _ => none
theorem rd_struct {d : Nat} {t : TypeId} {ts : List TypeId} {vs : List AV} (hu : fieldsT P t = some ts) (h : RdT P s (d + 1) t vs) : RdTs P s d ts vs := by
  unfold fieldsT at hu
  split at hu
  · rename_i fs hq
    injection hu with hu
    subst hu
    simp only [RdT, hq] at h
    exact rd_fields _ _ h
  · cases hu
end
end Go.AM
end
/-
  OmapPlays. Own work of this project; in part printed by a program of it.
-/
section
set_option maxRecDepth 100000
set_option maxHeartbeats 8000000
namespace Go.AM
open Go Go.Proofs

variable {s t u : St}

theorem act_unders : Try.prog.underlying 22 = some (.slice 31) := by kernel_rfl
theorem act_cells : Try.prog.cellsOf 31 = 3 := by kernel_rfl
theorem act_fields : fieldsT Try.prog 31 = some [3, 3, 9] := by kernel_rfl
theorem int_underK : Try.prog.underlying 3 = some (.int .i64) := by kernel_rfl
theorem str_underK : Try.prog.underlying 9 = some .string := by kernel_rfl
theorem bool_underK : Try.prog.underlying 4 = some .bool := by kernel_rfl
theorem rd_strK {P : Program} {d : Nat} {t : TypeId} {vs : List AV} (hu : P.underlying t = some .string) (h : RdT P s (d + 1) t vs) : ∃ n, vs = [.str n] := by
  simp only [RdT, hu] at h
  exact h
theorem rda_boolK {P : Program} {d : Nat} {t : TypeId} {v : AV} (hu : P.underlying t = some .bool) (h : RdA P s (d + 1) t v) : ∃ b, v = .bool b := by
  obtain ⟨vs, h1, rfl⟩ := h
  simp only [RdT, hu] at h1
  obtain ⟨b, rfl⟩ := h1
  exact ⟨b, by simp [argAV, hu]⟩
theorem acts_of_rows {d : Nat} : ∀ {rows : List (List AV)}, (∀ r ∈ rows, RdT Try.prog s (d + 2) 31 r) → ∃ l : List AcT, rows.flatten = acC.cells l ∧ l.length = rows.length
  | [], _ => ⟨[], rfl, rfl⟩
  | r :: rows, h => by
    obtain ⟨r1, x1, rfl, k1, r2, x2, rfl, k2, r3, x3, rfl, k3, rfl⟩ := rd_struct act_fields (h r (by simp))
    obtain ⟨a, rfl, _⟩ := rd_int int_underK k1
    obtain ⟨b, rfl, _⟩ := rd_int int_underK k2
    obtain ⟨c, rfl⟩ := rd_strK str_underK k3
    obtain ⟨l, h1, h2⟩ := acts_of_rows (rows := rows) fun r' hr' => h r' (by simp [hr'])
    exact ⟨(a, b, c) :: l, by rw [List.flatten_cons, h1, cells_cons]; rfl, by simp [h2]⟩
theorem rda_acts08 {v : AV} (h : RdA Try.prog s 8 22 v) : ∃ l, AM.read acC s v = some l := by
  obtain ⟨vs, h1, rfl⟩ := h
  rcases rd_slice act_unders h1 with rfl | ⟨id, n, cap, rows, rfl, h1, _, h3, h4, h5⟩
  · exact ⟨[], by simp [argAV, act_unders]; rfl⟩
  · obtain ⟨l, e1, e2⟩ := acts_of_rows (d := 5) fun r hr => (h5 r hr).1
    have e : argAV Try.prog 22 [.sl id 0 n (some cap) (Try.prog.cellsOf 31)] = .sl id 0 n (some cap) 3 := by simp [argAV, act_unders, act_cells]
    rw [e]
    refine ⟨l.take n, ?_⟩
    have hall : AM.read acC s (.sl id 0 cap (some cap) 3) = some l := by
      have hcl : (acC.cells l).length = l.length * 3 := cells_len acC l
      refine read_of (C := acC) (by omega) h4 ?_ ?_
      · rw [e1, hcl]
        show 0 + cap * 3 ≤ _
        omega
      · rw [e1, List.drop_zero, show cap * acC.sz = (acC.cells l).length by rw [hcl]; show cap * 3 = _; omega, List.take_length]
    exact read_take hall n h1
theorem sto_z3 {m : Nat} {t : St} (h : sameN m t) {a b c : AV} (ha : a.one = true) (hb : b.one = true) (hc : c.one = true) (cs : List AV) (hcs : cs.length = 3) : AM.sto (t.push (.row cs true)) 3 (.ptr m 0) (.agg [a, b, c]) = some (.und, t.lowed.push (.row [a, b, c] true)) := by
  unfold sameN at h
  subst h
  have hg : (t.push (.row cs true)).get t.next = some (.row cs true) := St.get_push_new t _
  simp only [AM.sto, hg]
  rw [if_pos ⟨rfl, by simp [AV.cells, ha, hb, hc], by omega⟩]
  simp [setAt, AV.cells, hcs, St.push, St.put, St.lowed]
theorem row3_lod {id : Nat} {a b c : AV} {own : Bool} (h : t.get id = some (.row [a, b, c] own)) : lod1 t (.ptr id 0) = some a ∧ lod1 t (.ptr id 1) = some b ∧ lod1 t (.ptr id 2) = some c ∧ ltN id t := by
  refine ⟨?_, ?_, ?_, St.get_lt h⟩ <;> simp [lod1, h]
theorem MpR.nb {id : Nat} {q : Option Nat} {d : Bool} {L : List PrS} (h : MpR t id q d L) {b : Nat} {x : Bool} {w : AV} {own : Bool} (hg : t.get b = some (.row [.bool x, w] own)) : b ∉ id :: q.toList := by
  have h1 : b ≠ id := by
    rintro rfl
    have := h.box
    rw [hg] at this
    injection this with this
    injection this with this _
    injection this with this _
    cases d <;> cases this
  cases q with
  | none => simp [h1]
  | some j =>
    have h2 : b ≠ j := by
      rintro rfl
      have := (h.dat b rfl).2
      rw [hg] at this
      injection this with this
      injection this with this _
      cases L with
      | nil => cases this
      | cons y r =>
        rw [pr_cells2] at this
        injection this with this _
        cases this
    simp [h1, h2]
theorem MpR.n3 {id : Nat} {q : Option Nat} {d : Bool} {L : List PrS} (h : MpR t id q d L) {b : Nat} {cs : List AV} {own : Bool} (hg : t.get b = some (.row cs own)) (hc : cs.length = 3 ∨ cs.length = 1) : b ∉ id :: q.toList := by
  have h1 : b ≠ id := by
    rintro rfl
    have := h.box
    rw [hg] at this
    injection this with this
    injection this with this _
    rw [this] at hc
    simp at hc
  cases q with
  | none => simp [h1]
  | some j =>
    have h2 : b ≠ j := by
      rintro rfl
      have := (h.dat b rfl).2
      rw [hg] at this
      injection this with this
      injection this with this _
      have hl := congrArg List.length this
      rw [cells_len, prC_sz] at hl
      omega
    simp [h1, h2]
/-- A map and the reference's: the same pairs. -/
structure PlM (s t : St) (rb id : Nat) (q : Option Nat) (d : Bool) (L : List PrS) (rv : AV) : Prop where
  mp : MpR t id q d L
  hid : s.next ≤ id
  hq : ∀ j, q = some j → s.next ≤ j
  rb : t.get rb = some (.row [.bool d, rv] true)
  own : Own prC s t rv L
  sep : ∀ j, q = some j → ∀ o n c z, rv ≠ .sl j o n c z
  srt : SrtD d L
variable {rb id : Nat} {q : Option Nat} {d : Bool} {L : List PrS} {rv : AV}
theorem PlM.keep (h : PlM s t rb id q d L rv) (hK : Keep t u) : PlM s u rb id q d L rv := ⟨h.mp.keep hK, h.hid, h.hq, hK.blk h.rb, h.own.mono fun _ _ => hK.blk, h.sep, h.srt⟩
/-- Behind a change of the map. -/
theorem PlM.chg (h : PlM s t rb id q d L rv) (hC : Chg (id :: q.toList) t u) {q' : Option Nat} (hq' : ∀ j, q' = some j → q = some j ∨ t.next ≤ j) :
    u.get rb = some (.row [.bool d, rv] true) ∧ Own prC s u rv L ∧ (∀ j, q' = some j → ∀ o n c z, rv ≠ .sl j o n c z) ∧ (∀ j, q' = some j → s.next ≤ j ∧ (j < t.next ∨ t.next ≤ j)) := by
  have hO : Own prC s u rv L := by
    have h0 := h.own
    rcases h0 with e | ⟨j, e, h1, h2, h3⟩
    · exact .inl e
    · refine .inr ⟨j, e, h1, h2, hC.blk h3 fun hm => ?_⟩
      rcases List.mem_cons.1 hm with rfl | hm
      · have := h.mp.box
        rw [h3] at this
        injection this with this
        injection this with this _
        cases L with
        | nil => exact h1 rfl
        | cons y r =>
          rw [pr_cells2] at this
          injection this with this _
          cases d <;> cases this
      · cases hq : q with
        | none => rw [hq] at hm; simp at hm
        | some j0 =>
          rw [hq] at hm
          simp at hm
          subst hm
          exact h.sep j hq 0 _ none _ e
  refine ⟨hC.blk h.rb (h.mp.nb h.rb), hO, fun j hj o n c z e => ?_, fun j hj => ?_⟩
  · rcases hq' j hj with e' | e'
    · exact h.sep j e' o n c z e
    · rcases h.own with ⟨e2, _⟩ | ⟨j2, e2, _, _, h3⟩
      · rw [e2] at e; cases e
      · rw [e2] at e
        injection e with e
        have := St.get_lt h3
        omega
  · rcases hq' j hj with e' | e'
    · exact ⟨h.hq j e', by omega⟩
    · have h1 := h.hid
      have := St.get_lt h.mp.box
      exact ⟨by omega, by omega⟩
/-- The reference has made a new list. -/
theorem PlM.next {t0 t1 u : St} {rv' : AV} {L' : List PrS} {q' : Option Nat} (hm : MpR t1 id q' d L') (hid : s.next ≤ id) (hq : ∀ j, q' = some j → s.next ≤ j) (hb : t1.get rb = some (.row [.bool d, rv] true)) (hs : s.next ≤ t1.next) (hO : Own prC t1 t0 rv' L') (hK : Keep t1 t0) (hsr : SrtD d L') (hu : u = t0.put rb (.row [.bool d, rv'] true)) (hrb : s.next ≤ rb) (hKs : Keep s t0) :
    PlM s u rb id q' d L' rv' ∧ Keep s u := by
  have hb0 := hK.blk hb
  have hlt := St.get_lt hb0
  have hrbl := St.get_lt hb
  have hnb := hm.nb hb
  have hne : ∀ j, q' = some j → j ≠ rb := fun j e => by
    rintro rfl
    apply hnb
    rw [e]
    simp
  have hni : id ≠ rb := fun e => hnb (by rw [e]; simp)
  subst hu
  refine ⟨⟨⟨?_, hm.nol, fun j e => ⟨(hm.dat j e).1, ?_⟩, hm.hn⟩, hid, hq, St.get_put_same hb0, ?_, fun j e o n c z e2 => ?_, hsr⟩, hKs.put _ hrb hlt⟩
  · rw [St.get_put_ne _ _ hlt hni]
    exact hK.blk hm.box
  · rw [St.get_put_ne _ _ hlt (hne j e)]
    exact hK.blk (hm.dat j e).2
  · rcases hO with e | ⟨j, e, h1, h2, h3⟩
    · exact .inl e
    · refine .inr ⟨j, e, h1, by omega, ?_⟩
      rw [St.get_put_ne _ _ hlt (by omega)]
      exact h3
  · rcases hO with ⟨e3, _⟩ | ⟨j2, e3, _, h2, _⟩
    · rw [e3] at e2; cases e2
    · rw [e3] at e2
      injection e2 with e2
      have := St.get_lt (hm.dat j e).2
      omega
end Go.AM
end
/-
  OmapHolds. Own work of this project; in part printed by a program of it.
-/
section
set_option maxRecDepth 100000
set_option maxHeartbeats 8000000
namespace Go.AM
open Go Go.Proofs

variable {s t u : St}

theorem u8_nat {n : Int} (h : (Lit.int .u8 n).wf = true) : ∃ b : Nat, n = (b : Int) ∧ b < 256 := by
  have e1 : IntKind.u8.min = 0 := by decide
  have e2 : IntKind.u8.max = 255 := by decide
  have : 0 ≤ n ∧ n ≤ 255 := by
    simp [Lit.wf, e1, e2] at h
    omega
  exact ⟨n.toNat, by omega, by omega⟩
variable {rb id : Nat} {q : Option Nat} {d : Bool} {L : List PrS} {rv : AV}
theorem own_chg (h : MpR t id q d L) {A : List PrS} (hO : Own prC s t rv A) (hsep : ∀ j, q = some j → ∀ o n c z, rv ≠ .sl j o n c z) (hC : Chg (id :: q.toList) t u) {q' : Option Nat} (hq' : ∀ j, q' = some j → q = some j ∨ t.next ≤ j) :
    Own prC s u rv A ∧ ∀ j, q' = some j → ∀ o n c z, rv ≠ .sl j o n c z := by
  constructor
  · rcases hO with e | ⟨j, e, h1, h2, h3⟩
    · exact .inl e
    · refine .inr ⟨j, e, h1, h2, hC.blk h3 fun hm => ?_⟩
      rcases List.mem_cons.1 hm with rfl | hm
      · have := h.box
        rw [h3] at this
        injection this with this
        injection this with this _
        cases A with
        | nil => exact h1 rfl
        | cons y r =>
          rw [pr_cells2] at this
          injection this with this _
          cases d <;> cases this
      · cases hq : q with
        | none => rw [hq] at hm; simp at hm
        | some j0 =>
          rw [hq] at hm
          simp at hm
          subst hm
          exact hsep j hq 0 _ none _ e
  · intro j hj o n c z e
    rcases hq' j hj with e' | e'
    · exact hsep j e' o n c z e
    · rcases hO with ⟨e2, _⟩ | ⟨j2, e2, _, _, h3⟩
      · rw [e2] at e; cases e
      · rw [e2] at e
        injection e with e
        have := St.get_lt h3
        omega
theorem chg_keep {a : St} (hK : Keep a t) (h1 : a.next ≤ id) (h2 : ∀ j, q = some j → a.next ≤ j) (hC : Chg (id :: q.toList) t u) : Keep a u := hK.chgn hC fun k hk => by
  rcases List.mem_cons.1 hk with rfl | hk
  · exact h1
  · cases hq : q with
    | none => rw [hq] at hk; simp at hk
    | some j => rw [hq] at hk; simp at hk; subst hk; exact h2 k hq
/-! ### Plain laws -/
theorem rk_self (h : SrtD d L) {i : Nat} {y : PrS} (hy : L[i]? = some y) : rkD d L y.1 = i := rk_eq (Nat.le_of_lt (getlt hy)) (fun j z hj hz => h.lt hz hy hj) fun z hz => by
  rw [hy] at hz; injection hz with hz; rw [← hz]; omega
theorem mem_put (h : SrtD d L) (k : Int) (v : ByteArray) (y : PrS) : y ∈ putD d L k v ↔ y = (k, v) ∨ (y ∈ L ∧ y.1 ≠ k) := by
  rw [← putR_put h]
  unfold putR
  have e : y ∈ dropK k L ↔ y ∈ L ∧ y.1 ≠ k := by
    unfold dropK
    rw [List.mem_filter]
    simp
  rw [← e]
  conv => rhs; rhs; rw [← List.take_append_drop (rkD d (dropK k L) k) (dropK k L)]
  simp only [List.mem_append, List.mem_cons]
  constructor
  · rintro (h | h | h)
    · exact .inr (.inl h)
    · exact .inl h
    · exact .inr (.inr h)
  · rintro (h | h | h)
    · exact .inr (.inl h)
    · exact .inl h
    · exact .inr (.inr h)
theorem srt_ext : ∀ {A B : List PrS}, SrtD d A → SrtD d B → (∀ y, y ∈ A ↔ y ∈ B) → A = B
  | [], [], _, _, _ => rfl
  | [], b :: B, _, _, h => absurd ((h b).2 (by simp)) (by simp)
  | a :: A, [], _, _, h => absurd ((h a).1 (by simp)) (by simp)
  | a :: A, b :: B, hA, hB, h => by
    unfold SrtD at hA hB
    rw [List.pairwise_cons] at hA hB
    have e : a = b := by
      rcases List.mem_cons.1 ((h a).1 (by simp)) with e | e
      · exact e
      · rcases List.mem_cons.1 ((h b).2 (by simp)) with e2 | e2
        · exact e2.symm
        · have h1 := hB.1 a e
          have h2 := hA.1 b e2
          omega
    subst e
    rw [srt_ext hA.2 hB.2 fun y => ?_]
    constructor
    · intro hy
      rcases List.mem_cons.1 ((h y).1 (List.mem_cons_of_mem _ hy)) with e | e
      · have := hA.1 y hy
        rw [e] at this
        omega
      · exact e
    · intro hy
      rcases List.mem_cons.1 ((h y).2 (List.mem_cons_of_mem _ hy)) with e | e
      · have := hB.1 y hy
        rw [e] at this
        omega
      · exact e
/-- What has been set of a list, from one place on around. -/
def GotR (d : Bool) (L : List PrS) (tn i : Nat) (N : List PrS) : Prop := SrtD d N ∧ (∀ y ∈ N, y ∈ L) ∧ ∀ j, j < i → ∀ y, L[(j + tn) % L.length]? = some y → y ∈ N
theorem GotR.step {tn i : Nat} {N : List PrS} (hL : SrtD d L) (h : GotR d L tn i N) {y : PrS} (hy : L[(i + tn) % L.length]? = some y) : GotR d L tn (i + 1) (putD d N y.1 y.2) := by
  obtain ⟨h1, h2, h3⟩ := h
  have uniq : ∀ a ∈ L, a.1 = y.1 → a = y := fun a ha e => by
    obtain ⟨j, hj⟩ := List.mem_iff_getElem?.1 ha
    have e1 := rk_self hL hj
    have e2 := rk_self hL hy
    rw [e, e2] at e1
    rw [← e1, hy] at hj
    injection hj with hj
    exact hj.symm
  refine ⟨put_srt h1 _ _, fun a ha => ?_, fun j hj a ha => ?_⟩
  · rcases (mem_put h1 _ _ a).1 ha with rfl | ⟨h, _⟩
    · exact List.mem_of_getElem? hy
    · exact h2 a h
  · rw [mem_put h1]
    by_cases e : j = i
    · subst e
      rw [hy] at ha
      injection ha with ha
      exact .inl ha.symm
    · have hm := h3 j (by omega) a ha
      by_cases e2 : a.1 = y.1
      · exact .inl (uniq a (h2 a hm) e2)
      · exact .inr ⟨hm, e2⟩
theorem GotR.all {tn : Nat} {N : List PrS} (hL : SrtD d L) (h : GotR d L tn L.length N) : N = L := by
  obtain ⟨h1, h2, h3⟩ := h
  refine srt_ext h1 hL fun y => ⟨h2 y, fun hy => ?_⟩
  obtain ⟨k, hk⟩ := List.mem_iff_getElem?.1 hy
  have hkl := getlt hk
  have hpos : 0 < L.length := by omega
  have hm := Nat.mod_lt tn hpos
  by_cases c : tn % L.length ≤ k
  · refine h3 (k - tn % L.length) (by omega) y ?_
    have e : (k - tn % L.length + tn) % L.length = k := by
      rw [Nat.add_mod, Nat.mod_eq_of_lt (show k - tn % L.length < L.length by omega), show k - tn % L.length + tn % L.length = k by omega, Nat.mod_eq_of_lt hkl]
    rw [e]; exact hk
  · refine h3 (k + L.length - tn % L.length) (by omega) y ?_
    have e : (k + L.length - tn % L.length + tn) % L.length = k := by
      rw [Nat.add_mod, Nat.mod_eq_of_lt (show k + L.length - tn % L.length < L.length by omega), show k + L.length - tn % L.length + tn % L.length = k + L.length by omega, Nat.add_mod_right, Nat.mod_eq_of_lt hkl]
    rw [e]; exact hk
end Go.AM
end
/-
  OmapIterates. Own work of this project; in part printed by a program of it.
-/
section
set_option maxRecDepth 100000
set_option maxHeartbeats 8000000
namespace Go.AM
open Go Go.Proofs

variable {s t u : St}

theorem rdas_4 {P : Program} {d : Nat} {t1 t2 t3 t4 : TypeId} {xs : List AV} (h : RdAs P s d [t1, t2, t3, t4] xs) : ∃ v w u y, xs = [v, w, u, y] ∧ RdA P s d t1 v ∧ RdA P s d t2 w ∧ RdA P s d t3 u ∧ RdA P s d t4 y := by
  obtain ⟨v, r, rfl, h1, h⟩ := h
  obtain ⟨w, u, y, rfl, h2, h3, h4⟩ := rdas_3 h
  exact ⟨v, w, u, y, rfl, h1, h2, h3, h4⟩
theorem awpI_tail9 {call : Nat → List AV → St → Option (AV × St)} {A1 A2 A3 A4 A5 A6 A7 A8 A9 X : AI} {Q : AEx → Env → St → Prop} {env : Env} {s : St} (M : Env → St → Prop) (h : ∀ e t, M e t → awpI call X Q e t) (k : ∀ Y, (∀ e t, M e t → awpI call Y Q e t) → awpI call (.seq A1 (.seq A2 (.seq A3 (.seq A4 (.seq A5 (.seq A6 (.seq A7 (.seq A8 (.seq A9 Y))))))))) Q env s) : awpI call (.seq A1 (.seq A2 (.seq A3 (.seq A4 (.seq A5 (.seq A6 (.seq A7 (.seq A8 (.seq A9 X))))))))) Q env s := k X h

theorem appV_oneC {β : Type} {C : Cod β} {M : List Nat} {s t : St} {v : AV} {l : List β} (hK : Chg M s t) (hO : Own C s t v l) (x : β) (bytes : Nat) (hb : (l.length + 1) * bytes ≤ roomBytes) :
    ∃ v' t', appV (t.push (.row (C.enc x) true)) C.sz bytes v (.sl t.next 0 1 (some 1) C.sz) = some (v', t') ∧ Chg M s t' ∧ Own C s t' v' (l ++ [x]) ∧ ∃ n, v' = .sl (t.next + 1) 0 n none C.sz := by
  have hr : AM.read C (t.push (.row (C.enc x) true)) (.sl t.next 0 1 (some 1) C.sz) = some [x] := by
    refine read_of rfl (St.get_push_new _ _) (by simp [C.len]) ?_
    rw [cells_one, List.drop_zero, Nat.one_mul, ← C.len x]
    simp
  have hK' := hK.push (.row (C.enc x) true)
  rcases hO.push (.row (C.enc x) true) with ⟨rfl, rfl⟩ | ⟨j, rfl, h0, h1, h⟩
  · refine ⟨.sl (t.push (.row (C.enc x) true)).next 0 1 none C.sz, (t.push (.row (C.enc x) true)).push (.row (C.enc x) true), ?_, hK'.push _, .inr ⟨(t.push (.row (C.enc x) true)).next, by simp, by simp, hK'.next, ?_⟩, 1, rfl⟩
    · simp only [appV, read_shown hr, read_len hr, aappend]
      rw [if_neg (by simp), if_pos (by simpa using hb), cells_one]
      rfl
    · rw [List.nil_append, cells_one]
      exact St.get_push_new _ _
  · refine ⟨.sl (t.push (.row (C.enc x) true)).next 0 (l.length + 1) none C.sz, ((t.push (.row (C.enc x) true)).put j .dead).push (.row (C.cells (l ++ [x])) true), ?_, (hK'.put .dead (.inr h1) (St.get_lt h)).push _, .inr ⟨(t.push (.row (C.enc x) true)).next, by simp, by simp, hK'.next, by simpa using St.get_push_new ((t.push (.row (C.enc x) true)).put j .dead) _⟩, l.length + 1, rfl⟩
    simp only [appV, read_shown hr, read_len hr, aappend, if_true, h]
    rw [if_neg (by simp), if_pos ⟨by simp [cells_len], by simpa using hb⟩]
    have e : (C.cells l).take (l.length * C.sz) = C.cells l := by rw [← cells_len]; simp
    rw [List.drop_zero, e, cells_append]
    rfl
theorem box1C {β : Type} {C : Cod β} {M : List Nat} {u t : St} {lv : AV} {l : List β} {ib : Nat} (hC : Chg M u t) (hm : ib ∈ M) (hib : ib < u.next) (hb : t.get ib = some (.row [lv] true)) (hO : Own C u t lv l) (hsz : 1 < C.sz) (y : β) (bytes : Nat) (hr : (l.length + 1) * bytes ≤ roomBytes) :
    ∃ lv' t', appV (t.push (.row (C.enc y) true)) C.sz bytes lv (.sl t.next 0 1 (some 1) C.sz) = some (lv', t') ∧ AM.sto t' 1 (.ptr ib 0) lv' = some (.und, t'.put ib (.row [lv'] true)) ∧ ltN ib t' ∧ Chg M u (t'.put ib (.row [lv'] true)) ∧ (t'.put ib (.row [lv'] true)).get ib = some (.row [lv'] true) ∧ Own C u (t'.put ib (.row [lv'] true)) lv' (l ++ [y]) ∧
      (∀ j, j ≤ t.next → ∀ o n c z, lv' ≠ .sl j o n c z) ∧ ∀ id b, t.get id = some b → id ≠ ib → (∀ o n c z, lv ≠ .sl id o n c z) → (t'.put ib (.row [lv'] true)).get id = some b := by
  obtain ⟨lv', t', hap, hC', hO', nn, hnew⟩ := appV_oneC hC hO y bytes hr
  have fr : ∀ id b, t.get id = some b → (∀ o n c z, lv ≠ .sl id o n c z) → t'.get id = some b := fun id b hg hn => appV_frame hap hn (get_push_some _ hg)
  have hb' := fr ib _ hb (own_ne hO hb hsz)
  have hlt := St.get_lt hb'
  have hO2 : Own C u (t'.put ib (.row [lv'] true)) lv' (l ++ [y]) := by
    rcases hO' with q | ⟨j, q, h0, h1, h2⟩
    · exact .inl q
    · refine .inr ⟨j, q, h0, h1, ?_⟩
      rw [St.get_put_ne _ _ hlt (by omega)]
      exact h2
  refine ⟨lv', t', hap, row1_sto hb' (own_one1 hO'), hlt, hC'.put _ (.inl hm) hlt, St.get_put_same hb', hO2, fun j hj o n c z e => ?_, fun id b hg hi hn => by rw [St.get_put_ne _ _ hlt hi]; exact fr id b hg hn⟩
  rw [hnew] at e
  injection e with e
  omega
theorem read_chg {β : Type} {C : Cod β} {M : List Nat} {v : AV} {l : List β} (h : AM.read C s v = some l) (hC : Chg M s t) (hm : v = .nils ∨ bid v ∉ M) : AM.read C t v = some l := by
  cases v with
  | nils => exact h
  | sl id off n cap z =>
    obtain ⟨rfl, hn, cs, own, hg, h1, h2, _⟩ := read_sl h
    rcases hm with q | q
    · cases q
    · exact read_of hn (hC.blk hg q) h1 h2
  | _ => simp [AM.read] at h
variable {rb id : Nat} {q : Option Nat} {d : Bool} {L : List PrS} {rv : AV}
theorem own_nmp (h : MpR t id q d L) {A : List PrS} (hO : Own prC s t rv A) : ∀ o n c z, rv ≠ .sl id o n c z := by
  rintro o n c z rfl
  rcases hO with ⟨e, _⟩ | ⟨j, e, h1, h2, h3⟩
  · cases e
  · injection e with e
    subst e
    have := h.box
    rw [h3] at this
    injection this with this
    injection this with this _
    cases A with
    | nil => exact h1 rfl
    | cons y r =>
      rw [pr_cells2] at this
      injection this with this _
      cases d <;> cases this
theorem MpR.frame (h : MpR t id q d L) {ib : Nat} {w : AV} {own : Bool} (hg : t.get ib = some (.row [w] own)) {A : List PrS} (hO : Own prC s t rv A) (hsep : ∀ j, q = some j → ∀ o n c z, rv ≠ .sl j o n c z) (hf : ∀ x b, t.get x = some b → x ≠ ib → (∀ o n c z, rv ≠ .sl x o n c z) → u.get x = some b) : MpR u id q d L := by
  have hnm := h.n3 hg (.inr rfl)
  refine ⟨hf _ _ h.box (fun e => hnm (by rw [e]; simp)) (own_nmp h hO), h.nol, fun j e => ⟨(h.dat j e).1, hf _ _ (h.dat j e).2 (fun e' => hnm (by rw [← e', e]; simp)) (hsep j e)⟩, h.hn⟩
theorem mem_b {ib : Nat} {q : Option Nat} {x : Nat} (h1 : x ≠ ib) (h2 : x ∉ id :: q.toList) : x ∉ ib :: id :: q.toList := by
  intro h
  rcases List.mem_cons.1 h with h | h
  · exact h1 h
  · exact h2 h
theorem ares_c1 (env : Env) (s : St) (a : Nat) : aresult env s (.cell1 a) = lod1 s (E env a) := by
  unfold E lod1
  simp only [aresult]
  generalize env.getD a .und = v
  cases v <;> first | rfl | (split <;> rfl)
theorem res_cell1 (env : Env) (s : St) (a : Nat) : aresults env s [.cell1 a] = lod1 s (E env a) := by
  simp only [aresults, List.mapM_cons, List.mapM_nil, ares_c1]
  cases lod1 s (E env a) <;> rfl
theorem u8c (n : Nat) (h : n < 256) : IntKind.i64.wrap (n : Int) = (n : Int) := wrapI (by omega) (by omega)

theorem q_pairsR {b : Nat} {w : AV} {l : List PrS} (h2 : s.get b = some (.row [w] true)) (h3 : AM.read prC s w = some l) (hl : l.length ≤ 10000) {m : Int} : ∃ v t, acall (conF prC pPairs) false [.fn 63 [.ptr b 0], .int .i64 m] s = some (v, t) ∧ Own prC s t v (if m < 1 then [] else l.take m.toNat) ∧ Keep s t := by
  have hp : pPairs [.fn 63 [.ptr b 0], .int .i64 m] { heap := s.heap, next := s.next, low := s.next } = some (if m < 1 then [] else l.take m.toNat, none) := by
    show (match s.get b with
      | some (.row [w] true) => match AM.read prC (lowd s) w with
        | some l => if l.length ≤ 10000 then some (if m < 1 then [] else l.take m.toNat, (none : Option AV)) else none
        | none => none
      | _ => none) = _
    rw [h2]
    simp only
    rw [read_low' h3]
    simp only
    rw [if_pos hl]
  obtain ⟨v, t, q1, q2, q3⟩ := acall_fresh (D := prC) hp (fun x hx => by cases hx)
  exact ⟨v, t, q1, q3, q2⟩
theorem q_pairsRF {b : Nat} {w : AV} {l : List PrS} (h2 : s.get b = some (.row [w] true)) (h3 : AM.read prC s w = some l) (hl : l.length ≤ 10000) {m : Int} : ∃ v t, acallF (conF prC pPairs) [.fn 63 [.ptr b 0], .int .i64 m] s = some (v, t) ∧ Own prC s t v (if m < 1 then [] else l.take m.toNat) ∧ Keep s t :=
  acallF_own (q_pairsR (s := lowd s) h2 (read_low' h3) hl)
structure Gt (u t : St) (b16 id : Nat) (q : Option Nat) (d : Bool) (N : List PrS) (q' : Option Nat) (gv : AV) (l : List PrS) : Prop where
  ch : Chg (b16 :: id :: q.toList) u t
  mp : MpR t id q' d N
  qn : ∀ j, q' = some j → q = some j ∨ u.next ≤ j
  srt : SrtD d N
  bx : t.get b16 = some (.row [gv] true)
  own : Own prC u t gv l
  sep : ∀ j, q' = some j → ∀ o n c z, gv ≠ .sl j o n c z
variable {u t2 : St} {b16 : Nat} {N N2 : List PrS} {q' q2 : Option Nat} {gv : AV} {l : List PrS}
theorem Gt.keep (h : Gt u t b16 id q d N q' gv l) (hK : Keep t t2) : Gt u t2 b16 id q d N q' gv l := ⟨h.ch.trans (hK.chg []) (by simp), h.mp.keep hK, h.qn, h.srt, hK.blk h.bx, h.own.mono fun _ _ => hK.blk, h.sep⟩
theorem Gt.chg (h : Gt u t b16 id q d N q' gv l) (hC : Chg (id :: q'.toList) t t2) (hm : MpR t2 id q2 d N2) (hq2 : ∀ j, q2 = some j → q' = some j ∨ t.next ≤ j) (hs : SrtD d N2) : Gt u t2 b16 id q d N2 q2 gv l := by
  obtain ⟨h1, h2⟩ := own_chg h.mp h.own h.sep hC hq2
  refine ⟨h.ch.trans hC fun x hx => ?_, hm, fun j e => ?_, hs, hC.blk h.bx (h.mp.n3 h.bx (.inr rfl)), h1, h2⟩
  · rcases List.mem_cons.1 hx with rfl | hx
    · exact .inl (by simp)
    · cases e : q' with
      | none => rw [e] at hx; simp at hx
      | some j =>
        rw [e] at hx
        simp only [Option.toList_some, List.mem_singleton] at hx
        subst hx
        rcases h.qn x e with e' | e'
        · rw [e']
          exact .inl (by simp)
        · exact .inr e'
  · rcases hq2 j e with e' | e'
    · exact h.qn j e'
    · have := h.ch.next
      exact .inr (by omega)
theorem Gt.app (h : Gt u t b16 id q d N q' gv l) (hib : b16 < u.next) (y : PrS) (hl : l.length < 100000) : ∃ lv' t', appV (t.push (.row (prC.enc y) true)) 2 24 gv (.sl t.next 0 1 (some 1) 2) = some (lv', t') ∧ AM.sto t' 1 (.ptr b16 0) lv' = some (.und, t'.put b16 (.row [lv'] true)) ∧ ltN b16 t' ∧ Gt u (t'.put b16 (.row [lv'] true)) b16 id q d N q' lv' (l ++ [y]) := by
  obtain ⟨lv', t', h1, h2, h3, h4, h5, h6, h7, h8⟩ := box1C h.ch (by simp) hib h.bx h.own (by decide) y 24 (by unfold roomBytes; omega)
  refine ⟨lv', t', h1, h2, h3, h4, h.mp.frame h.bx h.own h.sep h8, h.qn, h.srt, h5, h6, fun j e => h7 j ?_⟩
  have := St.get_lt (h.mp.dat j e).2
  omega
theorem s_OmapIterates : SoundAt Try.prog 3 (lawC Try.prog 8 [4, 22, 3, 5]) :=
  con_keepI (tb_sound (l := [(9, closed [] (.bool true)), (8, R_light), (10, R_made), (11, R_Set), (12, R_RSet), (17, R_Delete), (13, R_All), (14, R_From), (16, conF prC pPairs), (15, R_Same), (18, R_RFrom)]) (by simpa using ⟨s_known, s_light, s_made, s_Set, s_RSet, s_Delete, s_All, s_From, s_pairs, s_Same, s_RFrom⟩)) mixed Try.func3 ki3 ci3 fun args s r s' h => by
    obtain ⟨hh, rfl, rfl⟩ := lawC_some h
    obtain ⟨y1, vl, y3, y4, rfl, k1, k2, k3, k4⟩ := rdas_4 hh
    obtain ⟨d, rfl⟩ := rda_boolK bool_underK k1
    obtain ⟨M, hV⟩ := rda_acts08 k2
    obtain ⟨k, rfl, _⟩ := rda_int int_underK k3
    obtain ⟨tn', rfl, hwf⟩ := rda_int (show Try.prog.underlying 5 = some (.int .u8) by kernel_rfl) k4
    obtain ⟨an, rfl, han⟩ := u8_nat hwf
    refine ⟨rfl, rfl, by simp [ai3], fun env hlen ha => ?_⟩
    have h0 : E env 0 = _ := ha 0 _ rfl
    have h1 : E env 1 = _ := ha 1 _ rfl
    have h2 : E env 2 = _ := ha 2 _ rfl
    have h3 : E env 3 = _ := ha 3 _ rfl
    have hlen : elen env = _ := hlen
    simp only [ai3] at hlen
    unfold ai3
    try dsimp only [oO, oG]
    simp only [res_cell1, ne_eq]
    refine awpI_tail9 (fun e t => ∃ (id rb b7 b8 b9 b16 bq bp : Nat) (q : Option Nat) (L : List PrS) (rv wq wp : AV), elen e = 143 ∧ E e 2 = .int .i64 k ∧ E e 7 = .ptr b7 0 ∧ E e 8 = .ptr b8 0 ∧ E e 9 = .ptr b9 0 ∧ E e 10 = .ptr rb 0 ∧ E e 13 = .fn 63 [.ptr bq 0] ∧ E e 14 = .fn 63 [.ptr bp 0] ∧ E e 16 = .ptr b16 0 ∧ Keep s t ∧ PlM s t rb id q d L rv ∧ L.length ≤ 60 ∧ t.get b7 = some (.row [.int .u8 (an : Int)] true) ∧ t.get b8 = some (.row [.bool false] true) ∧ t.get b9 = some (.row [.ptr id 0] true) ∧ t.get b16 = some (.row [.nils] true) ∧ (b7 ∉ b16 :: id :: q.toList) ∧ (b8 ∉ b16 :: id :: q.toList) ∧ (b9 ∉ b16 :: id :: q.toList) ∧ (rb ∉ b16 :: id :: q.toList) ∧ (rv = .nils ∨ bid rv ∉ b16 :: id :: q.toList) ∧ (wq = .nils ∨ bid wq ∉ b16 :: id :: q.toList) ∧ (wp = .nils ∨ bid wp ∉ b16 :: id :: q.toList) ∧ (bq ∉ b16 :: id :: q.toList) ∧ (bp ∉ b16 :: id :: q.toList) ∧ AM.read prC t wq = some L ∧ AM.read prC t wp = some (L.drop (rkD d L k)) ∧ t.get bq = some (.row [wq] true) ∧ t.get bp = some (.row [wp] true) ∧ s.next ≤ b16 ∧ s.next ≤ b8) ?_ ?_
    · rintro e u ⟨id, rb, b7, b8, b9, b16, bq, bp, q, L, rv, wq, wp, he, e2, e7, e8, e9, e10, e13, e14, e16, hKu, hP, hL60, k7, k8, k9, g16, nb7, nb8, nb9, nrb, nrv, nwq, nwp, nbq, nbp, rdq, rdp, hbqu, hbpu, hs16, hs8⟩
      simp (config := {contextual := true, maxDischargeDepth := 12, maxSteps := 4000000}) only [tb_at, he, e2, e7, e8, e9, e10, e13, e14, e16, notV_bool, Bool.not_true, Bool.not_false, pickV_t, pickV_f, bin_eql, bin_neq, bin_neb, bin_npn, bin_np, bin_npnx, gcall_tt, gpure_tf, beq_self_eq_true, Bool.true_and, Bool.and_true, decide_true, decide_false, ↓bD, bU, forall_const, bS, implies_true, isNx, eq_self, ↓wp_cond, ↓wp_loop, ↓reduceIte, reduceCtorEq, Nat.reduceEqDiff, Nat.reduceLT, Nat.reduceAdd, Nat.reduceMul, bT, ↓sg_bsl, ↓st_callf, bX, ap_mkfn, ap_conv, ↓wi_seq, ↓wi_base, ↓wi_block, ↓wi_cond, ↓wi_loop, ↓wi_rf, ↓wy_seq, ↓wy_base, ↓wy_block, ↓wy_cond, ↓wy_loop, ↓wy_yld, ae_callvV, callvV_fn, List.append_nil, List.cons_append, List.nil_append, bin_nff, bin_nfn, bin_nffx, bin_nfnx, bin_streq, bin_bo_same, lstep_some, ↓st_load1nf, ↓st_loadnf, ↓st_appr, ↓st_appf0, bin_nfls, ap_lens, lensV_str, ↓sg_callf3, gcall_ff, gpure_ff0, q_known, res_cell1]
      refine rf_gen (fun e => elen e = 143 ∧ E e 2 = .int .i64 k ∧ E e 7 = .ptr b7 0 ∧ E e 8 = .ptr b8 0 ∧ E e 9 = .ptr b9 0 ∧ E e 10 = .ptr rb 0 ∧ E e 13 = .fn 63 [.ptr bq 0] ∧ E e 14 = .fn 63 [.ptr bp 0] ∧ E e 16 = .ptr b16 0 ∧ E e 88 = .fn 63 [.ptr bq 0]) ⟨(by simp only [bE, Nat.reduceEqDiff, bN, Nat.reduceLT, he, e2, e7, e8, e9, e10, e13, e14, e16]; try rfl), (by simp only [bE, Nat.reduceEqDiff, bN, Nat.reduceLT, he, e2, e7, e8, e9, e10, e13, e14, e16]; try rfl), (by simp only [bE, Nat.reduceEqDiff, bN, Nat.reduceLT, he, e2, e7, e8, e9, e10, e13, e14, e16]; try rfl), (by simp only [bE, Nat.reduceEqDiff, bN, Nat.reduceLT, he, e2, e7, e8, e9, e10, e13, e14, e16]; try rfl), (by simp only [bE, Nat.reduceEqDiff, bN, Nat.reduceLT, he, e2, e7, e8, e9, e10, e13, e14, e16]; try rfl), (by simp only [bE, Nat.reduceEqDiff, bN, Nat.reduceLT, he, e2, e7, e8, e9, e10, e13, e14, e16]; try rfl), (by simp only [bE, Nat.reduceEqDiff, bN, Nat.reduceLT, he, e2, e7, e8, e9, e10, e13, e14, e16]; try rfl), (by simp only [bE, Nat.reduceEqDiff, bN, Nat.reduceLT, he, e2, e7, e8, e9, e10, e13, e14, e16]; try rfl), (by simp only [bE, Nat.reduceEqDiff, bN, Nat.reduceLT, he, e2, e7, e8, e9, e10, e13, e14, e16]; try rfl), (by simp only [bE, Nat.reduceEqDiff, bN, Nat.reduceLT, he, e2, e7, e8, e9, e10, e13, e14, e16]; try rfl)⟩ ?_
      clear h0 h1 h2 h3 ha hlen he e2 e7 e8 e9 e10 e13 e14 e16
      rintro e0 ⟨he0, x2, x7, x8, x9, x10, x13, x14, x16, x88⟩
      have hib := St.get_lt g16
      refine rf_over (l := L) (by rw [aev_t]; exact x88) (by omega) hbqu (fun i t => ∃ q' N gv, Gt u t b16 id q d N q' gv (L.take i) ∧ N.length ≤ 60 + 2 * i) ⟨q, L, .nils, ⟨.refl _ _, hP.mp, fun j e => .inl e, hP.srt, g16, .nil _ _ _, fun j e o n c z e2 => by cases e2⟩, by omega⟩ (fun i t hJ => by
        obtain ⟨q', N, gv, hG, _⟩ := hJ
        exact read_chg rdq hG.ch nwq) (fun i y t t' hJ hy hKt => ?_) (fun t hJ => ?_)
      · obtain ⟨q', N, gv, hG0, hN⟩ := hJ
        have hil := getlt hy
        have hset : ∀ a c, setPs e0 [89, 90] [a, c] = pE (pE e0 (some 89) a) (some 90) c := fun a c => by unfold pE; rfl
        rw [hset]
        have hG := hG0.keep hKt
        have fs0 := fstep_bw0' (x := .int .i64 y.1) ⟨rfl, rfl⟩ (.int .i64 0) (.str ⟨#[]⟩)
        have fs1 := fstep_bw1' (x := .str y.2) ⟨rfl, rfl⟩ (.int .i64 y.1) (.str ⟨#[]⟩)
        have hbs : bslV [.int .i64 0, .str ⟨#[]⟩] 1 2 [(0, .agg [.int .i64 y.1, .str y.2])] = some (fun id => .sl id 0 1 (some 1) 2, .row [.int .i64 y.1, .str y.2] true) := by
          simp [bslV, fillP, aev, AV.cells, AV.one, setAt]
        obtain ⟨b5, b5l⟩ := row1_lod hG.bx
        obtain ⟨lv', t2, hap, hst, hlt, hG2⟩ := hG.app hib y (by rw [List.length_take]; omega)
        rw [← take_snoc hy] at hG2
        have hap : appV (t'.push (.row [.int .i64 y.1, .str y.2] true)) 2 24 gv (.sl t'.next 0 1 (some 1) 2) = some (lv', t2) := hap
        obtain ⟨t3, ht3⟩ : ∃ t3, t3 = t2.put b16 (.row [lv'] true) := ⟨_, rfl⟩
        rw [← ht3] at hst hG2
        obtain ⟨c5, c5l⟩ := row1_lod hG2.bx
        obtain ⟨c7, c7l⟩ := row1_lod (hG2.ch.blk k7 nb7)
        obtain ⟨c9, c9l⟩ := row1_lod (hG2.ch.blk k9 nb9)
        obtain ⟨r0, r1, rlt⟩ := row2_lod (hG2.ch.blk hP.rb nrb)
        have hLv := lenV_read hG2.own.read
        rw [List.length_take, Nat.min_eq_left (by omega)] at hLv
        have hLr := lenV_read (read_chg hP.own.read hG2.ch nrv)
        have y1 := eq_false (show ¬ (L.length : Int) < ((i + 1 : Nat) : Int) by omega)
        have hwc := u8c an han
        by_cases ca : i + 1 = an
        rotate_left
        · have y2 := eq_false (show ¬ ((i + 1 : Nat) : Int) = (an : Int) by omega)
          simp (config := {contextual := true, maxDischargeDepth := 12, maxSteps := 4000000}) only [tb_at, he0, x2, x7, x8, x9, x10, x13, x14, x16, b5, b5l, ap_build, fillP_nil, fillP_cons, fs0, fs1, hbs, hap, hst, hlt, ← ht3, c5, c5l, c7, c7l, c9, c9l, r1, rlt, hLv, hLr, y1, hwc, y2, notV_bool, Bool.not_true, Bool.not_false, pickV_t, pickV_f, bin_eql, bin_neq, bin_neb, bin_npn, bin_np, bin_npnx, gcall_tt, gpure_tf, beq_self_eq_true, Bool.true_and, Bool.and_true, decide_true, decide_false, ↓bD, bU, forall_const, bS, implies_true, isNx, eq_self, ↓wp_cond, ↓wp_loop, ↓reduceIte, reduceCtorEq, Nat.reduceEqDiff, Nat.reduceLT, Nat.reduceAdd, Nat.reduceMul, bT, ↓sg_bsl, ↓st_callf, bX, ap_mkfn, ap_conv, ↓wi_seq, ↓wi_base, ↓wi_block, ↓wi_cond, ↓wi_loop, ↓wi_rf, ↓wy_seq, ↓wy_base, ↓wy_block, ↓wy_cond, ↓wy_loop, ↓wy_yld, ae_callvV, callvV_fn, List.append_nil, List.cons_append, List.nil_append, bin_nff, bin_nfn, bin_nffx, bin_nfnx, bin_streq, bin_bo_same, lstep_some, ↓st_load1nf, ↓st_loadnf, ↓st_appr, ↓st_appf0, bin_nfls, ap_lens, lensV_str, ↓sg_callf3, gcall_ff, gpure_ff0, q_known, res_cell1]
          exact ⟨q', N, lv', hG2, by omega⟩
        have y2 := eq_true (show ((i + 1 : Nat) : Int) = (an : Int) by omega)
        obtain ⟨t4, qs4, ⟨q4, hm4, hq4⟩, hC4, _⟩ := q_Set hG2.mp hG2.srt y.1 ⟨#[111, 116, 104, 101, 114]⟩ (by omega)
        obtain ⟨va, vb, hab⟩ := atomsG (gtD d N y.1)
        rw [hab] at qs4
        have hG4 := hG2.chg hC4 hm4 hq4 (put_srt hG2.srt _ _)
        have l4 := put_len d N y.1 ⟨#[111, 116, 104, 101, 114]⟩
        obtain ⟨d9, d9l⟩ := row1_lod (hG4.ch.blk k9 nb9)
        obtain ⟨w, hw⟩ : ∃ w, w = IntKind.i64.wrap (y.1 + 1) := ⟨_, rfl⟩
        obtain ⟨t5, qs5, ⟨q5, hm5, hq5⟩, hC5, _⟩ := q_Set hG4.mp hG4.srt w ⟨#[110, 101, 119]⟩ (by omega)
        obtain ⟨vc, vd, hcd⟩ := atomsG (gtD d (putD d N y.1 ⟨#[111, 116, 104, 101, 114]⟩) w)
        rw [hcd] at qs5
        have hG5 := hG4.chg hC5 hm5 hq5 (put_srt hG4.srt _ _)
        have l5 := put_len d (putD d N y.1 ⟨#[111, 116, 104, 101, 114]⟩) w ⟨#[110, 101, 119]⟩
        obtain ⟨f9, f9l⟩ := row1_lod (hG5.ch.blk k9 nb9)
        obtain ⟨f5, f5l⟩ := row1_lod hG5.bx
        obtain ⟨z, hz⟩ := getsome (show 0 < (L.take (i + 1)).length by rw [List.length_take]; omega)
        obtain ⟨i1, _, a1, _, a3⟩ := pr_lods hG5.own.read hz
        have i1 : iadV 2 lv' (.int .i64 0) = some (.ptr (bid lv') (boff lv')) := by simpa using i1
        have a1 : lod1 t5 (.ptr (bid lv') (boff lv')) = some (.int .i64 z.1) := by simpa using a1
        obtain ⟨t6, qs6, ⟨q6, hm6, hq6⟩, hC6⟩ := q_Delete hG5.mp hG5.srt z.1
        have hG6 := hG5.chg hC6 hm6 hq6 (del_srt hG5.srt _)
        have l6 := del_len d (putD d (putD d N y.1 ⟨#[111, 116, 104, 101, 114]⟩) w ⟨#[110, 101, 119]⟩) z.1
        simp (config := {contextual := true, maxDischargeDepth := 12, maxSteps := 4000000}) only [tb_at, he0, x2, x7, x8, x9, x10, x13, x14, x16, b5, b5l, ap_build, fillP_nil, fillP_cons, fs0, fs1, hbs, hap, hst, hlt, ← ht3, c5, c5l, c7, c7l, c9, c9l, r1, rlt, hLv, hLr, y1, hwc, y2, qs4, d9, d9l, ← hw, qs5, f9, f9l, f5, f5l, i1, a1, a3, qs6, reserve0, notV_bool, Bool.not_true, Bool.not_false, pickV_t, pickV_f, bin_eql, bin_neq, bin_neb, bin_npn, bin_np, bin_npnx, gcall_tt, gpure_tf, beq_self_eq_true, Bool.true_and, Bool.and_true, decide_true, decide_false, ↓bD, bU, forall_const, bS, implies_true, isNx, eq_self, ↓wp_cond, ↓wp_loop, ↓reduceIte, reduceCtorEq, Nat.reduceEqDiff, Nat.reduceLT, Nat.reduceAdd, Nat.reduceMul, bT, ↓sg_bsl, ↓st_callf, bX, ap_mkfn, ap_conv, ↓wi_seq, ↓wi_base, ↓wi_block, ↓wi_cond, ↓wi_loop, ↓wi_rf, ↓wy_seq, ↓wy_base, ↓wy_block, ↓wy_cond, ↓wy_loop, ↓wy_yld, ae_callvV, callvV_fn, List.append_nil, List.cons_append, List.nil_append, bin_nff, bin_nfn, bin_nffx, bin_nfnx, bin_streq, bin_bo_same, lstep_some, ↓st_load1nf, ↓st_loadnf, ↓st_appr, ↓st_appf0, bin_nfls, ap_lens, lensV_str, ↓sg_callf3, gcall_ff, gpure_ff0, q_known, res_cell1]
        exact ⟨q6, _, lv', hG6, by omega⟩
      · obtain ⟨q', N, gv, hG, hN⟩ := hJ
        rw [List.take_length] at hG
        have hrv := read_chg hP.own.read hG.ch nrv
        obtain ⟨c5, c5l⟩ := row1_lod hG.bx
        have grb := hG.ch.blk hP.rb nrb
        obtain ⟨r0, r1, rlt⟩ := row2_lod grb
        have q1 := q_Same false hG.own.read hrv (by omega)
        obtain ⟨v1, t1, p1, hO1, hK1⟩ := q_pairsRF (hG.ch.blk hbqu nbq) (read_chg rdq hG.ch nwq) (by omega) (m := 100)
        rw [it_read (f := .nils) hL60] at hO1
        obtain ⟨s0, s1, slt⟩ := row2_lod (hK1.blk grb)
        have q2 := q_Same false hO1.read (hK1.read hrv) (by omega)
        obtain ⟨v2, t2, p2, hO2, hK2⟩ := q_pairsRF (hK1.blk (hG.ch.blk hbpu nbp)) (hK1.read (read_chg rdp hG.ch nwp)) (by rw [List.length_drop]; omega) (m := 100)
        rw [it_read (f := .nils) (by rw [List.length_drop]; omega)] at hO2
        have hK12 := hK1.trans hK2
        have r22 := row2_lod2 (hK12.blk grb)
        have rl2 := St.get_lt (hK12.blk grb)
        obtain ⟨v3, t3, p3, hr3, hK3⟩ := q_RFrom (hK12.read hrv) (by omega) d k
        have q3 := q_Same false (hK3.read hO2.read) hr3 (by rw [List.length_drop]; omega)
        have hKf := hK12.trans hK3
        have g8 := hKf.blk (hG.ch.blk k8 nb8)
        have st8 := row1_sto g8 (x := .bool true) ⟨rfl, rfl⟩
        have lt8 := St.get_lt g8
        have r8 := (row1_lod (St.get_put_same (b := .row [.bool true] true) g8)).1
        have hKs : Keep s (t3.put b8 (.row [.bool true] true)) := by
          refine Keep.put (Keep.trans (hKu.chgn hG.ch fun x hx => ?_) hKf) _ hs8 lt8
          rcases List.mem_cons.1 hx with rfl | hx
          · exact hs16
          · rcases List.mem_cons.1 hx with rfl | hx
            · exact hP.hid
            · cases e : q with
              | none => rw [e] at hx; simp at hx
              | some j =>
                rw [e] at hx
                simp only [Option.toList_some, List.mem_singleton] at hx
                subst hx
                exact hP.hq x e
        simp (config := {contextual := true, maxDischargeDepth := 12, maxSteps := 4000000}) only [tb_at, he0, x2, x7, x8, x9, x10, x13, x14, x16, c5, c5l, r1, rlt, q1, p1, s1, slt, q2, p2, r22, rl2, p3, q3, st8, lt8, r8, reserve0, notV_bool, Bool.not_true, Bool.not_false, pickV_t, pickV_f, bin_eql, bin_neq, bin_neb, bin_npn, bin_np, bin_npnx, gcall_tt, gpure_tf, beq_self_eq_true, Bool.true_and, Bool.and_true, decide_true, decide_false, ↓bD, bU, forall_const, bS, implies_true, isNx, eq_self, ↓wp_cond, ↓wp_loop, ↓reduceIte, reduceCtorEq, Nat.reduceEqDiff, Nat.reduceLT, Nat.reduceAdd, Nat.reduceMul, bT, ↓sg_bsl, ↓st_callf, bX, ap_mkfn, ap_conv, ↓wi_seq, ↓wi_base, ↓wi_block, ↓wi_cond, ↓wi_loop, ↓wi_rf, ↓wy_seq, ↓wy_base, ↓wy_block, ↓wy_cond, ↓wy_loop, ↓wy_yld, ae_callvV, callvV_fn, List.append_nil, List.cons_append, List.nil_append, bin_nff, bin_nfn, bin_nffx, bin_nfnx, bin_streq, bin_bo_same, lstep_some, ↓st_load1nf, ↓st_loadnf, ↓st_appr, ↓st_appf0, bin_nfls, ap_lens, lensV_str, ↓sg_callf3, gcall_ff, gpure_ff0, q_known, res_cell1]
        all_goals first | exact hKs | skip
    intro Y hY
    have hM := lenV_read hV
    have hbx : boxV 1 (.int .u8 (an : Int)) = some (fun id => .ptr id 0, .row [.int .u8 (an : Int)] true) := rfl
    have n1 : (s.push (.row [.int .u8 (an : Int)] true)).next = s.next + 1 := rfl
    obtain ⟨s2, hs2⟩ : ∃ s2, s2 = (s.push (.row [.int .u8 (an : Int)] true)).push (.row [.bool false] true) := ⟨_, rfl⟩
    have g7 : s2.get s.next = some (.row [.int .u8 (an : Int)] true) := by rw [hs2]; exact get_push_some _ (St.get_push_new s _)
    have g8 : s2.get (s.next + 1) = some (.row [.bool false] true) := by rw [hs2]; exact St.get_push_new (s.push (.row [.int .u8 (an : Int)] true)) _
    have hKs2 : Keep s s2 := by rw [hs2]; exact ((Keep.refl s).push _).push _
    obtain ⟨b7, hb7⟩ : ∃ b7, b7 = s.next := ⟨_, rfl⟩
    obtain ⟨b8, hb8⟩ : ∃ b8, b8 = b7 + 1 := ⟨_, rfl⟩
    rw [← hb7] at g7
    rw [← hb7, ← hb8] at g8
    have qli := q_light false (hKs2.read hV)
    have st8 := row1_sto g8 (x := .bool true) ⟨rfl, rfl⟩
    have lt8 := St.get_lt g8
    have hKf8 : Keep s (s2.put b8 (.row [.bool true] true)) := hKs2.put _ (by omega) lt8
    have r8 : lod1 (s2.put b8 (.row [.bool true] true)) (.ptr b8 0) = some (.bool true) := (row1_lod (St.get_put_same g8)).1
    by_cases hgo : ltA M = true ∧ ¬ 4611686018427387904 < k ∧ ¬ k < -4611686018427387904
    rotate_left
    · have hgo' : ltA M = false ∨ 4611686018427387904 < k ∨ k < -4611686018427387904 := by
        cases h : ltA M
        · exact .inl rfl
        · by_cases h2 : 4611686018427387904 < k
          · exact .inr (.inl h2)
          · by_cases h3 : k < -4611686018427387904
            · exact .inr (.inr h3)
            · exact absurd ⟨h, h2, h3⟩ hgo
      by_cases c1 : ltA M = true
      · rw [c1] at qli hgo'
        by_cases c2 : 4611686018427387904 < k
        · have z2 := eq_true c2
          simp (config := {contextual := true, maxDischargeDepth := 12, maxSteps := 4000000}) only [tb_at, h0, h1, h2, h3, hlen, hbx, n1, ← hs2, ← hb7, ← hb8, qli, z2, st8, lt8, r8, notV_bool, Bool.not_true, Bool.not_false, pickV_t, pickV_f, bin_eql, bin_neq, bin_neb, bin_npn, bin_np, bin_npnx, gcall_tt, gpure_tf, beq_self_eq_true, Bool.true_and, Bool.and_true, decide_true, decide_false, ↓bD, bU, forall_const, bS, implies_true, isNx, eq_self, ↓wp_cond, ↓wp_loop, ↓reduceIte, reduceCtorEq, Nat.reduceEqDiff, Nat.reduceLT, Nat.reduceAdd, Nat.reduceMul, bT, ↓sg_bsl, ↓st_callf, bX, ap_mkfn, ap_conv, ↓wi_seq, ↓wi_base, ↓wi_block, ↓wi_cond, ↓wi_loop, ↓wi_rf, ↓wy_seq, ↓wy_base, ↓wy_block, ↓wy_cond, ↓wy_loop, ↓wy_yld, ae_callvV, callvV_fn, List.append_nil, List.cons_append, List.nil_append, bin_nff, bin_nfn, bin_nffx, bin_nfnx, bin_streq, bin_bo_same, lstep_some, ↓st_load1nf, ↓st_loadnf, ↓st_appr, ↓st_appf0, bin_nfls, ap_lens, lensV_str, ↓sg_callf3, gcall_ff, gpure_ff0, q_known, res_cell1]
          all_goals first | exact hKf8 | skip
        · have z2 := eq_false c2
          have z3 := eq_true (show k < -4611686018427387904 by rcases hgo' with h | h | h; cases h; exact absurd h c2; exact h)
          simp (config := {contextual := true, maxDischargeDepth := 12, maxSteps := 4000000}) only [tb_at, h0, h1, h2, h3, hlen, hbx, n1, ← hs2, ← hb7, ← hb8, qli, z2, z3, st8, lt8, r8, notV_bool, Bool.not_true, Bool.not_false, pickV_t, pickV_f, bin_eql, bin_neq, bin_neb, bin_npn, bin_np, bin_npnx, gcall_tt, gpure_tf, beq_self_eq_true, Bool.true_and, Bool.and_true, decide_true, decide_false, ↓bD, bU, forall_const, bS, implies_true, isNx, eq_self, ↓wp_cond, ↓wp_loop, ↓reduceIte, reduceCtorEq, Nat.reduceEqDiff, Nat.reduceLT, Nat.reduceAdd, Nat.reduceMul, bT, ↓sg_bsl, ↓st_callf, bX, ap_mkfn, ap_conv, ↓wi_seq, ↓wi_base, ↓wi_block, ↓wi_cond, ↓wi_loop, ↓wi_rf, ↓wy_seq, ↓wy_base, ↓wy_block, ↓wy_cond, ↓wy_loop, ↓wy_yld, ae_callvV, callvV_fn, List.append_nil, List.cons_append, List.nil_append, bin_nff, bin_nfn, bin_nffx, bin_nfnx, bin_streq, bin_bo_same, lstep_some, ↓st_load1nf, ↓st_loadnf, ↓st_appr, ↓st_appf0, bin_nfls, ap_lens, lensV_str, ↓sg_callf3, gcall_ff, gpure_ff0, q_known, res_cell1]
          all_goals first | exact hKf8 | skip
      · have c1 : ltA M = false := by simpa using c1
        rw [c1] at qli
        simp (config := {contextual := true, maxDischargeDepth := 12, maxSteps := 4000000}) only [tb_at, h0, h1, h2, h3, hlen, hbx, n1, ← hs2, ← hb7, ← hb8, qli, st8, lt8, r8, notV_bool, Bool.not_true, Bool.not_false, pickV_t, pickV_f, bin_eql, bin_neq, bin_neb, bin_npn, bin_np, bin_npnx, gcall_tt, gpure_tf, beq_self_eq_true, Bool.true_and, Bool.and_true, decide_true, decide_false, ↓bD, bU, forall_const, bS, implies_true, isNx, eq_self, ↓wp_cond, ↓wp_loop, ↓reduceIte, reduceCtorEq, Nat.reduceEqDiff, Nat.reduceLT, Nat.reduceAdd, Nat.reduceMul, bT, ↓sg_bsl, ↓st_callf, bX, ap_mkfn, ap_conv, ↓wi_seq, ↓wi_base, ↓wi_block, ↓wi_cond, ↓wi_loop, ↓wi_rf, ↓wy_seq, ↓wy_base, ↓wy_block, ↓wy_cond, ↓wy_loop, ↓wy_yld, ae_callvV, callvV_fn, List.append_nil, List.cons_append, List.nil_append, bin_nff, bin_nfn, bin_nffx, bin_nfnx, bin_streq, bin_bo_same, lstep_some, ↓st_load1nf, ↓st_loadnf, ↓st_appr, ↓st_appf0, bin_nfls, ap_lens, lensV_str, ↓sg_callf3, gcall_ff, gpure_ff0, q_known, res_cell1]
        all_goals first | exact hKf8 | skip
    obtain ⟨hlt, hk1, hk2⟩ := hgo
    have z2 := eq_false hk1
    have z3 := eq_false hk2
    rw [hlt] at qli
    obtain ⟨hM60, hMk⟩ := ltA_true hlt
    obtain ⟨id, t1, qm, hi0, hm0, hK1⟩ := q_made (s := s2) d
    have m1 : (t1.push (.row [.nilp] true)).next = t1.next + 1 := rfl
    obtain ⟨t2, ht2⟩ : ∃ t2, t2 = (t1.push (.row [.nilp] true)).push (.row [.bool false, .nils] true) := ⟨_, rfl⟩
    have g9 : t2.get t1.next = some (.row [.nilp] true) := by rw [ht2]; exact get_push_some _ (St.get_push_new t1 _)
    have g10 : t2.get (t1.next + 1) = some (.row [.bool false, .nils] true) := by rw [ht2]; exact St.get_push_new (t1.push (.row [.nilp] true)) _
    have hK12 : Keep t1 t2 := by rw [ht2]; exact ((Keep.refl t1).push _).push _
    obtain ⟨b9, hb9⟩ : ∃ b9, b9 = t1.next := ⟨_, rfl⟩
    obtain ⟨rb, hrb⟩ : ∃ rb, rb = b9 + 1 := ⟨_, rfl⟩
    rw [← hb9] at g9
    rw [← hb9, ← hrb] at g10
    have st9 := row1_sto g9 (x := .ptr id 0) ⟨rfl, rfl⟩
    have lt9 := St.get_lt g9
    obtain ⟨t3, ht3⟩ : ∃ t3, t3 = t2.put b9 (.row [.ptr id 0] true) := ⟨_, rfl⟩
    have g9' : t3.get b9 = some (.row [.ptr id 0] true) := by rw [ht3]; exact St.get_put_same g9
    have g10' : t3.get rb = some (.row [.bool false, .nils] true) := by rw [ht3, St.get_put_ne _ _ lt9 (by omega)]; exact g10
    have hK13 : Keep t1 t3 := by rw [ht3]; exact hK12.put _ (by omega) lt9
    rw [← ht3] at st9
    have fs0 := fstep_bw0' (x := .bool d) ⟨rfl, rfl⟩ (.bool false) .nils
    have st10 := row2_sto2 g10' (x := .bool d) (y := .nils) rfl rfl
    have lt10 := St.get_lt g10'
    obtain ⟨t4, ht4⟩ : ∃ t4, t4 = t3.put rb (.row [.bool d, .nils] true) := ⟨_, rfl⟩
    have f10 : t4.get rb = some (.row [.bool d, .nils] true) := by rw [ht4]; exact St.get_put_same g10'
    have f9 : t4.get b9 = some (.row [.ptr id 0] true) := by rw [ht4, St.get_put_ne _ _ lt10 (by omega)]; exact g9'
    have hK14 : Keep t1 t4 := by rw [ht4]; exact hK13.put _ (by omega) lt10
    rw [← ht4] at st10
    have hKs4 := (hKs2.trans hK1).trans hK14
    have f7 := (hK1.trans hK14).blk g7
    have f8 := (hK1.trans hK14).blk g8
    obtain ⟨l9, l9t⟩ := row1_lod f9
    have hsid : s.next ≤ id := by have := hKs2.next; omega
    have hs1 : s.next ≤ t1.next := (hKs2.trans hK1).next
    have hsrb : s.next ≤ rb := by omega
    have hP0 : PlM s t4 rb id none d [] .nils := ⟨hm0.keep hK14, hsid, (fun j e => by cases e), f10, .nil _ _ _, (fun j e => by cases e), List.Pairwise.nil⟩
    simp (config := {contextual := true, maxDischargeDepth := 12, maxSteps := 4000000}) only [tb_at, h0, h1, h2, h3, hlen, hbx, n1, ← hs2, ← hb7, ← hb8, qli, z2, z3, qm, m1, ← ht2, ← hb9, ← hrb, ap_build, fillP_nil, fillP_cons, fs0, st9, lt9, st10, lt10, l9, l9t, bin_np, hM, notV_bool, Bool.not_true, Bool.not_false, pickV_t, pickV_f, bin_eql, bin_neq, bin_neb, bin_npn, bin_np, bin_npnx, gcall_tt, gpure_tf, beq_self_eq_true, Bool.true_and, Bool.and_true, decide_true, decide_false, ↓bD, bU, forall_const, bS, implies_true, isNx, eq_self, ↓wp_cond, ↓wp_loop, ↓reduceIte, reduceCtorEq, Nat.reduceEqDiff, Nat.reduceLT, Nat.reduceAdd, Nat.reduceMul, bT, ↓sg_bsl, ↓st_callf, bX, ap_mkfn, ap_conv, ↓wi_seq, ↓wi_base, ↓wi_block, ↓wi_cond, ↓wi_loop, ↓wi_rf, ↓wy_seq, ↓wy_base, ↓wy_block, ↓wy_cond, ↓wy_loop, ↓wy_yld, ae_callvV, callvV_fn, List.append_nil, List.cons_append, List.nil_append, bin_nff, bin_nfn, bin_nffx, bin_nfnx, bin_streq, bin_bo_same, lstep_some, ↓st_load1nf, ↓st_loadnf, ↓st_appr, ↓st_appf0, bin_nfls, ap_lens, lensV_str, ↓sg_callf3, gcall_ff, gpure_ff0, q_known, res_cell1]
    obtain ⟨I, hI⟩ : ∃ I : Nat → Env → St → Prop, ∀ n e t, I n e t = (Keep s t ∧ ∃ (i : Nat) (q : Option Nat) (L : List PrS) (rv : AV), n + i = M.length ∧ elen e = 143 ∧ E e 2 = .int .i64 k ∧ E e 7 = .ptr b7 0 ∧ E e 8 = .ptr b8 0 ∧ E e 9 = .ptr b9 0 ∧ E e 10 = .ptr rb 0 ∧ E e 37 = vl ∧ E e 38 = .int .i64 (M.length : Int) ∧ E e 39 = .int .i64 (i : Int) ∧ PlM s t rb id q d L rv ∧ L.length ≤ i ∧ t.get b7 = some (.row [.int .u8 (an : Int)] true) ∧ t.get b8 = some (.row [.bool false] true) ∧ t.get b9 = some (.row [.ptr id 0] true)) := ⟨fun n e t => (Keep s t ∧ ∃ (i : Nat) (q : Option Nat) (L : List PrS) (rv : AV), n + i = M.length ∧ elen e = 143 ∧ E e 2 = .int .i64 k ∧ E e 7 = .ptr b7 0 ∧ E e 8 = .ptr b8 0 ∧ E e 9 = .ptr b9 0 ∧ E e 10 = .ptr rb 0 ∧ E e 37 = vl ∧ E e 38 = .int .i64 (M.length : Int) ∧ E e 39 = .int .i64 (i : Int) ∧ PlM s t rb id q d L rv ∧ L.length ≤ i ∧ t.get b7 = some (.row [.int .u8 (an : Int)] true) ∧ t.get b8 = some (.row [.bool false] true) ∧ t.get b9 = some (.row [.ptr id 0] true)), fun _ _ _ => rfl⟩
    refine lwp_inv I (n := M.length) ?_ ?_
    · rw [hI]
      exact ⟨hKs4, 0, none, [], .nils, by omega, (by simp only [bE, Nat.reduceEqDiff, bN, Nat.reduceLT, hlen]; try rfl), (by simp only [bE, Nat.reduceEqDiff, bN, Nat.reduceLT, hlen, h2]; try rfl), (by simp only [bE, Nat.reduceEqDiff, bN, Nat.reduceLT, hlen]; try rfl), (by simp only [bE, Nat.reduceEqDiff, bN, Nat.reduceLT, hlen]; try rfl), (by simp only [bE, Nat.reduceEqDiff, bN, Nat.reduceLT, hlen]; try rfl), (by simp only [bE, Nat.reduceEqDiff, bN, Nat.reduceLT, hlen]; try rfl), (by simp only [bE, Nat.reduceEqDiff, bN, Nat.reduceLT, hlen, h1]; try rfl), (by simp only [bE, Nat.reduceEqDiff, bN, Nat.reduceLT, hlen]; try rfl), (by simp only [bE, Nat.reduceEqDiff, bN, Nat.reduceLT, hlen]; try rfl), hP0, Nat.le_refl _, f7, f8, f9⟩
    clear h0 h1 h2 h3 hlen ha qli qm hP0 f7 f8 f9 f10 g7 g8 g9 g10 g9' g10' st9 st10 st8 lt8 lt9 lt10 l9 l9t r8 hKf8
    intro n e t hi
    rw [hI] at hi
    obtain ⟨hK, i, q, L, rv, hni, he, e2, e7, e8, e9, e10, e37, e38, e39, hP, hLi, g7, g8, g9⟩ := hi
    by_cases hlt : i < M.length
    · have y1 := eq_true (show (i : Int) < (M.length : Int) by omega)
      have hw2 := wrap_add1 (n := i) (by omega)
      obtain ⟨ac, hac⟩ := getsome hlt
      obtain ⟨i1, i2, _, _, _, i3⟩ := ac_lods (hK.read hV) hac
      have st3 := sto_z3 (m := t.next) (t := t) rfl (a := .int .i64 ac.1) (b := .int .i64 ac.2.1) (c := .str ac.2.2) rfl rfl rfl [.int .i64 0, .int .i64 0, .str ⟨#[]⟩] rfl
      obtain ⟨tb, htb⟩ : ∃ tb, tb = t.lowed.push (.row [.int .i64 ac.1, .int .i64 ac.2.1, .str ac.2.2] true) := ⟨_, rfl⟩
      have hKb : Keep t tb := by rw [htb]; exact (keep_lowed t).push _
      have gb : tb.get t.next = some (.row [.int .i64 ac.1, .int .i64 ac.2.1, .str ac.2.2] true) := by rw [htb]; exact St.get_push_new t.lowed _
      rw [← htb] at st3
      obtain ⟨bx, hbx'⟩ : ∃ bx, bx = t.next := ⟨_, rfl⟩
      rw [← hbx'] at gb st3
      have lbx : ltN bx (t.push (.row [.int .i64 0, .int .i64 0, .str ⟨#[]⟩] true)) := by rw [hbx']; show t.next < t.next + 1; omega
      obtain ⟨a0, a1, a2, alt⟩ := row3_lod gb
      have hKsb := hK.trans hKb
      have hPb := hP.keep hKb
      obtain ⟨l9, l9t⟩ := row1_lod (hKb.blk g9)
      obtain ⟨tc, qs, ⟨q', hm', hq'⟩, hC, _⟩ := q_Set hPb.mp hPb.srt ac.2.1 ac.2.2 (by omega)
      obtain ⟨va, vb, hab⟩ := atomsG (gtD d L ac.2.1)
      rw [hab] at qs
      obtain ⟨grb, hOc, hsep, hqs⟩ := hPb.chg hC hq'
      have hsr' := put_srt hPb.srt ac.2.1 ac.2.2
      have hKsc := chg_keep hKsb hPb.hid hPb.hq hC
      have gbc := hC.blk gb (hPb.mp.n3 gb (.inl rfl))
      obtain ⟨c0, c1, c2, clt⟩ := row3_lod gbc
      have r3 := row2_lod2 grb
      have rlt3 := St.get_lt grb
      obtain ⟨rv', td, qrs, hOd, hKd⟩ := q_RSet hOc.read (by omega) d ac.2.1 ac.2.2
      rw [putR_put hPb.srt] at hOd
      have st4 := row2_sto2 (hKd.blk grb) (x := .bool d) (y := rv') rfl (own_one1 hOd).2
      have lt4 := St.get_lt (hKd.blk grb)
      obtain ⟨te, hte⟩ : ∃ te, te = td.put rb (.row [.bool d, rv'] true) := ⟨_, rfl⟩
      obtain ⟨hPe, hKe⟩ := PlM.next (s := s) hm' hPb.hid (fun j e => (hqs j e).1) grb hKsc.next hOd hKd hsr' hte hsrb (hKsc.trans hKd)
      rw [← hte] at st4
      have hle := put_len d L ac.2.1 ac.2.2
      have stay : ∀ (x : Nat) (w : AV), t.get x = some (.row [w] true) → te.get x = some (.row [w] true) := fun x w hx => by
        have h1 := hKb.blk hx
        have h2 := hKd.blk (hC.blk h1 (hPb.mp.n3 h1 (.inr rfl)))
        rw [hte, St.get_put_ne _ _ lt4 fun e => by
          rw [e, hKd.blk grb] at h2
          injection h2 with h2
          injection h2 with h2 _
          cases h2]
        exact h2
      simp (config := {contextual := true, maxDischargeDepth := 12, maxSteps := 4000000}) only [tb_at, he, e2, e7, e8, e9, e10, e37, e38, e39, ← hbx', hM, y1, hw2, i1, i2, i3, st3, lbx, a0, a1, a2, alt, l9, l9t, qs, c0, c1, c2, clt, r3, rlt3, qrs, st4, lt4, notV_bool, Bool.not_true, Bool.not_false, pickV_t, pickV_f, bin_eql, bin_neq, bin_neb, bin_npn, bin_np, bin_npnx, gcall_tt, gpure_tf, beq_self_eq_true, Bool.true_and, Bool.and_true, decide_true, decide_false, ↓bD, bU, forall_const, bS, implies_true, isNx, eq_self, ↓wp_cond, ↓wp_loop, ↓reduceIte, reduceCtorEq, Nat.reduceEqDiff, Nat.reduceLT, Nat.reduceAdd, Nat.reduceMul, bT, ↓sg_bsl, ↓st_callf, bX, ap_mkfn, ap_conv, ↓wi_seq, ↓wi_base, ↓wi_block, ↓wi_cond, ↓wi_loop, ↓wi_rf, ↓wy_seq, ↓wy_base, ↓wy_block, ↓wy_cond, ↓wy_loop, ↓wy_yld, ae_callvV, callvV_fn, List.append_nil, List.cons_append, List.nil_append, bin_nff, bin_nfn, bin_nffx, bin_nfnx, bin_streq, bin_bo_same, lstep_some, ↓st_load1nf, ↓st_loadnf, ↓st_appr, ↓st_appf0, bin_nfls, ap_lens, lensV_str, ↓sg_callf3, gcall_ff, gpure_ff0, q_known, res_cell1]
      refine ⟨n - 1, by omega, ?_⟩
      rw [hI]
      exact ⟨hKe, i + 1, q', _, rv', by omega, (by simp only [bE, Nat.reduceEqDiff, bN, Nat.reduceLT, he, e2, e7, e8, e9, e10, e37, e38, e39]; try rfl), (by simp only [bE, Nat.reduceEqDiff, bN, Nat.reduceLT, he, e2, e7, e8, e9, e10, e37, e38, e39]; try rfl), (by simp only [bE, Nat.reduceEqDiff, bN, Nat.reduceLT, he, e2, e7, e8, e9, e10, e37, e38, e39]; try rfl), (by simp only [bE, Nat.reduceEqDiff, bN, Nat.reduceLT, he, e2, e7, e8, e9, e10, e37, e38, e39]; try rfl), (by simp only [bE, Nat.reduceEqDiff, bN, Nat.reduceLT, he, e2, e7, e8, e9, e10, e37, e38, e39]; try rfl), (by simp only [bE, Nat.reduceEqDiff, bN, Nat.reduceLT, he, e2, e7, e8, e9, e10, e37, e38, e39]; try rfl), (by simp only [bE, Nat.reduceEqDiff, bN, Nat.reduceLT, he, e2, e7, e8, e9, e10, e37, e38, e39]; try rfl), (by simp only [bE, Nat.reduceEqDiff, bN, Nat.reduceLT, he, e2, e7, e8, e9, e10, e37, e38, e39]; try rfl), (by simp only [bE, Nat.reduceEqDiff, bN, Nat.reduceLT, he, e2, e7, e8, e9, e10, e37, e38, e39]; try rfl), hPe, by omega, stay _ _ g7, stay _ _ g8, stay _ _ g9⟩
    have y1 := eq_false (show ¬ (i : Int) < (M.length : Int) by omega)
    have hL60 : L.length ≤ 60 := by omega
    clear hni hLi
    obtain ⟨l7, l7t⟩ := row1_lod g7
    obtain ⟨l9, l9t⟩ := row1_lod g9
    obtain ⟨w1, t5, qA, hI1, hKA⟩ := acallF_it (q_All (s := lowd t) hP.mp.low)
    obtain ⟨l9', l9t'⟩ := row1_lod (hKA.blk g9)
    obtain ⟨w2, t6, qF, hI2, hKF⟩ := q_From (hP.mp.keep hKA) hP.srt k
    have hKAF := hKA.trans hKF
    have hP6 := hP.keep hKAF
    have h7b := hKAF.blk g7
    have hLr := lenV_read hP6.own.read
    obtain ⟨m7, m7t⟩ := row1_lod h7b
    obtain ⟨r0, r1, rlt⟩ := row2_lod hP6.rb
    have hwc := u8c an han
    obtain ⟨f, hf⟩ : ∃ f, f = min an L.length := ⟨_, rfl⟩
    have hmin : min (an : Int) (L.length : Int) = (f : Int) := by omega
    obtain ⟨bq, wq, rfl, hbq0, hbq1, hwq, hwq2⟩ := hI1
    obtain ⟨bp, wp, rfl, hbp0, hbp1, hwp, hwp2⟩ := hI2
    have hIA : ItR t t6 (.fn 63 [.ptr bq 0]) L := ItR.keep ⟨bq, wq, rfl, hbq0, hbq1, hwq, hwq2⟩ hKF
    have hIF : ItR t5 t6 (.fn 63 [.ptr bp 0]) (L.drop (rkD d L k)) := ⟨bp, wp, rfl, hbp0, hbp1, hwp, hwp2⟩
    have hKs6 := hK.trans hKAF
    -- the first few
    obtain ⟨u0, hu0, hKu0, few⟩ : ∃ u0, u0 = u0 ∧ Keep t6 u0 ∧ ((f = 0 ∧ u0 = t6) ∨ (0 < f ∧ ∃ v v', acallF (conF prC pPairs) [.fn 63 [.ptr bq 0], .int .i64 (f : Int)] t6 = some (v, u0) ∧ slcV 2 rv none (some (.int .i64 (f : Int))) = some v' ∧ ∀ (cl : Bool) (own : Bool), acall R_Same cl [v, v'] u0 = some (.bool true, u0))) := by
      by_cases h0 : f = 0
      · exact ⟨t6, rfl, .refl _, .inl ⟨h0, rfl⟩⟩
      · obtain ⟨v, u0, p1, p2, p3⟩ := q_pairsF hIA (by omega) (m := (f : Int))
        rw [if_neg (by omega), Int.toNat_natCast] at p2
        obtain ⟨v', sl1, rd1⟩ := slc_hi (C := prC) hP6.own.read (fun id off n c z e => by
          rcases hP6.own with ⟨e', _⟩ | ⟨j, e', _⟩ <;> rw [e'] at e <;> cases e) (k := .i64) (i := (f : Int)) rfl (show f ≤ L.length by omega)
        rw [prC_sz] at sl1
        exact ⟨u0, rfl, p3, .inr ⟨by omega, v, v', p1, sl1, fun cl _ => q_Same cl p2.read (rd1 _ p3) (by rw [List.length_take]; omega)⟩⟩
    obtain ⟨u, hu⟩ : ∃ u, u = u0.push (.row [.nils] true) := ⟨_, rfl⟩
    obtain ⟨b16, hb16⟩ : ∃ b16, b16 = u0.next := ⟨_, rfl⟩
    have hKu : Keep t6 u := by rw [hu]; exact hKu0.push _
    have g16 : u.get b16 = some (.row [.nils] true) := by rw [hu, hb16]; exact St.get_push_new u0 _
    have hPu := hP6.keep hKu
    have hun : b16 < u.next := St.get_lt g16
    have hKsu := hKs6.trans hKu
    have hIAu := hIA.keep hKu
    have hIFu := hIF.keep hKu
    have k7 := hKu.blk h7b
    have k8 := (hKAF.trans hKu).blk g8
    have k9 := (hKAF.trans hKu).blk g9
    have h6b : t6.next ≤ b16 := by rw [hb16]; exact hKu0.next
    have old : ∀ x b, t6.get x = some b → x ≠ b16 := fun x b h => by have := St.get_lt h; omega
    have nb7 : b7 ∉ b16 :: id :: q.toList := mem_b (old _ _ h7b) (hPu.mp.n3 k7 (.inr rfl))
    have nb8 : b8 ∉ b16 :: id :: q.toList := mem_b (old _ _ (hKAF.blk g8)) (hPu.mp.n3 k8 (.inr rfl))
    have nb9 : b9 ∉ b16 :: id :: q.toList := mem_b (old _ _ (hKAF.blk g9)) (hPu.mp.n3 k9 (.inr rfl))
    have nrb : rb ∉ b16 :: id :: q.toList := mem_b (old _ _ hP6.rb) (hPu.mp.nb hPu.rb)
    have nrv : rv = .nils ∨ bid rv ∉ b16 :: id :: q.toList := by
      rcases hP6.own with ⟨e, _⟩ | ⟨j, e, q1, q2, q3⟩
      · exact .inl e
      · refine .inr ?_
        rw [e]
        refine mem_b (old _ _ q3) fun hm => ?_
        have q3u := hKu.blk q3
        rcases List.mem_cons.1 hm with e' | hm
        · exact own_nmp hPu.mp hPu.own 0 L.length none 2 (by rw [e, ← e']; rfl)
        · cases hq : q with
          | none => rw [hq] at hm; simp at hm
          | some j0 =>
            rw [hq] at hm
            simp only [Option.toList_some, List.mem_singleton] at hm
            exact hPu.sep j0 hq 0 L.length none 2 (by rw [e, ← hm]; rfl)
    have hqt : ∀ x, t.next ≤ x → x ∉ id :: q.toList := fun x hx hm => by
      rcases List.mem_cons.1 hm with e' | hm
      · have := St.get_lt hP.mp.box
        omega
      · cases hq : q with
        | none => rw [hq] at hm; simp at hm
        | some j0 =>
          rw [hq] at hm
          simp only [Option.toList_some, List.mem_singleton] at hm
          have := St.get_lt (hP.mp.dat j0 hq).2
          omega
    have hnA := hKA.next
    have nwq : wq = .nils ∨ bid wq ∉ b16 :: id :: q.toList := by
      rcases hwq with ⟨e, _⟩ | ⟨j, cap, e, q1, q2⟩
      · exact .inl e
      · refine .inr ?_
        rw [e]
        exact mem_b (old _ _ (hKF.blk q2)) (hqt _ q1)
    have nwp : wp = .nils ∨ bid wp ∉ b16 :: id :: q.toList := by
      rcases hwp with ⟨e, _⟩ | ⟨j, cap, e, q1, q2⟩
      · exact .inl e
      · refine .inr ?_
        rw [e]
        exact mem_b (old _ _ q2) (hqt _ (by show t.next ≤ j; omega))
    have nbq : bq ∉ b16 :: id :: q.toList := mem_b (old _ _ (hKF.blk hbq1)) (hqt _ hbq0)
    have nbp : bp ∉ b16 :: id :: q.toList := mem_b (old _ _ hbp1) (hqt _ (by omega))
    have rdq : AM.read prC u wq = some L := (hwq.mono fun _ _ => (hKF.trans hKu).blk).rd
    have rdp : AM.read prC u wp = some (L.drop (rkD d L k)) := (hwp.mono fun _ _ => hKu.blk).rd
    have hbqu : u.get bq = some (.row [wq] true) := (hKF.trans hKu).blk hbq1
    have hbpu : u.get bp = some (.row [wp] true) := hKu.blk hbp1
    have hs16 : s.next ≤ b16 := by have := hKs6.next; omega
    have hs8 : s.next ≤ b8 := by omega
    rcases few with ⟨hf0, rfl⟩ | ⟨hf0, v, v', p1, sl1, p4⟩
    · have zf := eq_false (show ¬ (0 : Int) < (f : Int) by omega)
      simp (config := {contextual := true, maxDischargeDepth := 12, maxSteps := 4000000}) only [tb_at, he, e2, e7, e8, e9, e10, e37, e38, e39, hM, y1, l9, l9t, qA, l9', l9t', qF, reserve0, m7, m7t, hwc, r0, r1, rlt, hLr, mmV_min, hmin, zf, ← hu, ← hb16, notV_bool, Bool.not_true, Bool.not_false, pickV_t, pickV_f, bin_eql, bin_neq, bin_neb, bin_npn, bin_np, bin_npnx, gcall_tt, gpure_tf, beq_self_eq_true, Bool.true_and, Bool.and_true, decide_true, decide_false, ↓bD, bU, forall_const, bS, implies_true, isNx, eq_self, ↓wp_cond, ↓wp_loop, ↓reduceIte, reduceCtorEq, Nat.reduceEqDiff, Nat.reduceLT, Nat.reduceAdd, Nat.reduceMul, bT, ↓sg_bsl, ↓st_callf, bX, ap_mkfn, ap_conv, ↓wi_seq, ↓wi_base, ↓wi_block, ↓wi_cond, ↓wi_loop, ↓wi_rf, ↓wy_seq, ↓wy_base, ↓wy_block, ↓wy_cond, ↓wy_loop, ↓wy_yld, ae_callvV, callvV_fn, List.append_nil, List.cons_append, List.nil_append, bin_nff, bin_nfn, bin_nffx, bin_nfnx, bin_streq, bin_bo_same, lstep_some, ↓st_load1nf, ↓st_loadnf, ↓st_appr, ↓st_appf0, bin_nfls, ap_lens, lensV_str, ↓sg_callf3, gcall_ff, gpure_ff0, q_known, res_cell1]
      refine hY _ _ ?_
      exact ⟨id, rb, b7, b8, b9, b16, bq, bp, q, L, rv, wq, wp, (by simp only [bE, Nat.reduceEqDiff, bN, Nat.reduceLT, he, e2, e7, e8, e9, e10, e37, e38, e39]; try rfl), (by simp only [bE, Nat.reduceEqDiff, bN, Nat.reduceLT, he, e2, e7, e8, e9, e10, e37, e38, e39]; try rfl), (by simp only [bE, Nat.reduceEqDiff, bN, Nat.reduceLT, he, e2, e7, e8, e9, e10, e37, e38, e39]; try rfl), (by simp only [bE, Nat.reduceEqDiff, bN, Nat.reduceLT, he, e2, e7, e8, e9, e10, e37, e38, e39]; try rfl), (by simp only [bE, Nat.reduceEqDiff, bN, Nat.reduceLT, he, e2, e7, e8, e9, e10, e37, e38, e39]; try rfl), (by simp only [bE, Nat.reduceEqDiff, bN, Nat.reduceLT, he, e2, e7, e8, e9, e10, e37, e38, e39]; try rfl), (by simp only [bE, Nat.reduceEqDiff, bN, Nat.reduceLT, he, e2, e7, e8, e9, e10, e37, e38, e39]; try rfl), (by simp only [bE, Nat.reduceEqDiff, bN, Nat.reduceLT, he, e2, e7, e8, e9, e10, e37, e38, e39]; try rfl), (by simp only [bE, Nat.reduceEqDiff, bN, Nat.reduceLT, he, e2, e7, e8, e9, e10, e37, e38, e39]; try rfl), hKsu, hPu, hL60, k7, k8, k9, g16, nb7, nb8, nb9, nrb, nrv, nwq, nwp, nbq, nbp, rdq, rdp, hbqu, hbpu, hs16, hs8⟩
    · have zf := eq_true (show (0 : Int) < (f : Int) by omega)
      obtain ⟨c0, c1, clt⟩ := row2_lod (hKu0.blk hP6.rb)
      have p4' := p4 false true
      simp (config := {contextual := true, maxDischargeDepth := 12, maxSteps := 4000000}) only [tb_at, he, e2, e7, e8, e9, e10, e37, e38, e39, hM, y1, l9, l9t, qA, l9', l9t', qF, reserve0, m7, m7t, hwc, r0, r1, rlt, hLr, mmV_min, hmin, zf, ← hu, ← hb16, p1, sl1, p4', c0, c1, clt, notV_bool, Bool.not_true, Bool.not_false, pickV_t, pickV_f, bin_eql, bin_neq, bin_neb, bin_npn, bin_np, bin_npnx, gcall_tt, gpure_tf, beq_self_eq_true, Bool.true_and, Bool.and_true, decide_true, decide_false, ↓bD, bU, forall_const, bS, implies_true, isNx, eq_self, ↓wp_cond, ↓wp_loop, ↓reduceIte, reduceCtorEq, Nat.reduceEqDiff, Nat.reduceLT, Nat.reduceAdd, Nat.reduceMul, bT, ↓sg_bsl, ↓st_callf, bX, ap_mkfn, ap_conv, ↓wi_seq, ↓wi_base, ↓wi_block, ↓wi_cond, ↓wi_loop, ↓wi_rf, ↓wy_seq, ↓wy_base, ↓wy_block, ↓wy_cond, ↓wy_loop, ↓wy_yld, ae_callvV, callvV_fn, List.append_nil, List.cons_append, List.nil_append, bin_nff, bin_nfn, bin_nffx, bin_nfnx, bin_streq, bin_bo_same, lstep_some, ↓st_load1nf, ↓st_loadnf, ↓st_appr, ↓st_appf0, bin_nfls, ap_lens, lensV_str, ↓sg_callf3, gcall_ff, gpure_ff0, q_known, res_cell1]
      refine hY _ _ ?_
      exact ⟨id, rb, b7, b8, b9, b16, bq, bp, q, L, rv, wq, wp, (by simp only [bE, Nat.reduceEqDiff, bN, Nat.reduceLT, he, e2, e7, e8, e9, e10, e37, e38, e39]; try rfl), (by simp only [bE, Nat.reduceEqDiff, bN, Nat.reduceLT, he, e2, e7, e8, e9, e10, e37, e38, e39]; try rfl), (by simp only [bE, Nat.reduceEqDiff, bN, Nat.reduceLT, he, e2, e7, e8, e9, e10, e37, e38, e39]; try rfl), (by simp only [bE, Nat.reduceEqDiff, bN, Nat.reduceLT, he, e2, e7, e8, e9, e10, e37, e38, e39]; try rfl), (by simp only [bE, Nat.reduceEqDiff, bN, Nat.reduceLT, he, e2, e7, e8, e9, e10, e37, e38, e39]; try rfl), (by simp only [bE, Nat.reduceEqDiff, bN, Nat.reduceLT, he, e2, e7, e8, e9, e10, e37, e38, e39]; try rfl), (by simp only [bE, Nat.reduceEqDiff, bN, Nat.reduceLT, he, e2, e7, e8, e9, e10, e37, e38, e39]; try rfl), (by simp only [bE, Nat.reduceEqDiff, bN, Nat.reduceLT, he, e2, e7, e8, e9, e10, e37, e38, e39]; try rfl), (by simp only [bE, Nat.reduceEqDiff, bN, Nat.reduceLT, he, e2, e7, e8, e9, e10, e37, e38, e39]; try rfl), hKsu, hPu, hL60, k7, k8, k9, g16, nb7, nb8, nb9, nrb, nrv, nwq, nwp, nbq, nbp, rdq, rdp, hbqu, hbpu, hs16, hs8⟩

end Go.AM
end
