/-
  The reference's put and Join. Own work of this project; in part printed by a program of it.
-/
import Derived.Test.YtnojanlkminpaaaP3
import Derived.KernelRfl
section
set_option linter.unusedVariables false
set_option linter.unusedSimpArgs false
set_option maxRecDepth 100000
set_option maxHeartbeats 8000000
namespace Go.AM
open Go Go.Proofs

/-- Where a node goes: behind all that come before it, from the start on. -/
def posL (x : Nd) : List Nd → Nat
  | [] => 0
  | y :: r => if y.d.before x.d = true then posL x r + 1 else 0
def putL (l : List Nd) (x : Nd) : List Nd := l.take (posL x l) ++ x :: l.drop (posL x l)
theorem posL_le (x : Nd) : ∀ l, posL x l ≤ l.length
  | [] => Nat.le_refl _
  | y :: r => by
    have := posL_le x r
    simp only [posL]
    split <;> simp <;> omega
theorem posL_eq (x : Nd) : ∀ (l : List Nd) (i : Nat), i ≤ l.length → (∀ k y, k < i → l[k]? = some y → y.d.before x.d = true) → (∀ y, l[i]? = some y → y.d.before x.d = false) → posL x l = i
  | [], i, h, _, _ => by simp at h; subst h; rfl
  | y :: r, 0, _, _, h => by
    have := h y rfl
    simp [posL, this]
  | y :: r, i + 1, hi, hp, hs => by
    have h1 := hp 0 y (by omega) rfl
    have := posL_eq x r i (by simpa using hi) (fun k z hk hz => hp (k + 1) z (by omega) (by simpa using hz)) fun z hz => hs z (by simpa using hz)
    simp [posL, h1, this]
/-- Appending to a slice of one element without room. -/
theorem app_cap1 {s t : St} {x : Nd} {v : AV} {m : List Nd} (hK : Keep s t) (hr : read ndC t v = some m) (hm : m.length ≤ lim) : ∃ u t', appV (t.push (.row (Nd.av x) true)) 6 48 (.sl t.next 0 1 (some 1) 6) v = some (u, t') ∧ Keep s t' ∧ read ndC t' u = some (x :: m) ∧ Keep t t' := by
  have hr1 : read ndC (t.push (.row (Nd.av x) true)) v = some m := ((Keep.refl t).push _).read hr
  have e1 : shown (t.push (.row (Nd.av x) true)) 6 v = some (ndC.cells m) := read_shown hr1
  have e2 : lenOf v = some m.length := read_len hr1
  have hg := St.get_push_new t (.row (Nd.av x) true)
  by_cases h0 : m = []
  · subst h0
    refine ⟨.sl t.next 0 1 (some 1) 6, t.push (.row (Nd.av x) true), ?_, hK.push _, ?_, (Keep.refl t).push _⟩
    · simp only [appV, e1, e2, aappend, if_true, hg, List.length_nil]
    · exact read_of (C := ndC) (n := 1) rfl hg (by simp [ndC, Nd.av]) rfl
  · have h0' : m.length ≠ 0 := by simpa using h0
    refine ⟨.sl (t.push (.row (Nd.av x) true)).next 0 (1 + m.length) none 6, (t.push (.row (Nd.av x) true)).push (.row (Nd.av x ++ ndC.cells m) true), ?_, (hK.push _).push _, ?_, ((Keep.refl t).push _).push _⟩
    · simp only [appV, e1, e2, aappend, if_true, hg, if_neg h0']
      rw [if_pos ⟨by simp [Nd.av], by unfold lim at hm; simp [roomBytes]; omega⟩, if_neg (by omega)]
      simp [Nd.av]
    · have hc : Nd.av x ++ ndC.cells m = ndC.cells (x :: m) := rfl
      rw [hc]
      refine read_of (C := ndC) (by simp; omega) (St.get_push_new _ _) ?_ ?_
      · rw [cells_len, List.length_cons, Nat.add_comm 1]; omega
      · have : (1 + m.length) * ndC.sz = (ndC.cells (x :: m)).length := by rw [cells_len, List.length_cons, Nat.add_comm]
        rw [this]
        simp
def capNone : AV → Bool
  | .sl _ _ _ (some _) _ => false
  | _ => true
def pPut : List AV → St → Option (List Nd × Option AV) := fun xs s => match xs with
  | [v, .agg cs] => match read ndC s v, ndC.dec cs with
    | some l, some x => if l.length ≤ 100000 ∧ capNone v = true then some (putL l x, none) else none
    | _, _ => none
  | _ => none
theorem capNone_slc {v : AV} (h : capNone v = true) : ∀ id off n c z, v = .sl id off n (some c) z → n ≤ c := by
  rintro id off n c z rfl
  cases h
theorem pPut_some {xs : List AV} {s : St} {r : List Nd × Option AV} (h : pPut xs s = some r) : ∃ v l x, xs = [v, .agg (Nd.av x)] ∧ read ndC s v = some l ∧ l.length ≤ 100000 ∧ capNone v = true ∧ r = (putL l x, none) := by
  unfold pPut at h
  split at h
  · split at h
    · split at h
      · rename_i v _ _ _ l x hr hx hc
        injection h with h
        have := ndC.enc_dec _ _ hx
        exact ⟨v, l, x, by rw [this]; rfl, hr, hc.1, hc.2, h.symm⟩
      · cases h
    · cases h
  · cases h
theorem s_Put : SoundAt Try.prog 46 (conF ndC pPut) :=
  con_fresh (tb_sound (l := [(43, conDD fBefore)]) (by simpa using s_Before)) mixed Try.func46 k46 c46 fun args s r ee h => by
    obtain ⟨v, l, x, rfl, hr, hls, hcap, hres⟩ := pPut_some h
    obtain ⟨rfl, rfl⟩ := Prod.mk.inj hres
    refine ⟨by simp, by simp [a46], fun env hlen ha => ?_⟩
    have h0 : E env 0 = _ := ha 0 _ rfl
    have h1 : E env 1 = _ := ha 1 _ rfl
    have hlen : elen env = _ := hlen
    simp only [a46] at hlen
    unfold a46
    try dsimp only [oO, oG]
    have hl : l.length ≤ lim := by unfold lim; omega
    have hL := lenV_read hr
    simp (config := {contextual := true, maxDischargeDepth := 12}) only [tb, h0, h1, hlen, hL, ↓bD, bU, forall_const, List.all_cons, List.all_nil, Option.map_some, List.map_cons, List.map_nil, ne_eq, implies_true, isNx, cs_dec, cs_not, cs_and, cs_or, cs_valid, eq_self, ↓wp_cond, ↓wp_loop, ↓reduceIte, reduceCtorEq, Nat.reduceEqDiff, Nat.reduceLT, Nat.reduceAdd, Nat.reduceMul, Int.ofNat_lt, Int.ofNat_le, exists_const, ae_app, ap_slc, Option.map_none, mkR_none, mkR_some, ar_look, ae_mset, ae_rng, ae_mkmap0, ar_ent, lookV_push, lookV_lowed, msetV_push, msetV_lowed, lt_put, same_put, sto_over, sto_lowed, cs_dead, Option.map_some, beq_self_eq_true, decide_true, cs_true, cs_false]
    obtain ⟨I, hI⟩ : ∃ I : Nat → Env → St → Prop, ∀ n e t, I n e t = (t = s.push (.row (Nd.av x) true) ∧ ∃ i : Nat, n + i = l.length ∧ elen e = 35 ∧ E e 0 = v ∧ E e 3 = .ptr s.next 0 ∧ E e 5 = .int .i64 (i : Int) ∧ ∀ k y, k < i → l[k]? = some y → y.d.before x.d = true) := ⟨fun n e t => (t = s.push (.row (Nd.av x) true) ∧ ∃ i : Nat, n + i = l.length ∧ elen e = 35 ∧ E e 0 = v ∧ E e 3 = .ptr s.next 0 ∧ E e 5 = .int .i64 (i : Int) ∧ ∀ k y, k < i → l[k]? = some y → y.d.before x.d = true), fun _ _ _ => rfl⟩
    refine lwp_inv I (n := l.length) ?_ ?_
    · rw [hI]
      exact ⟨rfl, 0, by omega, by simp only [E_pne, E_psame, elen_put, Nat.reduceEqDiff, ne_eq, not_false_eq_true, Nat.reduceLT, hlen], by simp only [E_pne, E_psame, elen_put, Nat.reduceEqDiff, ne_eq, not_false_eq_true, Nat.reduceLT, h0], by simp only [E_pne, E_psame, elen_put, Nat.reduceEqDiff, ne_eq, not_false_eq_true, Nat.reduceLT, hlen], by simp only [E_pne, E_psame, elen_put, Nat.reduceEqDiff, ne_eq, not_false_eq_true, Nat.reduceLT, hlen]; rfl, fun k y hk => by omega⟩
    intro n e t hi
    rw [hI] at hi
    obtain ⟨rfl, i, hn, he, e0, e3, e5, hpre⟩ := hi
    by_cases hlt : i < l.length
    · obtain ⟨y, hy⟩ := getsome hlt
      have hw2 := wrap_add1 (n := i) (by omega)
      obtain ⟨a1, a2, _, _, _, al⟩ := nd_lods hr (.refl _) hy
      have i1 := nd_idx hr hy .i64
      cases hb : y.d.before x.d
      · have hpos : posL x l = i := posL_eq x l i (by omega) hpre (fun z hz => by rw [hy] at hz; cases hz; exact hb)
        obtain ⟨v1, hs1, hr1⟩ := slc_lo hr (k := .i64) (i := (i : Int)) (n := i) rfl (by omega)
        obtain ⟨v2, hs2, hr2⟩ := slc_hi hr (capNone_slc hcap) (k := .i64) (i := (i : Int)) (n := i) rfl (by omega)
        have hs1 : slcV 6 v (some (.int .i64 (i : Int))) none = some v1 := hs1
        have hs2 : slcV 6 v none (some (.int .i64 (i : Int))) = some v2 := hs2
        have hKb := (Keep.refl s).push (.row (Nd.av x) true)
        obtain ⟨u, t1, hap1, hK1, hru, hKt⟩ := app_cap1 (x := x) hKb (hr1 _ hKb) (by simp; omega)
        obtain ⟨u2, t2, hap2, hK2, hO2⟩ := appV_list (.refl t1) (.nil ndC t1 t1) (hr2 _ hK1) 48 (by simp [roomBytes]; omega)
        obtain ⟨u3, t3, hap3, hK3, hO3⟩ := appV_list (hK1.trans hK2) (hO2.from hK1.next) (hK2.read hru) 48 (by simp [roomBytes]; omega)
        have hap1 : appV ((s.push (.row (Nd.av x) true)).push (.row (Nd.av x) true)) 6 48 (.sl (s.push (.row (Nd.av x) true)).next 0 1 (some 1) 6) v1 = some (u, t1) := hap1
        have hap2 : appV t1 6 48 .nils v2 = some (u2, t2) := hap2
        have hap3 : appV t2 6 48 u2 u = some (u3, t3) := hap3
        simp (config := {contextual := true, maxDischargeDepth := 12}) only [tb, q_Before, e0, e3, e5, he, hL, hlt, hw2, a2, al, i1, hb, hs1, hs2, hap1, hap2, hap3, ↓bD, bU, forall_const, List.all_cons, List.all_nil, Option.map_some, List.map_cons, List.map_nil, ne_eq, implies_true, isNx, cs_dec, cs_not, cs_and, cs_or, cs_valid, eq_self, ↓wp_cond, ↓wp_loop, ↓reduceIte, reduceCtorEq, Nat.reduceEqDiff, Nat.reduceLT, Nat.reduceAdd, Nat.reduceMul, Int.ofNat_lt, Int.ofNat_le, exists_const, ae_app, ap_slc, Option.map_none, mkR_none, mkR_some, ar_look, ae_mset, ae_rng, ae_mkmap0, ar_ent, lookV_push, lookV_lowed, msetV_push, msetV_lowed, lt_put, same_put, sto_over, sto_lowed, cs_dead, Option.map_some, beq_self_eq_true, decide_true, cs_true, cs_false]
        exact ⟨hK3, _, rfl, by simpa [putL, hpos] using hO3⟩
      · skip
        simp (config := {contextual := true, maxDischargeDepth := 12}) only [tb, q_Before, e0, e3, e5, he, hL, hlt, hw2, a2, al, i1, hb, ↓bD, bU, forall_const, List.all_cons, List.all_nil, Option.map_some, List.map_cons, List.map_nil, ne_eq, implies_true, isNx, cs_dec, cs_not, cs_and, cs_or, cs_valid, eq_self, ↓wp_cond, ↓wp_loop, ↓reduceIte, reduceCtorEq, Nat.reduceEqDiff, Nat.reduceLT, Nat.reduceAdd, Nat.reduceMul, Int.ofNat_lt, Int.ofNat_le, exists_const, ae_app, ap_slc, Option.map_none, mkR_none, mkR_some, ar_look, ae_mset, ae_rng, ae_mkmap0, ar_ent, lookV_push, lookV_lowed, msetV_push, msetV_lowed, lt_put, same_put, sto_over, sto_lowed, cs_dead, Option.map_some, beq_self_eq_true, decide_true, cs_true, cs_false]
        refine ⟨n - 1, by omega, ?_⟩
        rw [hI]
        refine ⟨rfl, i + 1, by omega, by simp only [E_pne, E_psame, elen_put, Nat.reduceEqDiff, ne_eq, not_false_eq_true, Nat.reduceLT, he], by simp only [E_pne, E_psame, elen_put, Nat.reduceEqDiff, ne_eq, not_false_eq_true, Nat.reduceLT, e0], by simp only [E_pne, E_psame, elen_put, Nat.reduceEqDiff, ne_eq, not_false_eq_true, Nat.reduceLT, e3], by simp only [E_pne, E_psame, elen_put, Nat.reduceEqDiff, ne_eq, not_false_eq_true, Nat.reduceLT, he], fun k z hk hz => ?_⟩
        by_cases hki : k = i
        · subst hki
          rw [hy] at hz; cases hz
          exact hb
        · exact hpre k z (by omega) hz
    · have hpos : posL x l = i := posL_eq x l i (by omega) hpre (fun z hz => by have := getlt hz; omega)
      obtain ⟨v1, hs1, hr1⟩ := slc_lo hr (k := .i64) (i := (i : Int)) (n := i) rfl (by omega)
      obtain ⟨v2, hs2, hr2⟩ := slc_hi hr (capNone_slc hcap) (k := .i64) (i := (i : Int)) (n := i) rfl (by omega)
      have hs1 : slcV 6 v (some (.int .i64 (i : Int))) none = some v1 := hs1
      have hs2 : slcV 6 v none (some (.int .i64 (i : Int))) = some v2 := hs2
      have hKb := (Keep.refl s).push (.row (Nd.av x) true)
      obtain ⟨u, t1, hap1, hK1, hru, hKt⟩ := app_cap1 (x := x) hKb (hr1 _ hKb) (by simp; omega)
      obtain ⟨u2, t2, hap2, hK2, hO2⟩ := appV_list (.refl t1) (.nil ndC t1 t1) (hr2 _ hK1) 48 (by simp [roomBytes]; omega)
      obtain ⟨u3, t3, hap3, hK3, hO3⟩ := appV_list (hK1.trans hK2) (hO2.from hK1.next) (hK2.read hru) 48 (by simp [roomBytes]; omega)
      have hap1 : appV ((s.push (.row (Nd.av x) true)).push (.row (Nd.av x) true)) 6 48 (.sl (s.push (.row (Nd.av x) true)).next 0 1 (some 1) 6) v1 = some (u, t1) := hap1
      have hap2 : appV t1 6 48 .nils v2 = some (u2, t2) := hap2
      have hap3 : appV t2 6 48 u2 u = some (u3, t3) := hap3
      simp (config := {contextual := true, maxDischargeDepth := 12}) only [tb, q_Before, e0, e3, e5, he, hL, hlt, hs1, hs2, hap1, hap2, hap3, ↓bD, bU, forall_const, List.all_cons, List.all_nil, Option.map_some, List.map_cons, List.map_nil, ne_eq, implies_true, isNx, cs_dec, cs_not, cs_and, cs_or, cs_valid, eq_self, ↓wp_cond, ↓wp_loop, ↓reduceIte, reduceCtorEq, Nat.reduceEqDiff, Nat.reduceLT, Nat.reduceAdd, Nat.reduceMul, Int.ofNat_lt, Int.ofNat_le, exists_const, ae_app, ap_slc, Option.map_none, mkR_none, mkR_some, ar_look, ae_mset, ae_rng, ae_mkmap0, ar_ent, lookV_push, lookV_lowed, msetV_push, msetV_lowed, lt_put, same_put, sto_over, sto_lowed, cs_dead, Option.map_some, beq_self_eq_true, decide_true, cs_true, cs_false]
      exact ⟨hK3, _, rfl, by simpa [putL, hpos] using hO3⟩

/-! ### The reference's Join -/
def rmerge (x y : Nd) : Nd := if x.clash y = true then nd0 else x.merge y
def jstep (out : List Nd) (y : Nd) : List Nd := match lookN out y.d with
  | some (k, x) => out.set k (rmerge x y)
  | none => putL out y
def refJ (l m : List Nd) : List Nd := m.foldl jstep l
theorem putL_len (l : List Nd) (x : Nd) : (putL l x).length = l.length + 1 := by
  have := posL_le x l
  simp [putL]
  omega
theorem jstep_len (l : List Nd) (x : Nd) : (jstep l x).length ≤ l.length + 1 := by
  unfold jstep
  split
  · simp
  · rw [putL_len]; exact Nat.le_refl _
theorem cells_take (l : List Nd) (k : Nat) (hk : k ≤ l.length) : (ndC.cells l).take (k * 6) = ndC.cells (l.take k) := by
  conv => lhs; rw [← List.take_append_drop k l, cells_append]
  have : k * 6 = (ndC.cells (l.take k)).length := by rw [cells_len, List.length_take, Nat.min_eq_left (by omega)]; rfl
  rw [this, List.take_left]
theorem cells_drop (l : List Nd) (k : Nat) (hk : k ≤ l.length) : (ndC.cells l).drop (k * 6) = ndC.cells (l.drop k) := by
  conv => lhs; rw [← List.take_append_drop k l, cells_append]
  have : k * 6 = (ndC.cells (l.take k)).length := by rw [cells_len, List.length_take, Nat.min_eq_left (by omega)]; rfl
  rw [this, List.drop_left]
theorem cells_setAt {l : List Nd} {k : Nat} (hk : k < l.length) (z : Nd) : setAt (ndC.cells l) (k * 6) (Nd.av z) = ndC.cells (l.set k z) := by
  have e : k * 6 + (Nd.av z).length = (k + 1) * 6 := by
    have : (Nd.av z).length = 6 := rfl
    omega
  rw [setAt, e, cells_take l k (by omega), cells_drop l (k + 1) (by omega), List.set_eq_take_append_cons_drop, if_pos hk, cells_append, cells_cons, List.append_assoc]
  rfl
theorem own_set {s t : St} {v : AV} {out : List Nd} (hK : Keep s t) (hO : Own ndC s t v out) {k : Nat} (hk : k < out.length) (z : Nd) : ∃ t', sto t 6 (.ptr (bid v) (boff v + k * 6)) (.agg (Nd.av z)) = some (.und, t') ∧ Keep s t' ∧ Own ndC s t' v (out.set k z) := by
  rcases hO with ⟨rfl, rfl⟩ | ⟨j, rfl, h0, h1, h⟩
  · simp at hk
  · refine ⟨t.put j (.row (ndC.cells (out.set k z)) true), ?_, hK.put _ h1 (St.get_lt h), .inr ⟨j, by simp, by intro e; exact h0 (by have := congrArg List.length e; simpa using this), h1, St.get_put_same h⟩⟩
    have hcl : (ndC.cells out).length = out.length * 6 := cells_len ndC out
    have h6 : (Nd.av z).length = 6 := rfl
    have ho : (Nd.av z).all AV.one = true := rfl
    simp only [bid, boff, Nat.zero_add, sto, h, AV.cells, h6, ho, true_and]
    rw [if_pos (by omega), cells_setAt hk]
theorem own_capNone {s t : St} {v : AV} {out : List Nd} (hO : Own ndC s t v out) : capNone v = true := by
  rcases hO with ⟨rfl, rfl⟩ | ⟨j, rfl, _⟩ <;> rfl
def gRJoin (l m : List Nd) : Option (List Nd × Option AV) := if l.length ≤ 10000 ∧ m.length ≤ 10000 then some (refJ l m, none) else none
theorem s_RJoin : SoundAt Try.prog 33 (conF ndC (pLL ndC ndC gRJoin)) :=
  con_fresh (tb_sound (l := [(44, conLD ndC fFind), (45, conNN fRefMerge), (46, conF ndC pPut)]) (by simpa using ⟨s_Find, s_RefMerge, s_Put⟩)) mixed Try.func33 k33 c33 fun args s r ee h => by
    obtain ⟨v, w, l, m, rfl, hr, hw, hl, hm, hp⟩ := pLL_some h
    unfold gRJoin at hp
    split at hp
    rotate_left
    · cases hp
    rename_i hs
    injection hp with hp
    obtain ⟨rfl, rfl⟩ := Prod.mk.inj hp
    refine ⟨by simp, by simp [a33], fun env hlen ha => ?_⟩
    have h0 : E env 0 = _ := ha 0 _ rfl
    have h1 : E env 1 = _ := ha 1 _ rfl
    have hlen : elen env = _ := hlen
    simp only [a33] at hlen
    unfold a33
    try dsimp only [oO, oG]
    have hL := lenV_read hr
    have hM := lenV_read hw
    obtain ⟨u0, t0, hap0, hK0, hO0⟩ := appV_list (.refl s) (.nil ndC s s) hr 48 (by unfold lim at hl; simp [roomBytes]; omega)
    have hap0 : appV s 6 48 .nils v = _ := hap0
    simp (config := {contextual := true, maxDischargeDepth := 12}) only [tb, h0, h1, hlen, hL, hap0, ↓bD, bU, forall_const, List.all_cons, List.all_nil, Option.map_some, List.map_cons, List.map_nil, ne_eq, implies_true, isNx, cs_dec, cs_not, cs_and, cs_or, cs_valid, eq_self, ↓wp_cond, ↓wp_loop, ↓reduceIte, reduceCtorEq, Nat.reduceEqDiff, Nat.reduceLT, Nat.reduceAdd, Nat.reduceMul, Int.ofNat_lt, Int.ofNat_le, exists_const, ae_app, ap_slc, Option.map_none, mkR_none, mkR_some, ar_look, ae_mset, ae_rng, ae_mkmap0, ar_ent, lookV_push, lookV_lowed, msetV_push, msetV_lowed, lt_put, same_put, sto_over, sto_lowed, cs_dead, Option.map_some, beq_self_eq_true, decide_true, cs_true, cs_false]
    obtain ⟨I, hI⟩ : ∃ I : Nat → Env → St → Prop, ∀ n e t, I n e t = (Keep s t ∧ ∃ (i : Nat) (out : List Nd), n + i = m.length ∧ elen e = 47 ∧ E e 1 = w ∧ E e 6 = .int .i64 (i : Int) ∧ Own ndC s t (E e 5) out ∧ out.length ≤ l.length + i ∧ refJ out (m.drop i) = refJ l m) := ⟨fun n e t => (Keep s t ∧ ∃ (i : Nat) (out : List Nd), n + i = m.length ∧ elen e = 47 ∧ E e 1 = w ∧ E e 6 = .int .i64 (i : Int) ∧ Own ndC s t (E e 5) out ∧ out.length ≤ l.length + i ∧ refJ out (m.drop i) = refJ l m), fun _ _ _ => rfl⟩
    refine lwp_inv I (n := m.length) ?_ ?_
    · rw [hI]
      exact ⟨hK0, 0, l, by omega, by simp only [E_pne, E_psame, elen_put, Nat.reduceEqDiff, ne_eq, not_false_eq_true, Nat.reduceLT, hlen], by simp only [E_pne, E_psame, elen_put, Nat.reduceEqDiff, ne_eq, not_false_eq_true, Nat.reduceLT, h1], by simp only [E_pne, E_psame, elen_put, Nat.reduceEqDiff, ne_eq, not_false_eq_true, Nat.reduceLT, hlen]; rfl, by simp only [E_pne, E_psame, elen_put, Nat.reduceEqDiff, ne_eq, not_false_eq_true, Nat.reduceLT, hlen]; simpa using hO0, by omega, rfl⟩
    intro n e t hi
    rw [hI] at hi
    obtain ⟨hK, i, out, hn, he, e1, e6, hO, hol, hrj⟩ := hi
    by_cases hlt : i < m.length
    · obtain ⟨y, hy⟩ := getsome hlt
      have hw2 := wrap_add1 (n := i) (by omega)
      obtain ⟨a1, a2, _, _, _, al⟩ := nd_lods hw hK hy
      have i1 := nd_idx hw hy .i64
      have hdr : m.drop i = y :: m.drop (i + 1) := by
        rw [List.drop_eq_getElem_cons hlt]
        congr 1
        exact (List.getElem?_eq_some_iff.1 hy).2
      rw [hdr] at hrj
      have hrj : refJ (jstep out y) (m.drop (i + 1)) = refJ l m := hrj
      have hro := hO.read
      have qf := q_Find false hro (by unfold lim; omega) y.d
      rw [findL_look] at qf
      cases hf : lookN out y.d with
      | none =>
        rw [hf] at qf
        simp only at qf
        have hz : ((0 : Int) ≤ -1) = False := by decide
        have hj : jstep out y = putL out y := by unfold jstep; rw [hf]
        rw [hj] at hrj
        obtain ⟨u, t1, hc, hK1, hO1⟩ := acall_fresh (D := ndC) (p := pPut) (xs := [E e 5, .agg (Nd.av y)]) (s := t) (l := putL out y) (e := none) (by
          have e1 : read ndC { heap := t.heap, next := t.next, low := t.next } (E e 5) = some out := hro
          have e2 : ndC.dec (Nd.av y) = some y := rfl
          simp only [pPut, e1, e2, own_capNone hO]
          rw [if_pos ⟨by omega, trivial⟩]) (by simp)
        rw [mkR_none] at hc
        simp (config := {contextual := true, maxDischargeDepth := 12}) only [tb, e1, e6, he, hL, hM, hlt, hw2, a1, a2, al, i1, qf, hz, hc, ↓bD, bU, forall_const, List.all_cons, List.all_nil, Option.map_some, List.map_cons, List.map_nil, ne_eq, implies_true, isNx, cs_dec, cs_not, cs_and, cs_or, cs_valid, eq_self, ↓wp_cond, ↓wp_loop, ↓reduceIte, reduceCtorEq, Nat.reduceEqDiff, Nat.reduceLT, Nat.reduceAdd, Nat.reduceMul, Int.ofNat_lt, Int.ofNat_le, exists_const, ae_app, ap_slc, Option.map_none, mkR_none, mkR_some, ar_look, ae_mset, ae_rng, ae_mkmap0, ar_ent, lookV_push, lookV_lowed, msetV_push, msetV_lowed, lt_put, same_put, sto_over, sto_lowed, cs_dead, Option.map_some, beq_self_eq_true, decide_true, cs_true, cs_false]
        refine ⟨n - 1, by omega, ?_⟩
        rw [hI]
        exact ⟨hK.trans hK1, i + 1, putL out y, by omega, by simp only [E_pne, E_psame, elen_put, Nat.reduceEqDiff, ne_eq, not_false_eq_true, Nat.reduceLT, he], by simp only [E_pne, E_psame, elen_put, Nat.reduceEqDiff, ne_eq, not_false_eq_true, Nat.reduceLT, e1], by simp only [E_pne, E_psame, elen_put, Nat.reduceEqDiff, ne_eq, not_false_eq_true, Nat.reduceLT, he], by simp only [E_pne, E_psame, elen_put, Nat.reduceEqDiff, ne_eq, not_false_eq_true, Nat.reduceLT, he]; exact hO1.from hK.next, by rw [putL_len]; omega, hrj⟩
      | some p =>
        obtain ⟨k, x⟩ := p
        obtain ⟨hx, hxd⟩ := lookN_some hf
        rw [hf] at qf
        simp only at qf
        have hz : ((0 : Int) ≤ (k : Int)) = True := eq_true (by omega)
        obtain ⟨b1, _, _, _, _, bl⟩ := nd_lods hro (.refl _) hx
        have i2 := nd_idx hro hx .i64
        have hj : jstep out y = out.set k (rmerge x y) := by unfold jstep; rw [hf]
        rw [hj] at hrj
        obtain ⟨b, hMg⟩ : ∃ b, refMergeV x y = .tup [.agg (Nd.av (rmerge x y)), .bool b] := by
          unfold refMergeV rmerge
          split
          · exact ⟨_, rfl⟩
          · exact ⟨_, rfl⟩
        obtain ⟨t1, hst, hK1, hO1⟩ := own_set hK hO (getlt hx) (rmerge x y)
        simp (config := {contextual := true, maxDischargeDepth := 12}) only [tb, q_RefMerge, e1, e6, he, hL, hM, hlt, hw2, a1, a2, al, i1, qf, hz, b1, bl, i2, hMg, hst, ↓bD, bU, forall_const, List.all_cons, List.all_nil, Option.map_some, List.map_cons, List.map_nil, ne_eq, implies_true, isNx, cs_dec, cs_not, cs_and, cs_or, cs_valid, eq_self, ↓wp_cond, ↓wp_loop, ↓reduceIte, reduceCtorEq, Nat.reduceEqDiff, Nat.reduceLT, Nat.reduceAdd, Nat.reduceMul, Int.ofNat_lt, Int.ofNat_le, exists_const, ae_app, ap_slc, Option.map_none, mkR_none, mkR_some, ar_look, ae_mset, ae_rng, ae_mkmap0, ar_ent, lookV_push, lookV_lowed, msetV_push, msetV_lowed, lt_put, same_put, sto_over, sto_lowed, cs_dead, Option.map_some, beq_self_eq_true, decide_true, cs_true, cs_false]
        refine ⟨n - 1, by omega, ?_⟩
        rw [hI]
        exact ⟨hK1, i + 1, out.set k (rmerge x y), by omega, by simp only [E_pne, E_psame, elen_put, Nat.reduceEqDiff, ne_eq, not_false_eq_true, Nat.reduceLT, he], by simp only [E_pne, E_psame, elen_put, Nat.reduceEqDiff, ne_eq, not_false_eq_true, Nat.reduceLT, e1], by simp only [E_pne, E_psame, elen_put, Nat.reduceEqDiff, ne_eq, not_false_eq_true, Nat.reduceLT, he], by simp only [E_pne, E_psame, elen_put, Nat.reduceEqDiff, ne_eq, not_false_eq_true, Nat.reduceLT, he]; exact hO1, by simp; omega, hrj⟩
    · obtain rfl : i = m.length := by omega
      rw [List.drop_length] at hrj
      have hrj : out = refJ l m := hrj
      simp (config := {contextual := true, maxDischargeDepth := 12}) only [tb, e1, e6, he, hL, hM, hlt, ↓bD, bU, forall_const, List.all_cons, List.all_nil, Option.map_some, List.map_cons, List.map_nil, ne_eq, implies_true, isNx, cs_dec, cs_not, cs_and, cs_or, cs_valid, eq_self, ↓wp_cond, ↓wp_loop, ↓reduceIte, reduceCtorEq, Nat.reduceEqDiff, Nat.reduceLT, Nat.reduceAdd, Nat.reduceMul, Int.ofNat_lt, Int.ofNat_le, exists_const, ae_app, ap_slc, Option.map_none, mkR_none, mkR_some, ar_look, ae_mset, ae_rng, ae_mkmap0, ar_ent, lookV_push, lookV_lowed, msetV_push, msetV_lowed, lt_put, same_put, sto_over, sto_lowed, cs_dead, Option.map_some, beq_self_eq_true, decide_true, cs_true, cs_false]
      exact ⟨hK, _, rfl, by rw [← hrj]; exact hO⟩

end Go.AM
end
/-
  Plain laws: the program's join is the reference's. Own work of this project.
-/
section
set_option linter.unusedVariables false
set_option linter.unusedSimpArgs false
namespace Go.AM
open Go Go.Proofs

theorem chain_pairwise : ∀ {l : List Nd}, chain ndLt l = true → l.Pairwise ltP
  | [], _ => .nil
  | [x], _ => by simp
  | x :: y :: r, h => by
    rw [chain, Bool.and_eq_true] at h
    have ih := chain_pairwise (l := y :: r) h.2
    have hxy : ltP x y := h.1
    rw [List.pairwise_cons]
    refine ⟨fun z hz => ?_, ih⟩
    rcases List.mem_cons.1 hz with rfl | hz
    · exact hxy
    · exact ltP_trans hxy ((List.pairwise_cons.1 ih).1 z hz)
theorem pairwise_chain : ∀ {l : List Nd}, l.Pairwise ltP → chain ndLt l = true
  | [], _ => rfl
  | [x], _ => rfl
  | x :: y :: r, h => by
    rw [List.pairwise_cons] at h
    rw [chain, Bool.and_eq_true]
    exact ⟨h.1 y (by simp), pairwise_chain h.2⟩
theorem ltP_ne {x y : Nd} (h : ltP x y) : x.d ≠ y.d := by
  intro e
  unfold ltP at h
  rw [e, before_irr] at h
  cases h
theorem look_cons_ne {x : Nd} {r : List Nd} {d : Dot} (h : x.d ≠ d) : lookN (x :: r) d = (lookN r d).map fun p => (p.1 + 1, p.2) := by
  simp [lookN, h]
theorem look_cons_eq {x : Nd} {r : List Nd} {d : Dot} (h : x.d = d) : lookN (x :: r) d = some (0, x) := by
  simp [lookN, h]
theorem look_above {l : List Nd} {x : Nd} (h : ∀ y ∈ l, ltP x y) : lookN l x.d = none := by
  induction l with
  | nil => rfl
  | cons y r ih =>
    rw [look_cons_ne (Ne.symm (ltP_ne (h y (by simp)))), ih fun z hz => h z (by simp [hz])]
    rfl
theorem jstep_above {x : Nd} {a : List Nd} {y : Nd} (h : ltP x y) : jstep (x :: a) y = x :: jstep a y := by
  unfold jstep
  rw [look_cons_ne (ltP_ne h)]
  cases hl : lookN a y.d with
  | none =>
    have hb : x.d.before y.d = true := h
    simp [putL, posL, hb]
  | some p => simp
theorem refJ_above {x : Nd} : ∀ {m a : List Nd}, (∀ y ∈ m, ltP x y) → refJ (x :: a) m = x :: refJ a m
  | [], a, _ => rfl
  | y :: r, a, h => by
    show refJ (jstep (x :: a) y) r = x :: refJ (jstep a y) r
    rw [jstep_above (h y (by simp)), refJ_above fun z hz => h z (by simp [hz])]
theorem jstep_below {x y : Nd} {a : List Nd} (h : ∀ z ∈ x :: a, ltP y z) : jstep (x :: a) y = y :: x :: a := by
  have hx := h x (by simp)
  have hb : x.d.before y.d = false := by
    cases hh : x.d.before y.d
    · rfl
    · exact (ltP_asymm hx hh).elim
  unfold jstep
  rw [look_above h]
  simp [putL, posL, hb]
theorem refJ_nil : ∀ {m : List Nd}, m.Pairwise ltP → refJ [] m = m
  | [], _ => rfl
  | y :: r, h => by
    rw [List.pairwise_cons] at h
    show refJ (jstep [] y) r = y :: r
    have : jstep [] y = [y] := rfl
    rw [this, refJ_above h.1, refJ_nil h.2]
theorem agree_skip {a b : List Nd} {y : Nd} (h : ∀ z ∈ a, ltP y z) : agreeL a (y :: b) = agreeL a b := by
  induction a with
  | nil => rfl
  | cons x r ih =>
    rw [agreeL_cons, agreeL_cons, ih fun z hz => h z (by simp [hz]), look_cons_ne (ltP_ne (h x (by simp)))]
    cases lookN b x.d <;> rfl
theorem agree_nil : ∀ (a : List Nd), agreeL a [] = true
  | [] => rfl
  | x :: r => by rw [agreeL_cons, agree_nil r]; rfl
theorem join_ref : ∀ (l m : List Nd), l.Pairwise ltP → m.Pairwise ltP → joinL l m = if agreeL l m = true then some (refJ l m) else none := by
  intro l m
  induction l, m using joinL.induct with
  | case1 b => intro _ h; simp [joinL, agreeL, refJ_nil h]
  | case2 x a => intro _ _; simp [joinL, agree_nil, refJ]
  | case3 x a y b h1 ih =>
    intro hl hm
    rw [List.pairwise_cons] at hl
    have hall : ∀ z ∈ y :: b, ltP x z := by
      intro z hz
      rcases List.mem_cons.1 hz with rfl | hz
      · exact h1
      · exact ltP_trans h1 ((List.pairwise_cons.1 hm).1 z hz)
    rw [joinL, if_pos h1, ih hl.2 hm, agreeL_cons, look_above hall, refJ_above hall]
    simp only [Bool.true_and]
    split <;> rfl
  | case4 x a y b h1 h2 ih =>
    intro hl hm
    have hm' := List.pairwise_cons.1 hm
    have hl' := List.pairwise_cons.1 hl
    have hall : ∀ z ∈ x :: a, ltP y z := by
      intro z hz
      rcases List.mem_cons.1 hz with rfl | hz
      · exact h2
      · exact ltP_trans h2 (hl'.1 z hz)
    rw [joinL, if_neg h1, if_pos h2, ih hl hm'.2, agree_skip hall]
    have : refJ (x :: a) (y :: b) = y :: refJ (x :: a) b := by
      show refJ (jstep (x :: a) y) b = _
      rw [jstep_below hall, refJ_above hm'.1]
    rw [this]
    split <;> rfl
  | case5 x a y b h1 h2 h3 =>
    intro hl hm
    have hd : x.d = y.d := by
      rcases dcmp_cases x.d y.d with ⟨_, q, _⟩ | ⟨_, _, q⟩ | ⟨_, _, _, q⟩
      · exact absurd q h1
      · exact absurd q h2
      · exact q
    rw [joinL, if_neg h1, if_neg h2, if_pos h3, agreeL_cons, look_cons_eq hd.symm]
    simp [h3]
  | case6 x a y b h1 h2 h3 ih =>
    intro hl hm
    have hm' := List.pairwise_cons.1 hm
    have hl' := List.pairwise_cons.1 hl
    have hd : x.d = y.d := by
      rcases dcmp_cases x.d y.d with ⟨_, q, _⟩ | ⟨_, _, q⟩ | ⟨_, _, _, q⟩
      · exact absurd q h1
      · exact absurd q h2
      · exact q
    have hya : ∀ z ∈ a, ltP y z := fun z hz => by
      have := hl'.1 z hz
      unfold ltP at this ⊢
      rw [← hd]
      exact this
    have hmb : ∀ z ∈ b, ltP (x.merge y) z := fun z hz => by
      have := hm'.1 z hz
      unfold ltP at this ⊢
      rw [merge_d hd]
      exact this
    rw [joinL, if_neg h1, if_neg h2, if_neg h3, ih hl'.2 hm'.2, agreeL_cons, look_cons_eq hd.symm, agree_skip hya]
    have hr : rmerge x y = x.merge y := by unfold rmerge; rw [if_neg h3]
    have hj : jstep (x :: a) y = x.merge y :: a := by
      unfold jstep
      rw [look_cons_eq hd]
      simp [hr]
    have : refJ (x :: a) (y :: b) = x.merge y :: refJ a b := by
      show refJ (jstep (x :: a) y) b = _
      rw [hj, refJ_above hmb]
    rw [this]
    have h3' : x.clash y = false := by simpa using h3
    simp only [h3', Bool.not_false, Bool.true_and]
    split <;> rfl
theorem store_sorted {l : List Nd} (h : storeL l = true) : l.Pairwise ltP := by
  simp only [storeL, Bool.and_eq_true] at h
  exact chain_pairwise h.2
theorem store_join {l m : List Nd} (hl : storeL l = true) (hm : storeL m = true) : joinL l m = if agreeL l m = true then some (refJ l m) else none := join_ref l m (store_sorted hl) (store_sorted hm)
end Go.AM
end
/-
  Plain laws of the join: by what stands at each dot. Own work of this project.
-/
section
set_option linter.unusedVariables false
set_option linter.unusedSimpArgs false
namespace Go.AM
open Go Go.Proofs

/-- What stands at a dot. -/
def getN (l : List Nd) (d : Dot) : Option Nd := (lookN l d).map (·.2)
theorem getN_nil (d : Dot) : getN [] d = none := rfl
theorem getN_cons (x : Nd) (r : List Nd) (d : Dot) : getN (x :: r) d = if x.d = d then some x else getN r d := by
  unfold getN
  by_cases h : x.d = d
  · rw [look_cons_eq h, if_pos h]; rfl
  · rw [look_cons_ne h, if_neg h]
    cases lookN r d <;> rfl
theorem getN_some : ∀ {l : List Nd} {d : Dot} {x : Nd}, getN l d = some x → x ∈ l ∧ x.d = d
  | [], d, x, h => by simp [getN_nil] at h
  | y :: r, d, x, h => by
    rw [getN_cons] at h
    split at h
    · injection h with h
      subst h
      exact ⟨by simp, by assumption⟩
    · obtain ⟨h1, h2⟩ := getN_some h
      exact ⟨by simp [h1], h2⟩
theorem getN_mem : ∀ {l : List Nd} {x : Nd}, l.Pairwise ltP → x ∈ l → getN l x.d = some x
  | [], x, _, h => by simp at h
  | y :: r, x, hp, h => by
    rw [List.pairwise_cons] at hp
    rw [getN_cons]
    rcases List.mem_cons.1 h with rfl | h
    · rw [if_pos rfl]
    · rw [if_neg (ltP_ne (hp.1 x h)), getN_mem hp.2 h]
theorem getN_none {l : List Nd} {d : Dot} (h : getN l d = none) : ∀ x ∈ l, x.d ≠ d := by
  unfold getN at h
  exact lookN_none (by simpa using h)
theorem getN_above {l : List Nd} {x : Nd} (h : ∀ y ∈ l, ltP x y) : getN l x.d = none := by
  unfold getN
  rw [look_above h]
  rfl
theorem nodup_of {l : List Nd} (h : l.Pairwise ltP) : l.Nodup := h.imp fun {a b} hab e => by
  subst e
  exact ltP_asymm hab hab
theorem getN_ext {l m : List Nd} (hl : l.Pairwise ltP) (hm : m.Pairwise ltP) (h : ∀ d, getN l d = getN m d) : l = m := by
  refine sorted_unique l m ((List.perm_ext_iff_of_nodup (nodup_of hl) (nodup_of hm)).2 fun x => ⟨fun hx => ?_, fun hx => ?_⟩) hl hm
  · have := getN_mem hl hx
    rw [h] at this
    exact (getN_some this).1
  · have := getN_mem hm hx
    rw [← h] at this
    exact (getN_some this).1
def comb : Option Nd → Option Nd → Option Nd
  | some x, some y => some (x.merge y)
  | some x, none => some x
  | none, y => y
theorem comb_dot {p q : Option Nd} {d : Dot} {y : Nd} (h : comb p q = some y) (hp : ∀ u, p = some u → u.d = d) (hq : ∀ u, q = some u → u.d = d) : y.d = d ∧ (p.isSome = true ∨ q.isSome = true) := by
  cases p with
  | none =>
    cases q with
    | none => cases h
    | some v => simp [comb] at h; subst h; exact ⟨hq v rfl, .inr rfl⟩
  | some u =>
    cases q with
    | none => simp [comb] at h; subst h; exact ⟨hp u rfl, .inl rfl⟩
    | some v =>
      simp [comb] at h
      subst h
      exact ⟨by rw [merge_d ((hp u rfl).trans (hq v rfl).symm)]; exact hq v rfl, .inl rfl⟩
theorem joinL_spec : ∀ (l m j : List Nd), l.Pairwise ltP → m.Pairwise ltP → joinL l m = some j → j.Pairwise ltP ∧ ∀ d, getN j d = comb (getN l d) (getN m d) := by
  intro l m
  have low : ∀ {z : Nd} {a b j : List Nd}, j.Pairwise ltP → (∀ d, getN j d = comb (getN a d) (getN b d)) → (∀ y ∈ a, ltP z y) → (∀ y ∈ b, ltP z y) → ∀ y ∈ j, ltP z y := by
    intro z a b j hj hg ha hb y hy
    have h1 := getN_mem hj hy
    rw [hg] at h1
    obtain ⟨_, h2⟩ := comb_dot h1 (fun u hu => (getN_some hu).2) fun u hu => (getN_some hu).2
    have key : ∀ {c : List Nd}, (getN c y.d).isSome = true → (∀ u ∈ c, ltP z u) → ltP z y := by
      intro c hc hz
      obtain ⟨u, hu⟩ := Option.isSome_iff_exists.1 hc
      obtain ⟨u1, u2⟩ := getN_some hu
      have := hz u u1
      unfold ltP at this ⊢
      rw [← u2]
      exact this
    rcases h2 with h2 | h2
    · exact key h2 ha
    · exact key h2 hb
  induction l, m using joinL.induct with
  | case1 b =>
    intro j _ hm h
    simp [joinL] at h
    subst h
    exact ⟨hm, fun d => by rw [getN_nil]; rfl⟩
  | case2 x a =>
    intro j hl _ h
    simp [joinL] at h
    subst h
    refine ⟨hl, fun d => ?_⟩
    rw [getN_nil]
    cases getN (x :: a) d <;> rfl
  | case3 x a y b h1 ih =>
    intro j hl hm h
    have hl' := List.pairwise_cons.1 hl
    have hall : ∀ z ∈ y :: b, ltP x z := by
      intro z hz
      rcases List.mem_cons.1 hz with rfl | hz
      · exact h1
      · exact ltP_trans h1 ((List.pairwise_cons.1 hm).1 z hz)
    rw [joinL, if_pos h1, Option.map_eq_some_iff] at h
    obtain ⟨j', hj, rfl⟩ := h
    obtain ⟨s1, s2⟩ := ih j' hl'.2 hm hj
    refine ⟨List.pairwise_cons.2 ⟨low s1 s2 hl'.1 hall, s1⟩, fun d => ?_⟩
    rw [getN_cons, getN_cons x a]
    by_cases hd : x.d = d
    · rw [if_pos hd, if_pos hd, ← hd, getN_above hall]; rfl
    · rw [if_neg hd, if_neg hd, s2]
  | case4 x a y b h1 h2 ih =>
    intro j hl hm h
    have hl' := List.pairwise_cons.1 hl
    have hm' := List.pairwise_cons.1 hm
    have hall : ∀ z ∈ x :: a, ltP y z := by
      intro z hz
      rcases List.mem_cons.1 hz with rfl | hz
      · exact h2
      · exact ltP_trans h2 (hl'.1 z hz)
    rw [joinL, if_neg h1, if_pos h2, Option.map_eq_some_iff] at h
    obtain ⟨j', hj, rfl⟩ := h
    obtain ⟨s1, s2⟩ := ih j' hl hm'.2 hj
    refine ⟨List.pairwise_cons.2 ⟨low s1 s2 hall hm'.1, s1⟩, fun d => ?_⟩
    rw [getN_cons, getN_cons y b]
    by_cases hd : y.d = d
    · rw [if_pos hd, if_pos hd, ← hd, getN_above hall]; rfl
    · rw [if_neg hd, if_neg hd, s2]
  | case5 x a y b h1 h2 h3 =>
    intro j _ _ h
    rw [joinL, if_neg h1, if_neg h2, if_pos h3] at h
    cases h
  | case6 x a y b h1 h2 h3 ih =>
    intro j hl hm h
    have hl' := List.pairwise_cons.1 hl
    have hm' := List.pairwise_cons.1 hm
    have hd : x.d = y.d := by
      rcases dcmp_cases x.d y.d with ⟨_, q, _⟩ | ⟨_, _, q⟩ | ⟨_, _, _, q⟩
      · exact absurd q h1
      · exact absurd q h2
      · exact q
    have hmd := merge_d hd
    rw [joinL, if_neg h1, if_neg h2, if_neg h3, Option.map_eq_some_iff] at h
    obtain ⟨j', hj, rfl⟩ := h
    obtain ⟨s1, s2⟩ := ih j' hl'.2 hm'.2 hj
    refine ⟨List.pairwise_cons.2 ⟨low s1 s2 (fun z hz => ?_) (fun z hz => ?_), s1⟩, fun d => ?_⟩
    · have := hl'.1 z hz
      unfold ltP at this ⊢
      rw [hmd, ← hd]
      exact this
    · have := hm'.1 z hz
      unfold ltP at this ⊢
      rw [hmd]
      exact this
    · rw [getN_cons, getN_cons x a, getN_cons y b, hmd, hd]
      by_cases hd' : y.d = d
      · rw [if_pos hd', if_pos hd', if_pos hd']; rfl
      · rw [if_neg hd', if_neg hd', if_neg hd', s2]

/-! ### At one dot -/
theorem clash_symm (x y : Nd) : x.clash y = y.clash x := by
  rw [Bool.eq_iff_iff, Nd.clash_true, Nd.clash_true]
  grind
theorem clash_self (x : Nd) : x.clash x = false := by
  rw [Nd.clash_false]
  exact ⟨rfl, rfl, rfl, .inr (.inr rfl)⟩
theorem merge_self (x : Nd) : x.merge x = x := by
  unfold Nd.merge
  split <;> rfl
theorem merge_comm {x y : Nd} (h : x.clash y = false) : x.merge y = y.merge x := by
  rw [Nd.clash_false] at h
  obtain ⟨⟨_, _⟩, ⟨_, _⟩, _, _⟩ := x
  obtain ⟨⟨_, _⟩, ⟨_, _⟩, _, _⟩ := y
  simp only [Nd.merge] at *
  grind
theorem clash_merge {x y : Nd} (h : x.clash y = false) : x.clash (x.merge y) = false ∧ y.clash (x.merge y) = false := by
  rw [Nd.clash_false] at h
  rw [Nd.clash_false, Nd.clash_false]
  unfold Nd.merge
  split <;> grind
theorem merge_absorb {x y : Nd} (h : x.clash y = false) : x.merge (x.merge y) = x.merge y ∧ (x.merge y).merge x = x.merge y := by
  rw [Nd.clash_false] at h
  obtain ⟨⟨_, _⟩, ⟨_, _⟩, _, _⟩ := x
  obtain ⟨⟨_, _⟩, ⟨_, _⟩, _, _⟩ := y
  simp only [Nd.merge] at *
  grind
theorem merge_assoc {x y z : Nd} (h : x.clash y = false) (k : x.clash z = false) (j : y.clash z = false) : (x.merge y).merge z = x.merge (y.merge z) := by
  rw [Nd.clash_false] at h k j
  obtain ⟨⟨_, _⟩, ⟨_, _⟩, _, _⟩ := x
  obtain ⟨⟨_, _⟩, ⟨_, _⟩, _, _⟩ := y
  obtain ⟨⟨_, _⟩, ⟨_, _⟩, _, _⟩ := z
  simp only [Nd.merge] at *
  grind
theorem merge_clash {x y z : Nd} (h : x.clash y = false) (k : x.clash z = false) (j : y.clash z = false) : (x.merge y).clash z = false := by
  unfold Nd.merge
  split <;> assumption
theorem merge_dead {x y : Nd} (h : x.x = 0) : (x.merge y).x = 0 := by
  unfold Nd.merge
  split <;> assumption
theorem agree_iff {l m : List Nd} (hl : l.Pairwise ltP) : agreeL l m = true ↔ ∀ d x y, getN l d = some x → getN m d = some y → x.clash y = false := by
  unfold agreeL
  rw [List.all_eq_true]
  constructor
  · intro h d x y hx hy
    obtain ⟨h1, h2⟩ := getN_some hx
    have := h x h1
    unfold getN at hy
    rw [← h2] at hy
    cases hk : lookN m x.d with
    | none => rw [hk] at hy; cases hy
    | some p =>
      obtain ⟨k, y'⟩ := p
      rw [hk] at hy this
      simp at hy this
      rw [← hy]
      exact this
  · intro h x hx
    cases hk : lookN m x.d with
    | none => rfl
    | some p =>
      obtain ⟨k, y⟩ := p
      have := h x.d x y (getN_mem hl hx) (by unfold getN; rw [hk]; rfl)
      simp [this]
end Go.AM
end
/-
  The answers of join.Agree, Within and Join as plain pairs. Own work of this project; in part printed by a program of it.
-/
section
set_option linter.unusedVariables false
set_option linter.unusedSimpArgs false
set_option maxRecDepth 100000
set_option maxHeartbeats 8000000
namespace Go.AM
open Go Go.Proofs

theorem tb_at (g : Nat) (c : Con) (r : List (Nat × Con)) (f : Nat) : tb ((g, c) :: r) f = if f = g then c else tb r f := nrfl rfl
def agreeP (l m : List Nd) : Bool × Int := if storeL l = true ∧ storeL m = true then (if agreeL l m = true then (true, 0) else (false, 0)) else (false, 2)
def withinP (l m : List Nd) : Bool × Int := if storeL l = true ∧ storeL m = true then (if agreeL l m = true then (decide (refJ l m = m), 0) else (false, 15)) else (false, 2)
def joinsP (l m : List Nd) : List Nd × Int := if storeL l = true ∧ storeL m = true then (if agreeL l m = true then (refJ l m, 0) else ([], 15)) else ([], 2)
theorem gJoin_P (l m : List Nd) : gJoin l m = some ((joinsP l m).1, some (.int .i64 (joinsP l m).2)) := by
  unfold gJoin joinsP
  by_cases h : storeL l = true ∧ storeL m = true
  · rw [if_pos h, if_pos h, store_join h.1 h.2]
    by_cases ha : agreeL l m = true
    · simp [ha]
    · simp [ha]
  · rw [if_neg h, if_neg h]
theorem agreeV_P (l m : List Nd) : agreeV l m = .tup [.bool (agreeP l m).1, .int .i64 (agreeP l m).2] := by
  unfold agreeV agreeP
  rw [gJoin_P]
  unfold joinsP
  by_cases h : storeL l = true ∧ storeL m = true
  · rw [if_pos h, if_pos h]
    by_cases ha : agreeL l m = true
    · rw [if_pos ha, if_pos ha]; rfl
    · rw [if_neg ha, if_neg ha]; rfl
  · rw [if_neg h, if_neg h]; rfl
theorem withinV_P (l m : List Nd) : withinV l m = .tup [.bool (withinP l m).1, .int .i64 (withinP l m).2] := by
  unfold withinV withinP
  rw [gJoin_P]
  unfold joinsP
  by_cases h : storeL l = true ∧ storeL m = true
  · rw [if_pos h, if_pos h]
    by_cases ha : agreeL l m = true
    · rw [if_pos ha, if_pos ha]; rfl
    · rw [if_neg ha, if_neg ha]; rfl
  · rw [if_neg h, if_neg h]; rfl
theorem joinsP_len (l m : List Nd) : (joinsP l m).1.length ≤ l.length + m.length := by
  rcases gJoin_cases l m with ⟨j, _, _, hj, hg⟩ | ⟨_, _, _, hg⟩ | ⟨_, hg⟩ <;> (rw [gJoin_P] at hg; injection hg with hg; have hg := (Prod.mk.inj hg).1; rw [hg])
  · exact joinL_len _ _ _ hj
  · simp
  · simp
theorem beq_eq_dec (a b : Bool) : (a == b) = decide (a = b) := by cases a <;> cases b <;> rfl

end Go.AM
end
/-
  Plain laws: the join of what does not clash is determined by what is in it. Own work of this project.
-/
section
set_option linter.unusedVariables false
set_option linter.unusedSimpArgs false
namespace Go.AM
open Go Go.Proofs

/-- No two of them clash. -/
def NC (S : Nd → Prop) : Prop := ∀ x y, S x → S y → x.d = y.d → x.clash y = false
theorem NC.sub {S T : Nd → Prop} (h : NC S) (k : ∀ x, T x → S x) : NC T := fun x y hx hy e => h x y (k x hx) (k y hy) e
/-- All dots of S, each once, in order; dead where one is dead. -/
structure Res (S : Nd → Prop) (j : List Nd) : Prop where
  sorted : j.Pairwise ltP
  sub : ∀ y ∈ j, S y
  dead : ∀ y ∈ j, ∀ z, S z → z.d = y.d → z.x = 0 → y.x = 0
  cover : ∀ z, S z → ∃ y ∈ j, y.d = z.d
theorem nd_eq {x y : Nd} (hc : x.clash y = false) (h0 : x.x = 0 ↔ y.x = 0) : x = y := by
  rw [Nd.clash_false] at hc
  obtain ⟨⟨_, _⟩, ⟨_, _⟩, _, _⟩ := x
  obtain ⟨⟨_, _⟩, ⟨_, _⟩, _, _⟩ := y
  simp only at *
  grind
theorem Res.mem {S : Nd → Prop} (hS : NC S) {j k : List Nd} (h : Res S j) (g : Res S k) {y : Nd} (hy : y ∈ j) : y ∈ k := by
  obtain ⟨y', h1, h2⟩ := g.cover y (h.sub y hy)
  have hc := hS y y' (h.sub y hy) (g.sub y' h1) h2.symm
  have : y = y' := nd_eq hc ⟨fun e => g.dead y' h1 y (h.sub y hy) h2.symm e, fun e => h.dead y hy y' (g.sub y' h1) h2 e⟩
  rw [this]
  exact h1
theorem Res.uniq {S : Nd → Prop} (hS : NC S) {j k : List Nd} (h : Res S j) (g : Res S k) : j = k :=
  sorted_unique j k ((List.perm_ext_iff_of_nodup (nodup_of h.sorted) (nodup_of g.sorted)).2 fun x => ⟨fun hx => h.mem hS g hx, fun hx => g.mem hS h hx⟩) h.sorted g.sorted
theorem Res.congr {S T : Nd → Prop} {j : List Nd} (h : Res S j) (e : ∀ x, S x ↔ T x) : Res T j :=
  ⟨h.sorted, fun y hy => (e y).1 (h.sub y hy), fun y hy z hz => h.dead y hy z ((e z).2 hz), fun z hz => h.cover z ((e z).2 hz)⟩
def M2 (l m : List Nd) (x : Nd) : Prop := x ∈ l ∨ x ∈ m
/-- The join of a join. -/
theorem Res.step {S T : Nd → Prop} {j k : List Nd} (h : Res S j) (g : Res (fun x => x ∈ j ∨ T x) k) : Res (fun x => S x ∨ T x) k := by
  refine ⟨g.sorted, fun y hy => ?_, fun y hy z hz e z0 => ?_, fun z hz => ?_⟩
  · rcases g.sub y hy with q | q
    · exact .inl (h.sub y q)
    · exact .inr q
  · rcases hz with q | q
    · obtain ⟨y', h1, h2⟩ := h.cover z q
      exact g.dead y hy y' (.inl h1) (h2.trans e) (h.dead y' h1 z q h2.symm z0)
    · exact g.dead y hy z (.inr q) e z0
  · rcases hz with q | q
    · obtain ⟨y', h1, h2⟩ := h.cover z q
      obtain ⟨y, h3, h4⟩ := g.cover y' (.inl h1)
      exact ⟨y, h3, h4.trans h2⟩
    · exact g.cover z (.inr q)
theorem sorted_dot {l : List Nd} (hl : l.Pairwise ltP) {x y : Nd} (hx : x ∈ l) (hy : y ∈ l) (e : x.d = y.d) : x = y := by
  have h1 := getN_mem hl hx
  have h2 := getN_mem hl hy
  rw [e, h2] at h1
  injection h1 with h1
  exact h1.symm
theorem nc_agree {l m : List Nd} (hl : l.Pairwise ltP) (hm : m.Pairwise ltP) : agreeL l m = true ↔ NC (M2 l m) := by
  rw [agree_iff hl]
  constructor
  · intro h x y hx hy e
    rcases hx with hx | hx <;> rcases hy with hy | hy
    · rw [sorted_dot hl hx hy e]; exact clash_self y
    · exact h x.d x y (getN_mem hl hx) (by rw [e]; exact getN_mem hm hy)
    · rw [clash_symm]
      exact h y.d y x (getN_mem hl hy) (by rw [← e]; exact getN_mem hm hx)
    · rw [sorted_dot hm hx hy e]; exact clash_self y
  · intro h d x y hx hy
    obtain ⟨h1, h2⟩ := getN_some hx
    obtain ⟨h3, h4⟩ := getN_some hy
    exact h x y (.inl h1) (.inr h3) (h2.trans h4.symm)
theorem res_join {l m : List Nd} (hl : l.Pairwise ltP) (hm : m.Pairwise ltP) (ha : agreeL l m = true) : Res (M2 l m) (refJ l m) := by
  have hj := join_ref l m hl hm
  rw [if_pos ha] at hj
  obtain ⟨hs, hg⟩ := joinL_spec l m _ hl hm hj
  have key : ∀ y ∈ refJ l m, comb (getN l y.d) (getN m y.d) = some y := fun y hy => by rw [← hg]; exact getN_mem hs hy
  refine ⟨hs, fun y hy => ?_, fun y hy z hz e z0 => ?_, fun z hz => ?_⟩
  · have hk := key y hy
    cases h1 : getN l y.d with
    | none =>
      cases h2 : getN m y.d with
      | none => rw [h1, h2] at hk; cases hk
      | some v => rw [h1, h2] at hk; simp [comb] at hk; subst hk; exact .inr (getN_some h2).1
    | some u =>
      cases h2 : getN m y.d with
      | none => rw [h1, h2] at hk; simp [comb] at hk; subst hk; exact .inl (getN_some h1).1
      | some v =>
        rw [h1, h2] at hk
        simp only [comb, Option.some.injEq] at hk
        unfold Nd.merge at hk
        split at hk
        · rw [← hk]; exact .inr (getN_some h2).1
        · rw [← hk]; exact .inl (getN_some h1).1
  · have hk := key y hy
    rcases hz with hz | hz
    · have h1 := getN_mem hl hz
      rw [e] at h1
      rw [h1] at hk
      cases h2 : getN m y.d with
      | none => rw [h2] at hk; simp [comb] at hk; rw [← hk]; exact z0
      | some v =>
        rw [h2] at hk
        simp only [comb, Option.some.injEq] at hk
        rw [← hk]
        exact merge_dead z0
    · have h1 := getN_mem hm hz
      rw [e] at h1
      rw [h1] at hk
      cases h2 : getN l y.d with
      | none => rw [h2] at hk; simp [comb] at hk; rw [← hk]; exact z0
      | some v =>
        rw [h2] at hk
        simp only [comb, Option.some.injEq] at hk
        rw [← hk]
        unfold Nd.merge
        rw [if_pos z0]
        exact z0
  · have : (getN (refJ l m) z.d).isSome = true := by
      rw [hg]
      rcases hz with hz | hz
      · rw [getN_mem hl hz]
        cases getN m z.d <;> rfl
      · rw [getN_mem hm hz]
        cases getN l z.d <;> rfl
    obtain ⟨y, hy⟩ := Option.isSome_iff_exists.1 this
    obtain ⟨h1, h2⟩ := getN_some hy
    exact ⟨y, h1, h2⟩

/-! ### store.Of: one list with all -/
theorem updN_mem' {l : List Nd} {x y : Nd} (hn : (l.map Nd.d).Nodup) (h : y ∈ updN l x) : y = x ∨ (y ∈ l ∧ y.d ≠ x.d) := by
  unfold updN at h
  split at h
  · rename_i j old hj
    obtain ⟨h1, h2⟩ := lookN_some hj
    obtain ⟨i, hi⟩ := List.getElem?_of_mem h
    by_cases hij : j = i
    · subst hij
      rw [List.getElem?_set_self (getlt h1)] at hi
      injection hi with hi
      exact .inl hi.symm
    · rw [List.getElem?_set_ne hij] at hi
      refine .inr ⟨List.mem_of_getElem? hi, fun e => hij ?_⟩
      have hlt : j < (l.map Nd.d).length := by simpa using getlt h1
      have he : (l.map Nd.d)[j]? = (l.map Nd.d)[i]? := by
        rw [List.getElem?_map, List.getElem?_map, h1, hi]
        simp [h2, e]
      exact (List.getElem?_inj hlt hn).1 he
  · rename_i hj
    rcases List.mem_append.1 h with h | h
    · exact .inr ⟨h, lookN_none hj y h⟩
    · exact .inl (by simpa using h)
theorem updN_self (l : List Nd) (x : Nd) : x ∈ updN l x := by
  unfold updN
  split
  · rename_i j old hj
    obtain ⟨h1, _⟩ := lookN_some hj
    exact List.mem_of_getElem? (List.getElem?_set_self (getlt h1))
  · simp
theorem updN_old {l : List Nd} {x z : Nd} (h : z ∈ l) (e : z.d ≠ x.d) : z ∈ updN l x := by
  unfold updN
  split
  · rename_i j old hj
    obtain ⟨h1, h2⟩ := lookN_some hj
    obtain ⟨i, hi⟩ := List.getElem?_of_mem h
    have hij : j ≠ i := by
      rintro rfl
      rw [h1] at hi
      injection hi with hi
      subst hi
      exact e h2
    exact List.mem_of_getElem? (by rw [List.getElem?_set_ne hij]; exact hi)
  · exact List.mem_append.2 (.inl h)
theorem updN_cov {l : List Nd} {x z : Nd} (h : z ∈ l) : ∃ y ∈ updN l x, y.d = z.d := by
  by_cases e : z.d = x.d
  · exact ⟨x, updN_self l x, e.symm⟩
  · exact ⟨z, updN_old h e, rfl⟩
def clA (A : List Nd) (n : Nd) : Bool := match lookN A n.d with
  | some (_, x) => x.clash n
  | none => false
theorem ofStep_eq (M A : List Nd) (n : Nd) : ofStep M A n = if clA A n = true then none else match lookN M n.d with
    | some (_, old) => if old.clash n = true then none else some (updN M (old.merge n), if n.x = 0 then A else updN A n)
    | none => some (updN M n, if n.x = 0 then A else updN A n) := rfl
structure OInv (p M A : List Nd) : Prop where
  nc : NC (· ∈ p)
  nd : (M.map Nd.d).Nodup
  sub : ∀ y ∈ M, y ∈ p
  dead : ∀ y ∈ M, ∀ z ∈ p, z.d = y.d → z.x = 0 → y.x = 0
  cover : ∀ z ∈ p, ∃ y ∈ M, y.d = z.d
  asub : ∀ y ∈ A, y ∈ p ∧ y.x ≠ 0
  acov : ∀ z ∈ p, z.x ≠ 0 → ∃ y ∈ A, y.d = z.d
theorem OInv.nil : OInv [] [] [] := ⟨fun x y h => by simp at h, by simp, by simp, by simp, by simp, by simp, by simp⟩
theorem look_in {l : List Nd} {d : Dot} (h : ∃ y ∈ l, y.d = d) : ∃ j y, lookN l d = some (j, y) := by
  obtain ⟨y, h1, h2⟩ := h
  cases hk : lookN l d with
  | none => exact absurd h2 (lookN_none hk y h1)
  | some p => exact ⟨p.1, p.2, rfl⟩
theorem OInv.step {p M A : List Nd} (h : OInv p M A) (n : Nd) : match ofStep M A n with
    | some (M', A') => OInv (p ++ [n]) M' A'
    | none => ∃ x ∈ p, x.d = n.d ∧ x.clash n = true := by
  have hA : ∀ z ∈ p, z.x ≠ 0 → z.d = n.d → clA A n = false → z.clash n = false := by
    intro z hz z0 hd hc
    obtain ⟨j, y, hj⟩ := look_in (h.acov z hz z0)
    rw [hd] at hj
    obtain ⟨h1, h2⟩ := lookN_some hj
    obtain ⟨y1, y2⟩ := h.asub y (List.mem_of_getElem? h1)
    unfold clA at hc
    rw [hj] at hc
    simp only at hc
    have : z = y := nd_eq (h.nc z y hz y1 (hd.trans h2.symm)) ⟨fun e => absurd e z0, fun e => absurd e y2⟩
    rw [this]
    exact hc
  have mk : ∀ m : Nd, m.d = n.d → (m = n ∨ m ∈ M) → (n.x = 0 → m.x = 0) → (∀ z ∈ p, z.d = n.d → z.x = 0 → m.x = 0) → (∀ z ∈ p, z.d = n.d → z.clash n = false) → OInv (p ++ [n]) (updN M m) (if n.x = 0 then A else updN A n) := by
    intro m md hm m0 mp hnc
    have hmem : ∀ x, x ∈ p ++ [n] ↔ x ∈ p ∨ x = n := by simp
    refine ⟨fun x y hx hy e => ?_, updN_nodup h.nd, fun y hy => ?_, fun y hy z hz e z0 => ?_, fun z hz => ?_, fun y hy => ?_, fun z hz z0 => ?_⟩
    · rcases (hmem x).1 hx with kx | kx <;> rcases (hmem y).1 hy with ky | ky
      · exact h.nc x y kx ky e
      · rw [ky]; exact hnc x kx (by rw [e, ky])
      · rw [clash_symm, kx]; exact hnc y ky (by rw [← e, kx])
      · rw [kx, ky]; exact clash_self _
    · rw [hmem]
      rcases updN_mem hy with rfl | hy
      · rcases hm with rfl | hm
        · exact .inr rfl
        · exact .inl (h.sub _ hm)
      · exact .inl (h.sub y hy)
    · rw [hmem] at hz
      rcases updN_mem' h.nd hy with rfl | ⟨hy, hyd⟩
      · rcases hz with hz | rfl
        · exact mp z hz (e.trans md) z0
        · exact m0 z0
      · rcases hz with hz | rfl
        · exact h.dead y hy z hz e z0
        · exact absurd (e.symm.trans md.symm) hyd
    · rw [hmem] at hz
      rcases hz with hz | rfl
      · obtain ⟨y, h1, h2⟩ := h.cover z hz
        obtain ⟨y', h3, h4⟩ := updN_cov (x := m) h1
        exact ⟨y', h3, h4.trans h2⟩
      · exact ⟨m, updN_self M m, md⟩
    · split at hy
      · exact ⟨(hmem y).2 (.inl (h.asub y hy).1), (h.asub y hy).2⟩
      · rename_i hn0
        rcases updN_mem hy with rfl | hy
        · exact ⟨(hmem _).2 (.inr rfl), hn0⟩
        · exact ⟨(hmem y).2 (.inl (h.asub y hy).1), (h.asub y hy).2⟩
    · rw [hmem] at hz
      rcases hz with hz | rfl
      · obtain ⟨y, h1, h2⟩ := h.acov z hz z0
        split
        · exact ⟨y, h1, h2⟩
        · obtain ⟨y', h3, h4⟩ := updN_cov (x := n) h1
          exact ⟨y', h3, h4.trans h2⟩
      · rw [if_neg z0]
        exact ⟨z, updN_self A z, rfl⟩
  rw [ofStep_eq]
  by_cases hc : clA A n = true
  · rw [if_pos hc]
    unfold clA at hc
    cases hk : lookN A n.d with
    | none => rw [hk] at hc; cases hc
    | some q =>
      obtain ⟨j, y⟩ := q
      rw [hk] at hc
      obtain ⟨h1, h2⟩ := lookN_some hk
      exact ⟨y, (h.asub y (List.mem_of_getElem? h1)).1, h2, hc⟩
  · rw [if_neg hc]
    have hc' : clA A n = false := by simpa using hc
    cases hm : lookN M n.d with
    | none =>
      have hno : ∀ z ∈ p, z.d ≠ n.d := fun z hz e => by
        obtain ⟨y, h1, h2⟩ := h.cover z hz
        exact lookN_none hm y h1 (h2.trans e)
      exact mk n rfl (.inl rfl) (fun e => e) (fun z hz e => absurd e (hno z hz)) fun z hz e => absurd e (hno z hz)
    | some q =>
      obtain ⟨j, old⟩ := q
      obtain ⟨h1, h2⟩ := lookN_some hm
      have ho := List.mem_of_getElem? h1
      simp only
      by_cases hco : old.clash n = true
      · rw [if_pos hco]
        exact ⟨old, h.sub old ho, h2, hco⟩
      · rw [if_neg hco]
        have hco' : old.clash n = false := by simpa using hco
        refine mk (old.merge n) (merge_d h2) ?_ (fun e => ?_) (fun z hz e z0 => ?_) fun z hz e => ?_
        · unfold Nd.merge
          split
          · exact .inl rfl
          · exact .inr ho
        · unfold Nd.merge
          rw [if_pos e]
          exact e
        · exact merge_dead (h.dead old ho z hz (e.trans h2.symm) z0)
        · by_cases z0 : z.x = 0
          · have hzo := h.nc z old hz (h.sub old ho) (e.trans h2.symm)
            rw [Nd.clash_false] at hzo hco' ⊢
            grind
          · exact hA z hz z0 e hc'
theorem of_fold : ∀ (r p M A : List Nd), OInv p M A → match ofFold r M A with
    | some M' => ∃ A', OInv (p ++ r) M' A'
    | none => ¬ NC (· ∈ p ++ r)
  | [], p, M, A, h => by
    rw [List.append_nil]
    exact ⟨A, h⟩
  | n :: r, p, M, A, h => by
    have hs := h.step n
    rw [ofFold]
    cases hk : ofStep M A n with
    | none =>
      rw [hk] at hs
      obtain ⟨x, h1, h2, h3⟩ := hs
      intro hn
      have := hn x n (List.mem_append.2 (.inl h1)) (by simp) h2
      rw [this] at h3
      cases h3
    | some q =>
      obtain ⟨M', A'⟩ := q
      rw [hk] at hs
      have := of_fold r (p ++ [n]) M' A' hs
      rw [List.append_assoc, List.singleton_append] at this
      exact this
theorem gof_res {l : List Nd} (hv : l.all Nd.valid = true) : (NC (· ∈ l) ∧ ∃ j, gOf l = some (j, some (.int .i64 0)) ∧ Res (· ∈ l) j) ∨ (¬ NC (· ∈ l) ∧ gOf l = some ([], some (.int .i64 15))) := by
  have h := of_fold l [] [] [] .nil
  rw [List.nil_append] at h
  unfold gOf
  rw [if_pos hv]
  cases hk : ofFold l [] [] with
  | none =>
    rw [hk] at h
    exact .inr ⟨h, rfl⟩
  | some M =>
    rw [hk] at h
    obtain ⟨A, h⟩ := h
    have hp := sortN_perm M
    refine .inl ⟨h.nc, sortN M, rfl, sortN_sorted M h.nd, fun y hy => h.sub y (hp.mem_iff.1 hy), fun y hy z hz e z0 => h.dead y (hp.mem_iff.1 hy) z hz e z0, fun z hz => ?_⟩
    obtain ⟨y, h1, h2⟩ := h.cover z hz
    exact ⟨y, hp.mem_iff.2 h1, h2⟩

/-! ### join.All -/
def ofP (l : List Nd) : List Nd × Int := match gOf l with
  | some (j, some (.int _ e)) => (j, e)
  | _ => ([], 2)
def allP (ls : List (List Nd)) : List Nd × Int := if ls.all storeL = true then ofP ls.flatten else ([], 2)
theorem gOf_P (l : List Nd) : gOf l = some ((ofP l).1, some (.int .i64 (ofP l).2)) := by
  unfold ofP gOf
  split
  · split <;> rfl
  · rfl
theorem store_valid {l : List Nd} (h : storeL l = true) : l.all Nd.valid = true := by
  simp only [storeL, Bool.and_eq_true] at h
  exact h.1
theorem flat_valid {ls : List (List Nd)} (h : ls.all storeL = true) : ls.flatten.all Nd.valid = true := by
  rw [List.all_eq_true] at h ⊢
  intro x hx
  obtain ⟨l, h1, h2⟩ := List.mem_flatten.1 hx
  exact List.all_eq_true.1 (store_valid (h l h1)) x h2
theorem allP_res {ls : List (List Nd)} {S : Nd → Prop} {j : List Nd} (hs : ls.all storeL = true) (e : ∀ x, S x ↔ x ∈ ls.flatten) (hn : NC S) (h : Res S j) : allP ls = (j, 0) := by
  unfold allP ofP
  rw [if_pos hs]
  rcases gof_res (flat_valid hs) with ⟨h1, k, h2, h3⟩ | ⟨h1, _⟩
  · rw [h2, h3.uniq h1 (h.congr e)]
  · exact absurd (hn.sub fun x hx => (e x).2 hx) h1
theorem allP_clash {ls : List (List Nd)} {S : Nd → Prop} (hs : ls.all storeL = true) (e : ∀ x, S x ↔ x ∈ ls.flatten) (hn : ¬ NC S) : allP ls = ([], 15) := by
  unfold allP ofP
  rw [if_pos hs]
  rcases gof_res (flat_valid hs) with ⟨h1, _⟩ | ⟨_, h2⟩
  · exact absurd (h1.sub fun x hx => (e x).1 hx) hn
  · rw [h2]

/-! ### What JoinHolds asks -/
theorem store_of_res {S : Nd → Prop} {j : List Nd} (h : Res S j) (hv : ∀ x, S x → x.valid = true) : storeL j = true := by
  simp only [storeL, Bool.and_eq_true]
  exact ⟨List.all_eq_true.2 fun x hx => hv x (h.sub x hx), pairwise_chain h.sorted⟩
theorem store_mem {l : List Nd} (h : storeL l = true) {x : Nd} (hx : x ∈ l) : x.valid = true := List.all_eq_true.1 (store_valid h) x hx
theorem res_self {l : List Nd} (hl : l.Pairwise ltP) : Res (M2 l l) l :=
  ⟨hl, fun y hy => .inl hy, fun y hy z hz e z0 => by
    have hz : z ∈ l := by rcases hz with hz | hz <;> exact hz
    rw [← sorted_dot hl hz hy e]
    exact z0, fun z hz => ⟨z, by rcases hz with hz | hz <;> exact hz, rfl⟩⟩
theorem agree_self {l : List Nd} (hl : l.Pairwise ltP) : agreeL l l = true := (nc_agree hl hl).2 fun x y hx hy e => by
  have hx : x ∈ l := by rcases hx with h | h <;> exact h
  have hy : y ∈ l := by rcases hy with h | h <;> exact h
  rw [sorted_dot hl hx hy e]
  exact clash_self y
theorem M2_symm (l m : List Nd) (x : Nd) : M2 l m x ↔ M2 m l x := Or.comm
theorem agree_symm {l m : List Nd} (hl : l.Pairwise ltP) (hm : m.Pairwise ltP) : agreeL l m = agreeL m l := by
  rw [Bool.eq_iff_iff, nc_agree hl hm, nc_agree hm hl]
  exact ⟨fun h => h.sub fun x hx => (M2_symm _ _ x).1 hx, fun h => h.sub fun x hx => (M2_symm _ _ x).1 hx⟩
theorem refJ_uniq {S : Nd → Prop} (hS : NC S) {l m j : List Nd} (hl : l.Pairwise ltP) (hm : m.Pairwise ltP) (h : Res S j) (e : ∀ x, S x ↔ M2 l m x) : agreeL l m = true ∧ refJ l m = j := by
  have ha : agreeL l m = true := (nc_agree hl hm).2 (hS.sub fun x hx => (e x).2 hx)
  exact ⟨ha, ((res_join hl hm ha).congr fun x => (e x).symm).uniq hS h⟩
theorem refJ_self {l : List Nd} (hl : l.Pairwise ltP) : refJ l l = l :=
  (refJ_uniq ((nc_agree hl hl).1 (agree_self hl)) hl hl (res_self hl) fun x => Iff.rfl).2
theorem refJ_symm {l m : List Nd} (hl : l.Pairwise ltP) (hm : m.Pairwise ltP) (ha : agreeL l m = true) : refJ m l = refJ l m :=
  (refJ_uniq ((nc_agree hl hm).1 ha) hm hl (res_join hl hm ha) fun x => M2_symm _ _ x).2
/-- What is in a join already changes nothing. -/
theorem refJ_in {S : Nd → Prop} {l j : List Nd} (hS : NC S) (hl : l.Pairwise ltP) (h : Res S j) (hin : ∀ x ∈ l, S x) : agreeL l j = true ∧ refJ l j = j ∧ agreeL j l = true ∧ refJ j l = j := by
  have hR : Res (M2 l j) j := ⟨h.sorted, fun y hy => .inr hy, fun y hy z hz e z0 => h.dead y hy z (by
    rcases hz with hz | hz
    · exact hin z hz
    · exact h.sub z hz) e z0, fun z hz => h.cover z (by
    rcases hz with hz | hz
    · exact hin z hz
    · exact h.sub z hz)⟩
  have hN : NC (M2 l j) := hS.sub fun x hx => by
    rcases hx with hx | hx
    · exact hin x hx
    · exact h.sub x hx
  obtain ⟨a1, a2⟩ := refJ_uniq hN hl h.sorted hR fun x => Iff.rfl
  obtain ⟨a3, a4⟩ := refJ_uniq hN h.sorted hl hR fun x => M2_symm _ _ x
  exact ⟨a1, a2, a3, a4⟩
theorem joinsP_ok {l m j : List Nd} (hl : storeL l = true) (hm : storeL m = true) (ha : agreeL l m = true) (hj : refJ l m = j) : joinsP l m = (j, 0) := by
  unfold joinsP
  rw [if_pos ⟨hl, hm⟩, if_pos ha, hj]
theorem joinsP_clash {l m : List Nd} (hl : storeL l = true) (hm : storeL m = true) (ha : agreeL l m = false) : joinsP l m = ([], 15) := by
  unfold joinsP
  rw [if_pos ⟨hl, hm⟩, if_neg (by simp [ha])]
theorem withinP_ok {l m : List Nd} (hl : storeL l = true) (hm : storeL m = true) (ha : agreeL l m = true) : withinP l m = (decide (refJ l m = m), 0) := by
  unfold withinP
  rw [if_pos ⟨hl, hm⟩, if_pos ha]
theorem agreeP_ok {l m : List Nd} (hl : storeL l = true) (hm : storeL m = true) : agreeP l m = (agreeL l m, 0) := by
  unfold agreeP
  rw [if_pos ⟨hl, hm⟩]
  cases agreeL l m <;> rfl
def M3 (a b c : List Nd) (x : Nd) : Prop := x ∈ a ∨ x ∈ b ∨ x ∈ c
theorem nc3 {a b c : List Nd} (ha : a.Pairwise ltP) (hb : b.Pairwise ltP) (hc : c.Pairwise ltP) (h1 : agreeL a b = true) (h2 : agreeL a c = true) (h3 : agreeL b c = true) : NC (M3 a b c) := by
  have n1 := (nc_agree ha hb).1 h1
  have n2 := (nc_agree ha hc).1 h2
  have n3 := (nc_agree hb hc).1 h3
  intro x y hx hy e
  rcases hx with hx | hx | hx <;> rcases hy with hy | hy | hy
  · exact n1 x y (.inl hx) (.inl hy) e
  · exact n1 x y (.inl hx) (.inr hy) e
  · exact n2 x y (.inl hx) (.inr hy) e
  · exact n1 x y (.inr hx) (.inl hy) e
  · exact n1 x y (.inr hx) (.inr hy) e
  · exact n3 x y (.inl hx) (.inr hy) e
  · exact n2 x y (.inr hx) (.inl hy) e
  · exact n3 x y (.inr hx) (.inl hy) e
  · exact n3 x y (.inr hx) (.inr hy) e
structure Holds3 (a b c : List Nd) (bc all : List Nd) : Prop where
  s : storeL bc = true
  j1 : joinsP b c = (bc, 0)
  j2 : joinsP a bc = (all, 0)
  j3 : joinsP (refJ a b) c = (all, 0)
  a1 : allP [a, b, c] = (all, 0)
  a2 : allP [c, b, b, a, c] = (all, 0)
theorem holds_ab {a b : List Nd} (sa : storeL a = true) (sb : storeL b = true) (h : agreeL a b = true) : storeL (refJ a b) = true ∧ withinP a (refJ a b) = (true, 0) ∧ withinP b (refJ a b) = (true, 0) ∧ joinsP (refJ a b) a = (refJ a b, 0) ∧
    joinsP b a = (refJ a b, 0) ∧ withinP a b = (decide (refJ a b = b), 0) ∧ withinP b a = (decide (refJ a b = a), 0) ∧ ∀ n, M2 a b n → ∃ k y, lookN (refJ a b) n.d = some (k, y) ∧ (n.x = 0 → y.x = 0) := by
  have ha := store_sorted sa
  have hb := store_sorted sb
  have hN := (nc_agree ha hb).1 h
  have hR := res_join ha hb h
  have hs : storeL (refJ a b) = true := store_of_res hR fun x hx => by
    rcases hx with hx | hx
    · exact store_mem sa hx
    · exact store_mem sb hx
  obtain ⟨p1, p2, p3, p4⟩ := refJ_in hN ha hR fun x hx => .inl hx
  obtain ⟨q1, q2, _, _⟩ := refJ_in hN hb hR fun x hx => .inr hx
  have hba : agreeL b a = true := by rw [← agree_symm ha hb]; exact h
  refine ⟨hs, ?_, ?_, joinsP_ok hs sa p3 p4, joinsP_ok sb sa hba (refJ_symm ha hb h), withinP_ok sa sb h, ?_, fun n hn => ?_⟩
  · rw [withinP_ok sa hs p1, p2]; simp
  · rw [withinP_ok sb hs q1, q2]; simp
  · rw [withinP_ok sb sa hba, refJ_symm ha hb h]
  · obtain ⟨y, h1, h2⟩ := hR.cover n hn
    have h3 := getN_mem hR.sorted h1
    unfold getN at h3
    rw [h2] at h3
    cases hk : lookN (refJ a b) n.d with
    | none => rw [hk] at h3; cases h3
    | some q =>
      obtain ⟨k, z⟩ := q
      rw [hk] at h3
      simp at h3
      subst h3
      exact ⟨k, z, rfl, fun e => hR.dead z h1 n hn h2.symm e⟩
theorem holds_self {a : List Nd} (sa : storeL a = true) : joinsP a a = (a, 0) ∧ withinP a a = (true, 0) := by
  have ha := store_sorted sa
  refine ⟨joinsP_ok sa sa (agree_self ha) (refJ_self ha), ?_⟩
  rw [withinP_ok sa sa (agree_self ha), refJ_self ha]
  simp
theorem holds_3 {a b c : List Nd} (sa : storeL a = true) (sb : storeL b = true) (sc : storeL c = true) (h1 : agreeL a b = true) (h2 : agreeL a c = true) (h3 : agreeL b c = true) : ∃ bc all, Holds3 a b c bc all := by
  have ha := store_sorted sa
  have hb := store_sorted sb
  have hc := store_sorted sc
  have hN := nc3 ha hb hc h1 h2 h3
  have hab := res_join ha hb h1
  have hbc := res_join hb hc h3
  have sbc : storeL (refJ b c) = true := store_of_res hbc fun x hx => by
    rcases hx with hx | hx
    · exact store_mem sb hx
    · exact store_mem sc hx
  have sab : storeL (refJ a b) = true := (holds_ab sa sb h1).1
  have aabc : agreeL a (refJ b c) = true := (nc_agree ha hbc.sorted).2 (hN.sub fun x hx => by
    rcases hx with hx | hx
    · exact .inl hx
    · rcases hbc.sub x hx with hx | hx
      · exact .inr (.inl hx)
      · exact .inr (.inr hx))
  have hall : Res (M3 a b c) (refJ a (refJ b c)) := by
    have := (res_join ha hbc.sorted aabc).congr (fun x => M2_symm _ _ x)
    have := Res.step (T := (· ∈ a)) hbc this
    exact this.congr fun x => by unfold M2 M3; grind
  have aabc2 : agreeL (refJ a b) c = true := (nc_agree hab.sorted hc).2 (hN.sub fun x hx => by
    rcases hx with hx | hx
    · rcases hab.sub x hx with hx | hx
      · exact .inl hx
      · exact .inr (.inl hx)
    · exact .inr (.inr hx))
  have hall2 : Res (M3 a b c) (refJ (refJ a b) c) := by
    have := Res.step (T := (· ∈ c)) hab (res_join hab.sorted hc aabc2)
    exact this.congr fun x => by unfold M2 M3; grind
  have hst : ∀ l ∈ [a, b, c], storeL l = true := by
    intro l hl
    simp at hl
    rcases hl with rfl | rfl | rfl <;> assumption
  exact ⟨refJ b c, refJ a (refJ b c), sbc, joinsP_ok sb sc h3 rfl, joinsP_ok sa sbc aabc rfl, joinsP_ok sab sc aabc2 (hall2.uniq hN hall), allP_res (by simp [sa, sb, sc]) (fun x => by unfold M3; simp) hN hall, allP_res (by simp [sa, sb, sc]) (fun x => by unfold M3; simp; grind) hN hall⟩
theorem clash_3 {a b c : List Nd} (sa : storeL a = true) (sb : storeL b = true) (sc : storeL c = true) (h : ¬ (agreeL a c = true ∧ agreeL b c = true)) : allP [a, b, c] = ([], 15) := by
  have ha := store_sorted sa
  have hb := store_sorted sb
  have hc := store_sorted sc
  refine allP_clash (S := M3 a b c) (by simp [sa, sb, sc]) (fun x => by unfold M3; simp) fun hn => h ⟨(nc_agree ha hc).2 (hn.sub fun x hx => ?_), (nc_agree hb hc).2 (hn.sub fun x hx => ?_)⟩
  · rcases hx with hx | hx
    · exact .inl hx
    · exact .inr (.inr hx)
  · rcases hx with hx | hx
    · exact .inr (.inl hx)
    · exact .inr (.inr hx)
end Go.AM
end
/-
  Lists of lists; join.All. Own work of this project; in part printed by a program of it.
-/
section
set_option linter.unusedVariables false
set_option linter.unusedSimpArgs false
set_option maxRecDepth 100000
set_option maxHeartbeats 8000000
namespace Go.AM
open Go Go.Proofs

variable {s t : St}
/-! ### Lists of lists -/
def shownV (s : St) : AV → Option (List AV)
  | .nils => some []
  | .sl id off n _ z => if z = 1 then match s.get id with
      | some (.row cs _) => if off + n ≤ cs.length then some ((cs.drop off).take n) else none
      | _ => none
    else none
  | _ => none
def readA (s : St) : List AV → Option (List (List Nd))
  | [] => some []
  | v :: r => match read ndC s v, readA s r with
    | some l, some ls => some (l :: ls)
    | _, _ => none
def rdLL (s : St) (v : AV) : Option (List (List Nd)) := match shownV s v with
  | some vs => readA s vs
  | none => none
theorem readA_low (s : St) (n : Nat) : ∀ vs : List AV, readA { heap := s.heap, next := s.next, low := n } vs = readA s vs
  | [] => rfl
  | v :: r => by simp only [readA, read_low, readA_low s n r]
theorem shownV_low (s : St) (n : Nat) (v : AV) : shownV { heap := s.heap, next := s.next, low := n } v = shownV s v := by cases v <;> rfl
theorem rdLL_low (s : St) (n : Nat) (v : AV) : rdLL { heap := s.heap, next := s.next, low := n } v = rdLL s v := by
  unfold rdLL
  rw [shownV_low]
  cases shownV s v with
  | none => rfl
  | some vs => exact readA_low s n vs
theorem readA_len : ∀ {vs : List AV} {ls : List (List Nd)}, readA s vs = some ls → vs.length = ls.length
  | [], ls, h => by simp [readA] at h; subst h; rfl
  | v :: r, ls, h => by
    simp only [readA] at h
    split at h
    · rename_i l ls' h1 h2
      injection h with h
      subst h
      simp [readA_len h2]
    · cases h
theorem readA_at : ∀ {vs : List AV} {ls : List (List Nd)}, readA s vs = some ls → ∀ {i : Nat} {l : List Nd}, ls[i]? = some l → ∃ x, vs[i]? = some x ∧ read ndC s x = some l
  | [], ls, h, i, l, hi => by simp [readA] at h; subst h; simp at hi
  | v :: r, ls, h, i, l, hi => by
    simp only [readA] at h
    split at h
    · rename_i l0 ls' h1 h2
      injection h with h
      subst h
      cases i with
      | zero => simp at hi; subst hi; exact ⟨v, by simp, h1⟩
      | succ i => exact readA_at h2 (by simpa using hi)
    · cases h
theorem readA_keep (hK : Keep s t) : ∀ {vs : List AV} {ls : List (List Nd)}, readA s vs = some ls → readA t vs = some ls
  | [], ls, h => h
  | v :: r, ls, h => by
    simp only [readA] at h ⊢
    split at h
    · rename_i l0 ls' h1 h2
      rw [hK.read h1, readA_keep hK h2]
      exact h
    · cases h
theorem rdLL_keep (hK : Keep s t) {v : AV} {ls : List (List Nd)} (h : rdLL s v = some ls) : rdLL t v = some ls := by
  unfold rdLL at h ⊢
  cases v with
  | nils => exact h
  | sl id off n cap z =>
    split at h
    · rename_i vs hv
      simp only [shownV] at hv ⊢
      split at hv
      · rename_i hz
        split at hv
        · rename_i cs own hg
          rw [if_pos hz, hK.blk hg]
          simp only
          rw [hv]
          exact readA_keep hK h
        · cases hv
      · cases hv
    · cases h
  | _ => simp [shownV] at h
theorem rdLL_at {v : AV} {ls : List (List Nd)} (h : rdLL s v = some ls) {i : Nat} {l : List Nd} (hi : ls[i]? = some l) : ∃ x, iadV 1 v (.int .i64 (i : Int)) = some (.ptr (bid v) (boff v + i)) ∧ (∀ t, Keep s t → lod1 t (.ptr (bid v) (boff v + i)) = some x ∧ ltN (bid v) t) ∧ read ndC s x = some l := by
  unfold rdLL at h
  cases v with
  | nils => simp [shownV, readA] at h; subst h; simp at hi
  | sl id off n cap z =>
    split at h
    · rename_i vs hv
      simp only [shownV] at hv
      split at hv
      · rename_i hz
        subst hz
        split at hv
        · rename_i cs own hg
          split at hv
          · rename_i hle
            injection hv with hv
            subst hv
            obtain ⟨x, hx, hr⟩ := readA_at h hi
            have hn := (List.getElem?_eq_some_iff.1 hx).1
            simp only [List.length_take, List.length_drop] at hn
            refine ⟨x, ?_, fun t hK => ⟨?_, ?_⟩, hr⟩
            · simp only [iadV, bid, boff]
              rw [if_pos ⟨trivial, by omega, by omega⟩]
              simp
            · rw [List.getElem?_take_of_lt (by omega), List.getElem?_drop] at hx
              simp only [lod1, bid, boff, hK.blk hg]
              exact hx
            · exact St.get_lt (hK.blk hg)
          · cases hv
        · cases hv
      · cases hv
    · cases h
  | _ => simp [shownV] at h
theorem rdLL_len {v : AV} {ls : List (List Nd)} (h : rdLL s v = some ls) : lenV v = some (.int .i64 (ls.length : Int)) := by
  unfold rdLL at h
  cases v with
  | nils => simp [shownV, readA] at h; subst h; rfl
  | sl id off n cap z =>
    split at h
    · rename_i vs hv
      have hl := readA_len h
      simp only [shownV] at hv
      split at hv
      · split at hv
        · split at hv
          · injection hv with hv
            subst hv
            rw [List.length_take, List.length_drop] at hl
            simp only [lenV]
            congr 3
            omega
          · cases hv
        · cases hv
      · cases hv
    · cases h
  | _ => simp [shownV] at h
theorem rdLL_new {s : St} {vs : List AV} {ls : List (List Nd)} (h : readA s vs = some ls) (n : Nat) (hn : n = vs.length) : rdLL (s.push (.row vs true)) (.sl s.next 0 n (some n) 1) = some ls := by
  subst hn
  have hs : shownV (s.push (.row vs true)) (.sl s.next 0 vs.length (some vs.length) 1) = some vs := by
    simp [shownV, St.get_push_new]
  unfold rdLL
  rw [hs]
  exact readA_keep ((Keep.refl s).push _) h
def bslV (z : List AV) (len sz : Nat) (ps : List (Nat × AV)) : Option ((Nat → AV) × AB) := (fillP [] z (ps.map fun p => (p.1 * sz, sz, .c p.2))).map fun cs => (fun id => .sl id 0 len (some len) sz, .row cs true)
theorem fillP_aev (env : Env) : ∀ (ps : List (Nat × Nat × AO)) (z : List AV), fillP env z ps = fillP [] z (ps.map fun p => (p.1, p.2.1, .c (aev env p.2.2)))
  | [], z => rfl
  | (a, b, x) :: r, z => by
    simp only [fillP, List.map_cons]
    show (if _ then _ else _) = (if _ then _ else _)
    rw [fillP_aev env r]
    rfl
theorem aa_bsl {env : Env} (z : List AV) (len sz : Nat) (ps : List (Nat × AO)) : aalloc env (.bsl z len sz ps) = bslV z len sz (ps.map fun p => (p.1, aev env p.2)) := by
  simp only [aalloc, bslV]
  rw [fillP_aev]
  simp only [List.map_map, Function.comp_def]
theorem sg_bsl {call : Nat → List AV → St → Option (AV × St)} {base : Nat} {d : Option Nat} {r : Option Nat} {fr : Bool} {rest : List AOper} {Q : Env → St → Prop} {env : Env} (z : List AV) (l n : Nat) (ps : List (Nat × AO)) (t : Nat) (w : Bool) :
    awops call base (⟨d, .bsl z l n ps, some (t, w), r, fr⟩ :: rest) Q env s = gstep (E env t) w (awops call base (⟨d, .bsl z l n ps, none, r, fr⟩ :: rest) Q env s) (awops call base rest Q (pE env d .und) s) := st_guard _ _ _
theorem read_one {v : AV} {l : List Nd} (h : read ndC s v = some l) : v.cells = [v] ∧ v.one = true := by
  cases v <;> first | exact ⟨rfl, rfl⟩ | simp [read] at h
theorem fill1 {v : AV} {l : List Nd} (h : read ndC s v = some l) (cs : List AV) (i : Nat) (hi : i + 1 ≤ cs.length) (r : List (Nat × Nat × AO)) : fillP [] cs ((i * 1, 1, .c v) :: r) = fillP [] (setAt cs i [v]) r := by
  obtain ⟨h1, h2⟩ := read_one h
  simp only [fillP, aev, h1, Nat.mul_one]
  rw [if_pos ⟨rfl, by simp [h2], by simpa using hi⟩]
theorem bsl2 {a b : AV} {la lb : List Nd} (ha : read ndC s a = some la) (hb : read ndC s b = some lb) : bslV [.nils, .nils] 2 1 [(0, a), (1, b)] = some (fun id => .sl id 0 2 (some 2) 1, .row [a, b] true) := by
  simp only [bslV, List.map_cons, List.map_nil]
  rw [fill1 ha _ _ (by simp), fill1 hb _ _ (by simp [setAt])]
  rfl
theorem bsl3 {a b c : AV} {la lb lc : List Nd} (ha : read ndC s a = some la) (hb : read ndC s b = some lb) (hc : read ndC s c = some lc) : bslV [.nils, .nils, .nils] 3 1 [(0, a), (1, b), (2, c)] = some (fun id => .sl id 0 3 (some 3) 1, .row [a, b, c] true) := by
  simp only [bslV, List.map_cons, List.map_nil]
  rw [fill1 ha _ _ (by simp), fill1 hb _ _ (by simp [setAt]), fill1 hc _ _ (by simp [setAt])]
  rfl
theorem bsl5 {a b c d e : AV} {la lb lc ld le : List Nd} (ha : read ndC s a = some la) (hb : read ndC s b = some lb) (hc : read ndC s c = some lc) (hd : read ndC s d = some ld) (he : read ndC s e = some le) : bslV [.nils, .nils, .nils, .nils, .nils] 5 1 [(0, a), (1, b), (2, c), (3, d), (4, e)] = some (fun id => .sl id 0 5 (some 5) 1, .row [a, b, c, d, e] true) := by
  simp only [bslV, List.map_cons, List.map_nil]
  rw [fill1 ha _ _ (by simp), fill1 hb _ _ (by simp [setAt]), fill1 hc _ _ (by simp [setAt]), fill1 hd _ _ (by simp [setAt]), fill1 he _ _ (by simp [setAt])]
  rfl

/-! ### join.All -/
def pAll : List AV → St → Option (List Nd × Option AV) := fun xs s => match xs with
  | [v] => match rdLL s v with
    | some ls => if ls.flatten.length ≤ 100000 ∧ ls.length ≤ 100000 then some ((allP ls).1, some (.int .i64 (allP ls).2)) else none
    | none => none
  | _ => none
theorem pAll_some {xs : List AV} {s : St} {l : List Nd} {e : Option AV} (h : pAll xs s = some (l, e)) : ∃ v ls, xs = [v] ∧ rdLL s v = some ls ∧ ls.flatten.length ≤ 100000 ∧ ls.length ≤ 100000 ∧ l = (allP ls).1 ∧ e = some (.int .i64 (allP ls).2) := by
  unfold pAll at h
  split at h
  · split at h
    · split at h
      · rename_i v _ ls hr hl
        injection h with h
        obtain ⟨rfl, rfl⟩ := Prod.mk.inj h
        exact ⟨v, ls, rfl, hr, hl.1, hl.2, rfl, rfl⟩
      · cases h
    · cases h
  · cases h
theorem flat_step {ls : List (List Nd)} {i : Nat} {l : List Nd} (h : ls[i]? = some l) : (ls.take (i + 1)).flatten = (ls.take i).flatten ++ l := by
  have hlt := (List.getElem?_eq_some_iff.1 h).1
  have e : ls.take (i + 1) = ls.take i ++ [l] := by
    rw [List.take_add_one, h]
    rfl
  rw [e, List.flatten_append]
  simp
theorem flat_take (ls : List (List Nd)) (i : Nat) : (ls.take i).flatten.length ≤ ls.flatten.length := by
  conv => rhs; rw [← List.take_append_drop i ls, List.flatten_append, List.length_append]
  omega
theorem all_step {ls : List (List Nd)} {i : Nat} {l : List Nd} (h : ls[i]? = some l) (h1 : (ls.take i).all storeL = true) (h2 : storeL l = true) : (ls.take (i + 1)).all storeL = true := by
  rw [List.take_add_one, h]
  simp only [List.all_append, h1, Bool.true_and]
  simp [h2]
theorem s_All : SoundAt Try.prog 25 (conF ndC pAll) :=
  con_fresh (tb_sound (l := [(35, conL ndC fValid), (40, conF ndC (pL ndC gOf))]) (by simpa using ⟨s_JValid, s_Of⟩)) mixed Try.func25 k25 c25 fun args s r ee h => by
    obtain ⟨v, ls, rfl, hr, hfl, hll, rfl, rfl⟩ := pAll_some h
    refine ⟨fun x hx => by injection hx with hx; subst hx; rfl, by simp [a25], fun env hlen ha => ?_⟩
    have h0 : E env 0 = _ := ha 0 _ rfl
    have hlen : elen env = _ := hlen
    simp only [a25] at hlen
    unfold a25
    try dsimp only [oO, oG]
    have hL := rdLL_len hr
    simp (config := {contextual := true, maxDischargeDepth := 12}) only [tb_at, q_known, h0, hlen, hL, ↓bD, bU, forall_const, List.all_cons, List.all_nil, Option.map_some, List.map_cons, List.map_nil, ne_eq, implies_true, isNx, cs_dec, cs_not, cs_and, cs_or, cs_valid, eq_self, ↓wp_cond, ↓wp_loop, ↓reduceIte, reduceCtorEq, Nat.reduceEqDiff, Nat.reduceLT, Nat.reduceAdd, Nat.reduceMul, Int.ofNat_lt, Int.ofNat_le, exists_const, ae_app, ap_slc, Option.map_none, mkR_none, mkR_some, ar_look, ae_mset, ae_rng, ae_mkmap0, ar_ent, lookV_push, lookV_lowed, msetV_push, msetV_lowed, lt_put, same_put, sto_over, sto_lowed, cs_dead, Option.map_some, beq_self_eq_true, decide_true, cs_true, cs_false, aa_bsl, ↓sg_bsl]
    obtain ⟨I, hI⟩ : ∃ I : Nat → Env → St → Prop, ∀ n e t, I n e t = (Keep s t ∧ ∃ i : Nat, n + i = ls.length ∧ elen e = 24 ∧ E e 7 = v ∧ E e 8 = .int .i64 (ls.length : Int) ∧ E e 9 = .int .i64 (i : Int) ∧ Own ndC s t (E e 4) (ls.take i).flatten ∧ (ls.take i).all storeL = true) := ⟨fun n e t => (Keep s t ∧ ∃ i : Nat, n + i = ls.length ∧ elen e = 24 ∧ E e 7 = v ∧ E e 8 = .int .i64 (ls.length : Int) ∧ E e 9 = .int .i64 (i : Int) ∧ Own ndC s t (E e 4) (ls.take i).flatten ∧ (ls.take i).all storeL = true), fun _ _ _ => rfl⟩
    refine lwp_inv I (n := ls.length) ?_ ?_
    · rw [hI]
      exact ⟨.refl s, 0, by omega, by simp only [E_pne, E_psame, elen_put, Nat.reduceEqDiff, ne_eq, not_false_eq_true, Nat.reduceLT, hlen], by simp only [E_pne, E_psame, elen_put, Nat.reduceEqDiff, ne_eq, not_false_eq_true, Nat.reduceLT, h0, hlen], by simp only [E_pne, E_psame, elen_put, Nat.reduceEqDiff, ne_eq, not_false_eq_true, Nat.reduceLT, hlen], by simp only [E_pne, E_psame, elen_put, Nat.reduceEqDiff, ne_eq, not_false_eq_true, Nat.reduceLT, hlen]; rfl, by simp only [E_pne, E_psame, elen_put, Nat.reduceEqDiff, ne_eq, not_false_eq_true, Nat.reduceLT, hlen]; exact .nil _ _ _, rfl⟩
    intro n e t hi
    rw [hI] at hi
    obtain ⟨hK, i, hn, he, e7, e8, e9, hO, hst⟩ := hi
    by_cases hlt : i < ls.length
    · obtain ⟨l, hl⟩ := getsome hlt
      have hw2 := wrap_add1 (n := i) (by omega)
      obtain ⟨x, i1, hx, hxr⟩ := rdLL_at hr hl
      obtain ⟨a1, al⟩ := hx t hK
      have hfs := flat_step hl
      have hft := flat_take ls (i + 1)
      rw [hfs, List.length_append] at hft
      have q1 := q_StValid false (hK.read hxr) (by unfold lim; omega)
      cases hv : storeL l
      · rw [hv] at q1
        have hres : allP ls = ([], 2) := by
          unfold allP
          rw [if_neg]
          intro ha
          have := List.all_eq_true.1 ha l (List.mem_of_getElem? hl)
          rw [hv] at this
          cases this
        rw [hres]
        simp (config := {contextual := true, maxDischargeDepth := 12}) only [tb_at, q_known, e7, e8, e9, he, hlt, i1, a1, al, q1, ↓bD, bU, forall_const, List.all_cons, List.all_nil, Option.map_some, List.map_cons, List.map_nil, ne_eq, implies_true, isNx, cs_dec, cs_not, cs_and, cs_or, cs_valid, eq_self, ↓wp_cond, ↓wp_loop, ↓reduceIte, reduceCtorEq, Nat.reduceEqDiff, Nat.reduceLT, Nat.reduceAdd, Nat.reduceMul, Int.ofNat_lt, Int.ofNat_le, exists_const, ae_app, ap_slc, Option.map_none, mkR_none, mkR_some, ar_look, ae_mset, ae_rng, ae_mkmap0, ar_ent, lookV_push, lookV_lowed, msetV_push, msetV_lowed, lt_put, same_put, sto_over, sto_lowed, cs_dead, Option.map_some, beq_self_eq_true, decide_true, cs_true, cs_false, aa_bsl, ↓sg_bsl]
        exact ⟨hK, _, rfl, .nil _ _ _⟩
      · rw [hv] at q1
        obtain ⟨u, t2, hap, hK2, hO2⟩ := appV_list hK hO (hK.read hxr) 48 (by unfold roomBytes; omega)
        have hap : appV t 6 48 (E e 4) x = some (u, t2) := hap
        simp (config := {contextual := true, maxDischargeDepth := 12}) only [tb_at, q_known, e7, e8, e9, he, hlt, i1, a1, al, q1, hap, hw2, ↓bD, bU, forall_const, List.all_cons, List.all_nil, Option.map_some, List.map_cons, List.map_nil, ne_eq, implies_true, isNx, cs_dec, cs_not, cs_and, cs_or, cs_valid, eq_self, ↓wp_cond, ↓wp_loop, ↓reduceIte, reduceCtorEq, Nat.reduceEqDiff, Nat.reduceLT, Nat.reduceAdd, Nat.reduceMul, Int.ofNat_lt, Int.ofNat_le, exists_const, ae_app, ap_slc, Option.map_none, mkR_none, mkR_some, ar_look, ae_mset, ae_rng, ae_mkmap0, ar_ent, lookV_push, lookV_lowed, msetV_push, msetV_lowed, lt_put, same_put, sto_over, sto_lowed, cs_dead, Option.map_some, beq_self_eq_true, decide_true, cs_true, cs_false, aa_bsl, ↓sg_bsl]
        refine ⟨n - 1, by omega, ?_⟩
        rw [hI]
        refine ⟨hK2, i + 1, by omega, by simp only [E_pne, E_psame, elen_put, Nat.reduceEqDiff, ne_eq, not_false_eq_true, Nat.reduceLT, he], by simp only [E_pne, E_psame, elen_put, Nat.reduceEqDiff, ne_eq, not_false_eq_true, Nat.reduceLT, e7], by simp only [E_pne, E_psame, elen_put, Nat.reduceEqDiff, ne_eq, not_false_eq_true, Nat.reduceLT, e8], by simp only [E_pne, E_psame, elen_put, Nat.reduceEqDiff, ne_eq, not_false_eq_true, Nat.reduceLT, he], ?_, all_step hl hst hv⟩
        rw [hfs]
        simp only [E_pne, E_psame, elen_put, Nat.reduceEqDiff, ne_eq, not_false_eq_true, Nat.reduceLT, he]
        exact hO2
    · obtain rfl : i = ls.length := by omega
      rw [List.take_length] at hO hst
      have hres : allP ls = ofP ls.flatten := by
        unfold allP
        rw [if_pos hst]
      have hg := gOf_P ls.flatten
      obtain ⟨u, t2, hc, hK2, hO2⟩ := fresh_L (D := ndC) (f := gOf) hO.read (by unfold lim; omega) hg (gOf_plain hg)
      rw [mkR_some] at hc
      rw [hres]
      simp (config := {contextual := true, maxDischargeDepth := 12}) only [tb_at, q_known, e7, e8, e9, he, hlt, hc, ↓bD, bU, forall_const, List.all_cons, List.all_nil, Option.map_some, List.map_cons, List.map_nil, ne_eq, implies_true, isNx, cs_dec, cs_not, cs_and, cs_or, cs_valid, eq_self, ↓wp_cond, ↓wp_loop, ↓reduceIte, reduceCtorEq, Nat.reduceEqDiff, Nat.reduceLT, Nat.reduceAdd, Nat.reduceMul, Int.ofNat_lt, Int.ofNat_le, exists_const, ae_app, ap_slc, Option.map_none, mkR_none, mkR_some, ar_look, ae_mset, ae_rng, ae_mkmap0, ar_ent, lookV_push, lookV_lowed, msetV_push, msetV_lowed, lt_put, same_put, sto_over, sto_lowed, cs_dead, Option.map_some, beq_self_eq_true, decide_true, cs_true, cs_false, aa_bsl, ↓sg_bsl]
      exact ⟨hK.trans hK2, _, rfl, hO2.from hK.next⟩

theorem ofFold_len : ∀ (r M A M' : List Nd), ofFold r M A = some M' → M'.length ≤ M.length + r.length
  | [], M, A, M', h => by simp [ofFold] at h; subst h; simp
  | n :: r, M, A, M', h => by
    rw [ofFold, ofStep_eq] at h
    split at h
    · rename_i M2 A2 hs
      have ih := ofFold_len r M2 A2 M' h
      have : M2.length ≤ M.length + 1 := by
        repeat' split at hs
        all_goals first | cases hs | skip
        all_goals exact updN_len _ _
      simp
      omega
    · cases h
theorem ofP_len (l : List Nd) : (ofP l).1.length ≤ l.length := by
  have h := gOf_P l
  unfold gOf at h
  split at h
  · split at h
    · rename_i M hM
      injection h with h
      rw [← (Prod.mk.inj h).1, sortN_len]
      simpa using ofFold_len _ _ _ _ hM
    · injection h with h
      rw [← (Prod.mk.inj h).1]
      simp
  · injection h with h
    rw [← (Prod.mk.inj h).1]
    simp
theorem allP_len (ls : List (List Nd)) : (allP ls).1.length ≤ ls.flatten.length := by
  unfold allP
  split
  · exact ofP_len _
  · simp

end Go.AM
end
/-
  A function's own code as its contract (run with as much fuel as it takes); what a call that changes memory leaves. Own work of this project.
-/
section
set_option linter.unusedVariables false
set_option linter.unusedSimpArgs false
namespace Go.AM
open Go

variable {call : Nat → List AV → St → Option (AV × St)}

/-! ### More fuel changes nothing -/
theorem aexec_mono : ∀ {n m : Nat} {c : AC} {env : Env} {s : St} {r : AEx × Env × St}, n ≤ m → aexec call n c env s = some r → aexec call m c env s = some r
  | 0, _, _, _, _, _, _, h => by simp [aexec] at h
  | n + 1, 0, _, _, _, _, hm, _ => by omega
  | n + 1, m + 1, c, env, s, r, hm, h => by
    have hm' : n ≤ m := by omega
    cases c with
    | skip => exact h
    | exit i => exact h
    | ret => exact h
    | bad => exact h
    | reg os => exact h
    | regd k os => exact h
    | seq a b =>
      simp only [aexec] at h ⊢
      cases ha : aexec call n a env s with
      | none => rw [ha] at h; cases h
      | some r1 =>
        rw [ha] at h
        rw [aexec_mono hm' ha]
        obtain ⟨x, e1, s1⟩ := r1
        cases x with
        | nor => exact aexec_mono hm' h
        | exit i => exact h
        | ret => exact h
    | cond c a b =>
      simp only [aexec] at h ⊢
      split at h
      · exact aexec_mono hm' h
      · exact aexec_mono hm' h
      · cases h
    | block id c =>
      simp only [aexec] at h ⊢
      cases ha : aexec call n c env s with
      | none => rw [ha] at h; cases h
      | some r1 =>
        rw [ha] at h
        rw [aexec_mono hm' ha]
        exact h
    | loop c =>
      simp only [aexec] at h ⊢
      cases ha : aexec call n c env s with
      | none => rw [ha] at h; cases h
      | some r1 =>
        rw [ha] at h
        rw [aexec_mono hm' ha]
        obtain ⟨x, e1, s1⟩ := r1
        cases x with
        | nor => exact aexec_mono hm' h
        | exit i => exact h
        | ret => exact h
/-- No range over a map in it. -/
def noNxtC : AC → Bool
  | .reg os | .regd _ os => noNxt os
  | .seq a b | .cond _ a b => noNxtC a && noNxtC b
  | .block _ c | .loop c => noNxtC c
  | _ => true
theorem awp_exec : ∀ (c : AC) {Q : AEx → Env → St → Prop} {env : Env} {s : St}, noNxtC c = true → awp call c Q env s → ∃ n x e t, aexec call n c env s = some (x, e, t) ∧ Q x e t
  | .skip, _, _, _, _, k => ⟨1, _, _, _, rfl, k⟩
  | .exit _, _, _, _, _, k => ⟨1, _, _, _, rfl, k⟩
  | .ret, _, _, _, _, k => ⟨1, _, _, _, rfl, k⟩
  | .bad, _, _, _, _, k => k.elim
  | .reg os, _, env, s, hn, k => by
    obtain ⟨e, t, h1, h2⟩ := awops_some os env s hn k
    exact ⟨1, _, _, _, by simp only [aexec, h1], h2⟩
  | .regd _ os, _, _, _, _, k => by
    obtain ⟨e, t, h1, h2⟩ := k
    exact ⟨1, _, _, _, by simp only [aexec, h1], h2⟩
  | .seq a b, Q, env, s, hn, k => by
    simp only [noNxtC, Bool.and_eq_true] at hn
    obtain ⟨n, x, e, t, h1, h2⟩ := awp_exec a hn.1 k
    cases x with
    | nor =>
      obtain ⟨m, x', e', t', h3, h4⟩ := awp_exec b hn.2 h2
      refine ⟨max n m + 1, x', e', t', ?_, h4⟩
      simp only [aexec]
      rw [aexec_mono (Nat.le_max_left n m) h1]
      exact aexec_mono (Nat.le_max_right n m) h3
    | exit i => exact ⟨n + 1, _, _, _, by simp only [aexec, h1], h2⟩
    | ret => exact ⟨n + 1, _, _, _, by simp only [aexec, h1], h2⟩
  | .cond c a b, Q, env, s, hn, k => by
    simp only [noNxtC, Bool.and_eq_true] at hn
    simp only [awp] at k
    split at k
    · rename_i hc
      obtain ⟨n, x, e, t, h1, h2⟩ := awp_exec a hn.1 k
      exact ⟨n + 1, x, e, t, by simp only [aexec, hc, h1], h2⟩
    · rename_i hc
      obtain ⟨n, x, e, t, h1, h2⟩ := awp_exec b hn.2 k
      exact ⟨n + 1, x, e, t, by simp only [aexec, hc, h1], h2⟩
    · exact k.elim
  | .block id c, Q, env, s, hn, k => by
    obtain ⟨n, x, e, t, h1, h2⟩ := awp_exec c hn k
    cases x with
    | nor => exact ⟨n + 1, _, _, _, by simp only [aexec, h1], h2⟩
    | exit i =>
      simp only at h2
      split at h2
      · rename_i hi
        exact ⟨n + 1, _, _, _, by simp only [aexec, h1, if_pos hi], h2⟩
      · rename_i hi
        exact ⟨n + 1, _, _, _, by simp only [aexec, h1, if_neg hi], h2⟩
    | ret => exact ⟨n + 1, _, _, _, by simp only [aexec, h1], h2⟩
  | .loop c, Q, env, s, hn, k => by
    obtain ⟨r, k⟩ := k
    revert env s k
    induction r with
    | zero => exact fun env s k => k.elim
    | succ r ih =>
      intro env s k
      simp only [arounds] at k
      obtain ⟨n, x, e, t, h1, h2⟩ := awp_exec c hn k
      cases x with
      | nor =>
        obtain ⟨m, x', e', t', h3, h4⟩ := ih _ _ h2
        refine ⟨max n m + 1, x', e', t', ?_, h4⟩
        simp only [aexec]
        rw [aexec_mono (Nat.le_max_left n m) h1]
        exact aexec_mono (Nat.le_max_right n m) h3
      | exit i => exact ⟨n + 1, _, _, _, by simp only [aexec, h1], h2⟩
      | ret => exact ⟨n + 1, _, _, _, by simp only [aexec, h1], h2⟩

/-! ### The code as a contract -/
open Classical in
noncomputable def runFn (call : Nat → List AV → St → Option (AV × St)) (fn : AFn) : Con := fun args s =>
  if h : ∃ n r, acallFn call n fn args s = some r then some (Classical.choose (Classical.choose_spec h)) else none
theorem run_sound {P : Program} (hS : Sound P call) (hm : P.follows .mixedOrders = true) {f : Nat} {fn : Func} {afn : AFn} (hf : P.funcs[f]? = some fn) (hcal : callable P f = true) (hc : cfn P fn = some afn) : SoundAt P f (runFn call afn) := by
  intro args s r s' h
  unfold runFn at h
  split at h
  · rename_i hx
    injection h with h
    have := Classical.choose_spec (Classical.choose_spec hx)
    rw [h] at this
    exact fn_sound hS hm hf hcal hc _ args s r s' this
  · cases h
theorem acallFn_mono {fn : AFn} {n m : Nat} (h : n ≤ m) {args : List AV} {s : St} {r : AV × St} (k : acallFn call n fn args s = some r) : acallFn call m fn args s = some r := by
  unfold acallFn at k ⊢
  cases ha : aexec call n fn.body (args ++ List.replicate (fn.ntmps - args.length) .und) s with
  | none => rw [ha] at k; cases k
  | some q =>
    rw [ha] at k
    rw [aexec_mono h ha]
    exact k
theorem run_of {fn : AFn} {n : Nat} {args : List AV} {s : St} {r : AV × St} (k : acallFn call n fn args s = some r) : runFn call fn args s = some r := by
  have hx : ∃ n r, acallFn call n fn args s = some r := ⟨n, r, k⟩
  unfold runFn
  rw [dif_pos hx]
  have := Classical.choose_spec (Classical.choose_spec hx)
  have h1 := acallFn_mono (Nat.le_max_left n (Classical.choose hx)) k
  have h2 := acallFn_mono (Nat.le_max_right n (Classical.choose hx)) this
  rw [h1] at h2
  exact h2.symm ▸ rfl
theorem run_awp {fn : AFn} (hn : noNxtC fn.body = true) {args : List AV} (hl : args.length ≤ fn.ntmps) {s : St} {Q : AV → St → Prop}
    (h : ∀ env : Env, elen env = fn.ntmps → (∀ i v, args[i]? = some v → E env i = v) → awp call fn.body (fun x e t => (∀ i, x ≠ .exit i) ∧ ∃ r, aresults e t fn.results = some r ∧ Q r t) env s) :
    ∃ r t, runFn call fn args s = some (r, t) ∧ Q r t := by
  have h := start_env hl h
  obtain ⟨n, x, e, t, h1, hx, r, h2, h3⟩ := awp_exec fn.body hn h
  refine ⟨r, t, run_of (n := n) ?_, h3⟩
  unfold acallFn
  rw [h1]
  cases x with
  | nor => simp only [h2, Option.map_some]
  | exit i => exact absurd rfl (hx i)
  | ret => simp only [h2, Option.map_some]

/-! ### What a call changes -/
/-- Only the blocks of M, and what is new. -/
structure Chg (M : List Nat) (s t : St) : Prop where
  next : s.next ≤ t.next
  get : ∀ id, id < s.next → id ∉ M → t.get id = s.get id
  low : ∀ k, k ≤ s.low → k ≤ s.next → (∀ id ∈ M, k ≤ id) → k ≤ t.low
theorem Chg.refl (M : List Nat) (s : St) : Chg M s s := ⟨Nat.le_refl _, fun _ _ _ => rfl, fun _ h _ _ => h⟩
theorem Keep.chg {s t : St} (h : Keep s t) (M : List Nat) : Chg M s t := ⟨h.next, fun id h1 _ => h.get id h1, fun k h1 h2 _ => by have := h.low; omega⟩
theorem Chg.keep {s t : St} (h : Chg [] s t) : Keep s t := ⟨h.next, fun id h1 => h.get id h1 (by simp), h.low _ (Nat.min_le_left _ _) (Nat.min_le_right _ _) (by simp)⟩
theorem Chg.trans {M M' : List Nat} {a b c : St} (h : Chg M a b) (k : Chg M' b c) (hM : ∀ id ∈ M', id ∈ M ∨ a.next ≤ id) : Chg M a c := by
  refine ⟨Nat.le_trans h.next k.next, fun id h1 h2 => ?_, fun n h1 h2 h3 => ?_⟩
  · rw [k.get id (Nat.lt_of_lt_of_le h1 h.next) fun hm => ?_, h.get id h1 h2]
    rcases hM id hm with q | q
    · exact h2 q
    · omega
  · refine k.low n (h.low n h1 h2 h3) (Nat.le_trans h2 h.next) fun id hid => ?_
    rcases hM id hid with q | q
    · exact h3 id q
    · omega
theorem Chg.mono {M M' : List Nat} {s t : St} (h : Chg M s t) (hM : ∀ id ∈ M, id ∈ M') : Chg M' s t :=
  ⟨h.next, fun id h1 h2 => h.get id h1 fun q => h2 (hM id q), fun k h1 h2 h3 => h.low k h1 h2 fun id q => h3 id (hM id q)⟩
theorem Chg.push {M : List Nat} {s t : St} (h : Chg M s t) (b : AB) : Chg M s (t.push b) :=
  h.trans (M' := []) (((Keep.refl t).push b).chg []) (by simp)
theorem Chg.put {M : List Nat} {s t : St} (h : Chg M s t) {id : Nat} (b : AB) (hid : id ∈ M ∨ s.next ≤ id) (hlt : id < t.next) : Chg M s (t.put id b) := by
  refine ⟨by simpa using h.next, fun j h1 h2 => ?_, fun k h1 h2 h3 => ?_⟩
  · rw [St.get_put_ne _ _ hlt fun e => ?_, h.get j h1 h2]
    subst e
    rcases hid with q | q
    · exact h2 q
    · omega
  · have := h.low k h1 h2 h3
    have : k ≤ id := by
      rcases hid with q | q
      · exact h3 id q
      · omega
    simp
    omega
/-- What was made in the meantime may be changed. -/
theorem Chg.new {M M' : List Nat} {a s t : St} (h : Chg M a s) (k : Chg M' s t) (hM : ∀ id ∈ M', a.next ≤ id ∨ id ∈ M) : Chg M a t := h.trans k fun id q => (hM id q).symm
theorem Keep.chgn {M' : List Nat} {a s t : St} (h : Keep a s) (k : Chg M' s t) (hM : ∀ id ∈ M', a.next ≤ id) : Keep a t :=
  ((h.chg []).trans k fun id q => .inr (hM id q)).keep
theorem Chg.blk {M : List Nat} {s t : St} (h : Chg M s t) {id : Nat} {b : AB} (hb : s.get id = some b) (hm : id ∉ M) : t.get id = some b := by rw [h.get id (St.get_lt hb) hm, hb]
@[reducible] def lowd (s : St) : St := { heap := s.heap, next := s.next, low := s.next }
/-- The call answers what names no block, and has changed nothing. -/
theorem acall_same {c : Con} {cl : Bool} {args : List AV} {s t : St} {r : AV} (h : c args (lowd s) = some (r, t)) (hk : Keep (lowd s) t) (hg : r.ground = true) : acall c cl args s = some (r, s) := by
  have hl := hk.low
  have hl : s.next ≤ t.low := by
    have : min s.next s.next ≤ t.low := hl
    omega
  simp only [acall]
  rw [show ({ heap := s.heap, next := s.next, low := s.next } : St) = lowd s from rfl, h]
  simp [hg, hl]
theorem acall_new {c : Con} {args : List AV} {M : List Nat} {s t : St} {r : AV} (h : c args (lowd s) = some (r, t)) (hk : Chg M (lowd s) t) (hng : r.ground = false ∨ t.low < s.next) :
    ∃ t', acall c false args s = some (r, t') ∧ (∀ id, t'.get id = t.get id) ∧ t'.next = t.next ∧ Chg M s t' := by
  refine ⟨{ heap := t.heap, next := t.next, low := min s.low t.low }, ?_, fun _ => rfl, rfl, hk.next, hk.get, fun k h1 h2 h3 => ?_⟩
  · simp only [acall]
    rw [show ({ heap := s.heap, next := s.next, low := s.next } : St) = lowd s from rfl, h]
    simp only
    rw [if_neg]
    · simp
    · simp only [Bool.and_eq_true, decide_eq_true_eq]
      rintro ⟨h1, h2⟩
      rcases hng with q | q
      · rw [h1] at q; cases q
      · omega
  · have := hk.low k h2 h2 h3
    show k ≤ min s.low t.low
    omega
theorem run_same {fn : AFn} (hn : noNxtC fn.body = true) {args : List AV} (hl : args.length ≤ fn.ntmps) {cl : Bool} {s : St} {r : AV} (hg : r.ground = true)
    (h : ∀ env : Env, elen env = fn.ntmps → (∀ i v, args[i]? = some v → E env i = v) → awp call fn.body (fun x e t => (∀ i, x ≠ .exit i) ∧ aresults e t fn.results = some r ∧ Keep (lowd s) t) env (lowd s)) :
    acall (runFn call fn) cl args s = some (r, s) := by
  obtain ⟨r', t, h1, h2, h3⟩ := run_awp hn hl (Q := fun r' t => r' = r ∧ Keep (lowd s) t) fun env h1 h2 => awp_mono _ (fun x e t q => ⟨q.1, r, q.2.1, rfl, q.2.2⟩) (h env h1 h2)
  subst h2
  exact acall_same h1 h3 hg
/-- The answer names a block, or something was changed. -/
theorem run_new {fn : AFn} (hn : noNxtC fn.body = true) {args : List AV} (hl : args.length ≤ fn.ntmps) {s : St} {M : List Nat} {Q : AV → St → Prop} (hQ : ∀ r t t', (∀ id, t'.get id = t.get id) → t'.next = t.next → Q r t → Q r t')
    (h : ∀ env : Env, elen env = fn.ntmps → (∀ i v, args[i]? = some v → E env i = v) → awp call fn.body (fun x e t => (∀ i, x ≠ .exit i) ∧ ∃ r, aresults e t fn.results = some r ∧ Q r t ∧ Chg M (lowd s) t ∧ (r.ground = false ∨ t.low < s.next)) env (lowd s)) :
    ∃ r t, acall (runFn call fn) false args s = some (r, t) ∧ Q r t ∧ Chg M s t := by
  obtain ⟨r, t, h1, h2, h3, h4⟩ := run_awp hn hl h
  obtain ⟨t', g1, g2, g3, g4⟩ := acall_new h1 h3 h4
  exact ⟨r, t', g1, hQ r t t' g2 g3 h2, g4⟩

theorem acall_newl {c : Con} {args : List AV} {M : List Nat} {s t : St} {r : AV} (h : c args (lowd s) = some (r, t)) (hk : Chg M (lowd s) t) (hng : r.ground = false ∨ t.low < s.next) :
    ∃ t', acall c false args s = some (r, t') ∧ (∀ id, t'.get id = t.get id) ∧ t'.next = t.next ∧ Chg M s t' ∧ (r.ground = false ∨ t'.low < s.next) := by
  refine ⟨{ heap := t.heap, next := t.next, low := min s.low t.low }, ?_, fun _ => rfl, rfl, ⟨hk.next, hk.get, fun k h1 h2 h3 => ?_⟩, hng.imp id fun h => Nat.lt_of_le_of_lt (Nat.min_le_right _ _) h⟩
  · simp only [acall]
    rw [show ({ heap := s.heap, next := s.next, low := s.next } : St) = lowd s from rfl, h]
    simp only
    rw [if_neg]
    · simp
    · simp only [Bool.and_eq_true, decide_eq_true_eq]
      rintro ⟨h1, h2⟩
      rcases hng with q | q
      · rw [h1] at q; cases q
      · omega
  · have := hk.low k h2 h2 h3
    show k ≤ min s.low t.low
    omega
theorem run_newl {fn : AFn} (hn : noNxtC fn.body = true) {args : List AV} (hl : args.length ≤ fn.ntmps) {s : St} {M : List Nat} {Q : AV → St → Prop} (hQ : ∀ r t t', (∀ id, t'.get id = t.get id) → t'.next = t.next → Q r t → Q r t')
    (h : ∀ env : Env, elen env = fn.ntmps → (∀ i v, args[i]? = some v → E env i = v) → awp call fn.body (fun x e t => (∀ i, x ≠ .exit i) ∧ ∃ r, aresults e t fn.results = some r ∧ Q r t ∧ Chg M (lowd s) t ∧ (r.ground = false ∨ t.low < s.next)) env (lowd s)) :
    ∃ r t, acall (runFn call fn) false args s = some (r, t) ∧ Q r t ∧ Chg M s t ∧ (r.ground = false ∨ t.low < s.next) := by
  obtain ⟨r, t, h1, h2, h3, h4⟩ := run_awp hn hl h
  obtain ⟨t', g1, g2, g3, g4, g5⟩ := acall_newl h1 h3 h4
  exact ⟨r, t', g1, hQ r t t' g2 g3 h2, g4, g5⟩
theorem run_fresh {β : Type} {D : Cod β} {fn : AFn} (hn : noNxtC fn.body = true) {args : List AV} (hl : args.length ≤ fn.ntmps) {s : St} {l : List β} (mk : AV → AV) (hmk : ∀ j off n cap z, (mk (.sl j off n cap z)).ground = false)
    (h : ∀ env : Env, elen env = fn.ntmps → (∀ i v, args[i]? = some v → E env i = v) → awp call fn.body (fun x e t => (∀ i, x ≠ .exit i) ∧ Keep (lowd s) t ∧ ∃ v, aresults e t fn.results = some (mk v) ∧ Own D (lowd s) t v l) env (lowd s)) :
    ∃ v t, acall (runFn call fn) false args s = some (mk v, t) ∧ Own D s t v l ∧ Keep s t := by
  obtain ⟨r, t, h1, h2, v, rfl, h3⟩ := run_awp hn hl (Q := fun r t => Keep (lowd s) t ∧ ∃ v, r = mk v ∧ Own D (lowd s) t v l) fun env h1 h2 => awp_mono _ (fun x e t q => by
    obtain ⟨q1, q2, v, q3, q4⟩ := q
    exact ⟨q1, mk v, q3, q2, v, rfl, q4⟩) (h env h1 h2)
  have hnew : (mk v).ground = false → ∃ v t, acall (runFn call fn) false args s = some (mk v, t) ∧ Own D s t v l ∧ Keep s t := by
    intro hg
    obtain ⟨t', g1, g2, g3, g4⟩ := acall_new h1 (h2.chg []) (.inl hg)
    exact ⟨v, t', g1, h3.mono fun id b hb => by rw [g2]; exact hb, g4.keep⟩
  rcases h3 with ⟨rfl, rfl⟩ | ⟨j, rfl, h4⟩
  · by_cases hg : (mk .nils).ground = true
    · exact ⟨.nils, s, acall_same h1 h2 hg, .nil _ _ _, .refl s⟩
    · exact hnew (by simpa using hg)
  · exact hnew (hmk _ _ _ _ _)
/-! ### A call that answers with new memory, in a region that draws its order -/
def acallF (c : Con) (args : List AV) (s : St) : Option (AV × St) := match acall c false args (lowd s) with
  | some (v, t) => if s.next ≤ t.low then some (v, { heap := t.heap, next := t.next, low := min s.low t.low }) else none
  | none => none
variable {base : Nat} {d : Option Nat} {r : Option Nat} {rest : List AOper} {Q : Env → St → Prop} {env : Env} {s : St}
theorem st_callf (f : Nat) (l : List AO) : awops call base (⟨d, .call f false l, none, r, true⟩ :: rest) Q env s = estep (acallF (call f) (l.map (aev env)) s) fun v t => awops call base rest Q (pE env d v) t := by
  rw [st_efff (op := .call f false l) (by simp) rfl rfl rfl]
  simp only [aeff, acallF, AOp.floor, AOp.isStore, Bool.false_eq_true, if_false]
  cases acall (call f) false (l.map (aev env)) (lowd s) with
  | none => rfl
  | some q =>
    obtain ⟨v, t⟩ := q
    simp only [estep]
    by_cases h : s.next ≤ t.low
    · rw [if_pos h, if_pos h]
    · rw [if_neg h, if_neg h]
theorem acallF_keep {c : Con} {args : List AV} {s t : St} {v : AV} (h : acall c false args (lowd s) = some (v, t)) (hk : Keep (lowd s) t) : ∃ t', acallF c args s = some (v, t') ∧ (∀ id, t'.get id = t.get id) ∧ t'.next = t.next ∧ Keep s t' := by
  have hl : s.next ≤ t.low := by
    have := hk.low
    have : min s.next s.next ≤ t.low := this
    omega
  refine ⟨{ heap := t.heap, next := t.next, low := min s.low t.low }, ?_, fun _ => rfl, rfl, hk.next, hk.get, ?_⟩
  · simp only [acallF, h, if_pos hl]
  · show min s.low s.next ≤ min s.low t.low
    omega
end Go.AM
end
/-
  Lists of states in memory, as a buffer holds them: the outer row, the inner rows, appending, and what leaves them alone. Own work of this project.
-/
section
set_option linter.unusedVariables false
set_option linter.unusedSimpArgs false
set_option maxRecDepth 100000
namespace Go.AM
open Go Go.Proofs

variable {s t u : St}
/-- An inner list: its row is nodes and nothing else. -/
def NdR (t : St) (v : AV) (l : List Nd) : Prop := (v = .nils ∧ l = []) ∨ ∃ j off n cap l' own, v = .sl j off n cap 6 ∧ t.get j = some (.row (ndC.cells l') own) ∧ read ndC t v = some l
def InR (t : St) : List AV → List (List Nd) → Prop
  | [], [] => True
  | v :: vs, l :: ls => NdR t v l ∧ InR t vs ls
  | _, _ => False
/-- The outer row: all of it. -/
def OutR (t : St) (v : AV) (vs : List AV) : Prop := (v = .nils ∧ vs = []) ∨ ∃ j cap, v = .sl j 0 vs.length cap 1 ∧ t.get j = some (.row vs true) ∧ (cap = none ∧ vs ≠ [] ∨ cap = some vs.length)
def outM : AV → List AV → List Nat
  | .sl j _ _ _ _, _ :: _ => [j]
  | _, _ => []
theorem NdR.read {v : AV} {l : List Nd} (h : NdR t v l) : read ndC t v = some l := by
  rcases h with ⟨rfl, rfl⟩ | ⟨_, _, _, _, _, _, _, _, h⟩
  · rfl
  · exact h
theorem NdR.one {v : AV} {l : List Nd} (h : NdR t v l) : v = .nils ∨ ∃ j off n cap, v = .sl j off n cap 6 := by
  rcases h with ⟨rfl, _⟩ | ⟨j, off, n, cap, _, _, rfl, _⟩
  · exact .inl rfl
  · exact .inr ⟨j, off, n, cap, rfl⟩
theorem InR.readA : ∀ {vs : List AV} {ls : List (List Nd)}, InR t vs ls → readA t vs = some ls
  | [], [], _ => rfl
  | v :: vs, l :: ls, h => by
    simp only [AM.readA, h.1.read, InR.readA h.2]
  | [], _ :: _, h => h.elim
  | _ :: _, [], h => h.elim
theorem InR.len : ∀ {vs : List AV} {ls : List (List Nd)}, InR t vs ls → vs.length = ls.length
  | [], [], _ => rfl
  | v :: vs, l :: ls, h => by simp [InR.len h.2]
  | [], _ :: _, h => h.elim
  | _ :: _, [], h => h.elim
theorem InR.app : ∀ {vs ws : List AV} {ls ms : List (List Nd)}, InR t vs ls → InR t ws ms → InR t (vs ++ ws) (ls ++ ms)
  | [], ws, [], ms, _, k => k
  | v :: vs, ws, l :: ls, ms, h, k => ⟨h.1, InR.app h.2 k⟩
  | [], _, _ :: _, _, h, _ => h.elim
  | _ :: _, _, [], _, h, _ => h.elim
theorem InR.drop : ∀ (n : Nat) {vs : List AV} {ls : List (List Nd)}, InR t vs ls → InR t (vs.drop n) (ls.drop n)
  | 0, _, _, h => h
  | n + 1, [], [], _ => trivial
  | n + 1, v :: vs, l :: ls, h => InR.drop n h.2
  | _ + 1, [], _ :: _, h => h.elim
  | _ + 1, _ :: _, [], h => h.elim
theorem InR.take : ∀ (n : Nat) {vs : List AV} {ls : List (List Nd)}, InR t vs ls → InR t (vs.take n) (ls.take n)
  | 0, _, _, h => trivial
  | n + 1, [], [], _ => trivial
  | n + 1, v :: vs, l :: ls, h => ⟨h.1, InR.take n h.2⟩
  | _ + 1, [], _ :: _, h => h.elim
  | _ + 1, _ :: _, [], h => h.elim
theorem InR.cell : ∀ {vs : List AV} {ls : List (List Nd)}, InR t vs ls → ∀ v ∈ vs, v = .nils ∨ ∃ j off n cap, v = .sl j off n cap 6
  | [], [], _, v, hv => by simp at hv
  | w :: vs, l :: ls, h, v, hv => by
    rcases List.mem_cons.1 hv with rfl | hv
    · exact h.1.one
    · exact InR.cell h.2 v hv
  | [], _ :: _, h, _, _ => h.elim
  | _ :: _, [], h, _, _ => h.elim
/-- No block of M is a row of nodes. -/
def Apart (t : St) (M : List Nat) : Prop := ∀ id ∈ M, ∀ l' own, t.get id ≠ some (.row (ndC.cells l') own)
theorem NdR.keep {M : List Nat} (hc : Chg M t u) (ha : Apart t M) {v : AV} {l : List Nd} (h : NdR t v l) : NdR u v l := by
  rcases h with h | ⟨j, off, n, cap, l', own, rfl, hg, hr⟩
  · exact .inl h
  · have hj : j ∉ M := fun q => ha j q l' own hg
    have hg' := hc.blk hg hj
    refine .inr ⟨j, off, n, cap, l', own, rfl, hg', ?_⟩
    simp only [AM.read, hg, hg'] at hr ⊢
    exact hr
theorem InR.keep {M : List Nat} (hc : Chg M t u) (ha : Apart t M) : ∀ {vs : List AV} {ls : List (List Nd)}, InR t vs ls → InR u vs ls
  | [], [], _ => trivial
  | v :: vs, l :: ls, h => ⟨h.1.keep hc ha, InR.keep hc ha h.2⟩
  | [], _ :: _, h => h.elim
  | _ :: _, [], h => h.elim
theorem NdR.mono (hc : ∀ id b, t.get id = some b → u.get id = some b) {v : AV} {l : List Nd} (h : NdR t v l) : NdR u v l := by
  rcases h with h | ⟨j, off, n, cap, l', own, rfl, hg, hr⟩
  · exact .inl h
  · exact .inr ⟨j, off, n, cap, l', own, rfl, hc _ _ hg, read_mono hr hc⟩
theorem InR.mono (hc : ∀ id b, t.get id = some b → u.get id = some b) : ∀ {vs : List AV} {ls : List (List Nd)}, InR t vs ls → InR u vs ls
  | [], [], _ => trivial
  | v :: vs, l :: ls, h => ⟨h.1.mono hc, InR.mono hc h.2⟩
  | [], _ :: _, h => h.elim
  | _ :: _, [], h => h.elim
theorem OutR.mono (hc : ∀ id b, t.get id = some b → u.get id = some b) {v : AV} {vs : List AV} (h : OutR t v vs) : OutR u v vs := by
  rcases h with h | ⟨j, cap, rfl, hg, hcap⟩
  · exact .inl h
  · exact .inr ⟨j, cap, rfl, hc _ _ hg, hcap⟩
theorem OutR.keep {M : List Nat} (hc : Chg M t u) {v : AV} {vs : List AV} (hm : ∀ j off n cap z, v = .sl j off n cap z → j ∉ M) (h : OutR t v vs) : OutR u v vs := by
  rcases h with h | ⟨j, cap, rfl, hg, hcap⟩
  · exact .inl h
  · exact .inr ⟨j, cap, rfl, hc.blk hg (hm _ _ _ _ _ rfl), hcap⟩
theorem OutR.shown {v : AV} {vs : List AV} (h : OutR t v vs) : shownV t v = some vs := by
  rcases h with ⟨rfl, rfl⟩ | ⟨j, cap, rfl, hg, _⟩
  · rfl
  · simp only [shownV, hg, Nat.zero_add, Nat.le_refl, if_true, List.drop_zero, List.take_length]
theorem out_rdLL {v : AV} {vs : List AV} {ls : List (List Nd)} (h : OutR t v vs) (k : InR t vs ls) : rdLL t v = some ls := by
  unfold rdLL
  rw [h.shown]
  exact k.readA
theorem OutR.lenV {v : AV} {vs : List AV} (h : OutR t v vs) : AM.lenV v = some (.int .i64 (vs.length : Int)) := by
  rcases h with ⟨rfl, rfl⟩ | ⟨j, cap, rfl, _⟩ <;> rfl
theorem OutR.lt {v : AV} {vs : List AV} (h : OutR t v vs) : ∀ j off n cap z, v = .sl j off n cap z → j < t.next := by
  rintro j off n cap z rfl
  rcases h with ⟨h, _⟩ | ⟨j', cap', e, hg, _⟩
  · cases h
  · injection e with e1
    subst e1
    exact St.get_lt hg
theorem cells_two (l : List Nd) (a b : AV) : ndC.cells l ≠ [a, b] := by
  intro h
  have h1 : (ndC.cells l).length = l.length * 6 := cells_len ndC l
  rw [h] at h1
  simp at h1
  omega
theorem cells_slices {l : List Nd} {v : AV} {vs : List AV} (hv : v = .nils ∨ ∃ j off n cap, v = .sl j off n cap 6) : ndC.cells l ≠ v :: vs := by
  intro h
  cases l with
  | nil => rw [cells_nil] at h; cases h
  | cons x r =>
    rw [cells_cons] at h
    have : ndC.enc x = Nd.av x := rfl
    rw [this] at h
    simp only [Nd.av, List.cons_append] at h
    have h := (List.cons.inj h).1
    rcases hv with rfl | ⟨_, _, _, _, rfl⟩ <;> cases h
theorem apart_two {id : Nat} {a b : AV} {own : Bool} (h : t.get id = some (.row [a, b] own)) : Apart t [id] := by
  intro j hj l' own' hg
  simp at hj
  subst hj
  rw [h] at hg
  injection hg with hg
  injection hg with hg
  exact cells_two l' a b hg.symm
theorem apart_out {v : AV} {vs : List AV} {ls : List (List Nd)} (h : OutR t v vs) (k : InR t vs ls) : Apart t (outM v vs) := by
  intro j hj l' own' hg
  unfold outM at hj
  split at hj
  · rename_i j0 off n cap z w ws
    simp at hj
    subst hj
    rcases h with ⟨h, _⟩ | ⟨j', cap', e, hg', _⟩
    · cases h
    · injection e with e1
      subst e1
      rw [hg'] at hg
      injection hg with hg
      injection hg with hg
      exact cells_slices (k.cell w (by simp)) hg.symm
  · simp at hj
theorem Apart.app {M M' : List Nat} (h : Apart t M) (k : Apart t M') : Apart t (M ++ M') := fun id hid => by
  rcases List.mem_append.1 hid with q | q
  · exact h id q
  · exact k id q
/-- One more at the end. -/
theorem out_app {v w : AV} {vs : List AV} (h : OutR t v vs) (hlt : (vs.length + 1) * 24 ≤ roomBytes) : ∃ t', aappend t 1 24 v [w] 1 = some (.sl t.next 0 (vs.length + 1) none 1, t') ∧
    t'.get t.next = some (.row (vs ++ [w]) true) ∧ t'.next = t.next + 1 ∧ Chg (outM v vs) t t' := by
  rcases h with ⟨rfl, rfl⟩ | ⟨j, cap, rfl, hg, hcap⟩
  · refine ⟨t.push (.row [w] true), ?_, St.get_push_new _ _, by simp, (Chg.refl _ t).push _⟩
    simp only [aappend, Nat.one_ne_zero, if_false, Nat.one_mul]
    rw [if_pos (by unfold roomBytes; omega)]
    rfl
  · have hlj := St.get_lt hg
    have hts : (vs.drop 0).take (vs.length * 1) = vs := by simp
    have hle : 0 + vs.length * 1 ≤ vs.length ∧ (vs.length + 1) * 24 ≤ roomBytes := ⟨by omega, hlt⟩
    rcases hcap with ⟨rfl, hne⟩ | rfl
    · refine ⟨(t.put j .dead).push (.row (vs ++ [w]) true), ?_, ?_, by simp, ?_⟩
      · simp only [aappend, if_true, hg, Nat.one_ne_zero, if_false, hle, and_self, hts, St.next_put]
      · have := St.get_push_new (t.put j .dead) (.row (vs ++ [w]) true)
        simpa using this
      · refine Chg.push (Chg.put (.refl _ t) _ (.inl ?_) hlj) _
        cases vs with
        | nil => exact absurd rfl hne
        | cons a r => simp [outM]
    · refine ⟨t.push (.row (vs ++ [w]) true), ?_, St.get_push_new _ _, by simp, (Chg.refl _ t).push _⟩
      have hn : ¬ vs.length + 1 ≤ vs.length := by omega
      simp only [aappend, if_true, hg, Nat.one_ne_zero, if_false, hle, and_self, hn, hts]
theorem out_appV {v x w : AV} {vs : List AV} (h : OutR t v vs) (hlt : (vs.length + 1) * 24 ≤ roomBytes) {j : Nat} {cap : Option Nat} {own : Bool} (hx : x = .sl j 0 1 cap 1) (hg : t.get j = some (.row [w] own)) : ∃ t', appV t 1 24 v x = some (.sl t.next 0 (vs.length + 1) none 1, t') ∧
    t'.get t.next = some (.row (vs ++ [w]) true) ∧ t'.next = t.next + 1 ∧ Chg (outM v vs) t t' := by
  obtain ⟨t', h1, h2⟩ := out_app (w := w) h hlt
  refine ⟨t', ?_, h2⟩
  subst hx
  simp only [appV, shown, lenOf, if_true, hg, List.length_cons, List.length_nil, Nat.zero_add, Nat.one_mul, Nat.le_refl, List.drop_zero, List.take_succ_cons, List.take_zero]
  exact h1

/-- A part of it. -/
theorem out_slc {v : AV} {vs : List AV} (h : OutR t v vs) {a b : Nat} (hab : a ≤ b) (hb : b ≤ vs.length) : ∃ v', slcV 1 v (some (.int .i64 (a : Int))) (some (.int .i64 (b : Int))) = some v' ∧ shownV t v' = some ((vs.drop a).take (b - a)) := by
  rcases h with ⟨rfl, rfl⟩ | ⟨j, cap, rfl, hg, hcap⟩
  · simp at hb
    subst hb
    have : a = 0 := by omega
    subst this
    exact ⟨.nils, by simp [slcV, optNat, asNatIn], by simp [shownV]⟩
  · have e2 : ∀ m, b ≤ m → optNat (some (.int .i64 (b : Int))) m vs.length = some b := fun m hm => by simp [optNat, asNatIn]; omega
    have e1 : optNat (some (.int .i64 (a : Int))) b 0 = some a := by simp [optNat, asNatIn]; omega
    have hs : ∀ cap', shownV t (.sl j (0 + a * 1) (b - a) cap' 1) = some ((vs.drop a).take (b - a)) := fun cap' => by
      simp only [shownV, if_true, hg, Nat.zero_add, Nat.mul_one]
      rw [if_pos (by omega)]
    rcases hcap with ⟨rfl, _⟩ | rfl
    · refine ⟨_, ?_, hs none⟩
      simp only [slcV, if_true, e2 _ hb, e1]
    · refine ⟨_, ?_, hs (some (vs.length - a))⟩
      simp only [slcV, if_true, e2 _ hb, e1]
theorem shown_rd {v : AV} {vs : List AV} {ls : List (List Nd)} (h : shownV t v = some vs) (k : InR t vs ls) : rdLL t v = some ls := by
  unfold rdLL
  rw [h]
  exact k.readA
/-! ### Steps -/
section
variable {env : Env}
def nchkV : AV → Option AV
  | .ptr id o => some (.ptr id o)
  | _ => none
theorem ap_nchk (x : AO) : apure env (.nchk x) = nchkV (aev env x) := by
  simp only [apure, nchkV]
  generalize aev env x = v
  cases v <;> rfl
theorem nchkV_ptr (id o : Nat) : nchkV (.ptr id o) = some (.ptr id o) := nrfl rfl
theorem bin_np (id o : Nat) : binOp .eql .np (.ptr id o) .nilp = some (.bool false) := nrfl rfl
theorem bin_npn : binOp .eql .np .nilp .nilp = some (.bool true) := nrfl rfl
theorem bin_npx (id o : Nat) : binOp .neq .np (.ptr id o) .nilp = some (.bool true) := nrfl rfl
theorem bin_npnx : binOp .neq .np .nilp .nilp = some (.bool false) := nrfl rfl
def mmV (big : Bool) : List AV → Option AV
  | v :: r => mmL big v r
  | [] => none
theorem ap_mm (big : Bool) (xs : List AO) : apure env (.mm big xs) = mmV big (xs.map (aev env)) := by
  simp only [apure, mmV]
  cases xs.map (aev env) <;> rfl
theorem mmV_max (k : IntKind) (a b : Int) : mmV true [.int k a, .int k b] = some (.int k (max a b)) := by
  simp only [mmV, mmL, if_true]
  congr 2
  split <;> omega
theorem mmV_min (k : IntKind) (a b : Int) : mmV false [.int k a, .int k b] = some (.int k (min a b)) := by
  simp only [mmV, mmL, if_true, Bool.false_eq_true, if_false]
  congr 2
  split <;> omega
theorem res3 (env : Env) (s : St) (a b c : Nat) : aresults env s [.t a, .t b, .t c] = some (.tup [E env a, E env b, E env c]) := by
  unfold E
  rfl
end
theorem row2_lod {id : Nat} {a b : AV} {own : Bool} (h : t.get id = some (.row [a, b] own)) : lod1 t (.ptr id 0) = some a ∧ lod1 t (.ptr id 1) = some b ∧ ltN id t := by
  refine ⟨?_, ?_, St.get_lt h⟩ <;> simp [lod1, h]
theorem row2_sto {id : Nat} {a b : AV} (h : t.get id = some (.row [a, b] true)) {x : AV} (hc : x.cells = [x]) (ho : x.one = true) : sto t 1 (.ptr id 0) x = some (.und, t.put id (.row [x, b] true)) ∧ sto t 1 (.ptr id 1) x = some (.und, t.put id (.row [a, x] true)) := by
  constructor <;> simp [sto, h, hc, ho, setAt]
theorem Keep.born {s t : St} (h : Keep s t) {id : Nat} (b : AB) (h1 : s.next ≤ id) (h2 : id < t.next) : Keep s (t.born id b) :=
  ⟨by simpa using h.next, fun j hj => by rw [St.get_born_ne _ _ h2 (by omega), h.get j hj], by simpa using h.low⟩
theorem born_self {t : St} {id : Nat} {b0 : AB} (h : t.get id = some b0) (b : AB) : (t.born id b).get id = some b := St.get_born_same h
theorem keep_reserve (s : St) (k : Nat) : Keep s (s.reserve k) := ⟨by simp, fun id h => by rw [St.get_reserve, if_pos h], by simp; omega⟩
theorem Chg.born {t : St} {id : Nat} {b0 : AB} (h : t.get id = some b0) (b : AB) : Chg [id] t (t.born id b) :=
  ⟨by simp, fun j _ hj => St.get_born_ne _ _ (St.get_lt h) (by simpa using hj), fun k h1 _ _ => by simpa using h1⟩
theorem bsl1 {s : St} {a : AV} {la : List Nd} (ha : read ndC s a = some la) : bslV [.nils] 1 1 [(0, a)] = some (fun id => .sl id 0 1 (some 1) 1, .row [a] true) := by
  simp only [bslV, List.map_cons, List.map_nil]
  rw [fill1 ha _ _ (by simp)]
  rfl
/-- A row of two cells, one of them a number, is no outer row. -/
theorem out_two {id : Nat} {a b v : AV} {own : Bool} {vs : List AV} {ls : List (List Nd)} (h : t.get id = some (.row [a, b] own)) (ho : OutR t v vs) (hi : InR t vs ls) (hn : (∃ k n, a = .int k n) ∨ ∃ k n, b = .int k n) : ∀ j off n cap z, v = .sl j off n cap z → j ≠ id := by
  rintro j off n cap z rfl rfl
  rcases ho with ⟨h0, _⟩ | ⟨j', cap', e, hg, _⟩
  · cases h0
  · injection e with e1
    subst e1
    rw [h] at hg
    injection hg with hg
    injection hg with hg
    have hc := hi.cell
    rw [← hg] at hc
    rcases hn with ⟨k, n, rfl⟩ | ⟨k, n, rfl⟩
    · rcases hc (.int k n) (by simp) with q | ⟨_, _, _, _, q⟩ <;> cases q
    · rcases hc (.int k n) (by simp) with q | ⟨_, _, _, _, q⟩ <;> cases q
theorem outM_in {v : AV} {vs : List AV} {id : Nat} (h : id ∈ outM v vs) : ∃ off n cap z, v = .sl id off n cap z := by
  unfold outM at h
  split at h
  · simp at h
    subst h
    exact ⟨_, _, _, _, rfl⟩
  · simp at h
end Go.AM
end
/-
  The program's buffer: First, Last, Len, Between, From, Put, Forget, Copy. Own work of this project; in part printed by a program of it.
-/
section
set_option linter.unusedVariables false
set_option linter.unusedSimpArgs false
set_option maxRecDepth 100000
set_option maxHeartbeats 8000000
namespace Go.AM
open Go Go.Proofs

variable {s t u : St}
def BufR (t : St) (id g : Nat) (dv : AV) (vs : List AV) (ls : List (List Nd)) : Prop := t.get id = some (.row [.int .i64 (g : Int), dv] true) ∧ OutR t dv vs ∧ InR t vs ls
theorem keep_lowd (s : St) : Keep s (lowd s) := ⟨Nat.le_refl _, fun _ _ => rfl, Nat.min_le_right _ _⟩
theorem BufR.keep {M : List Nat} (hc : Chg M t u) (ha : Apart t M) {id g : Nat} {dv : AV} {vs : List AV} {ls : List (List Nd)} (h : BufR t id g dv vs ls) (hid : id ∉ M) (hm : ∀ j off n cap z, dv = .sl j off n cap z → j ∉ M) : BufR u id g dv vs ls :=
  ⟨hc.blk h.1 hid, h.2.1.keep hc hm, h.2.2.keep hc ha⟩
theorem Apart.nil (t : St) : Apart t [] := fun _ h => by simp at h
theorem BufR.keep0 (hk : Keep t u) {id g : Nat} {dv : AV} {vs : List AV} {ls : List (List Nd)} (h : BufR t id g dv vs ls) : BufR u id g dv vs ls := h.keep (hk.chg []) (.nil t) (by simp) (fun _ _ _ _ _ _ => by simp)
theorem BufR.low {id g : Nat} {dv : AV} {vs : List AV} {ls : List (List Nd)} (h : BufR s id g dv vs ls) : BufR (lowd s) id g dv vs ls := h.keep0 (keep_lowd s)
theorem read_low' {α : Type} {C : Cod α} {v : AV} {l : List α} (h : read C s v = some l) : read C (lowd s) v = some l := (keep_lowd s).read h
noncomputable def R_BLast : Con := runFn (tb []) a21
theorem s_BLast : SoundAt Try.prog 21 R_BLast := run_sound (tb_sound (l := []) (by simp)) mixed Try.func21 k21 c21
theorem n_BLast : noNxtC a21.body = true := by kernel_rfl
theorem w_BLast {s : St} {id g : Nat} {dv : AV} {vs : List AV} {ls : List (List Nd)} (hb : BufR s id g dv vs ls) (hg : g + vs.length ≤ 1000000) : ∀ env : Env, elen env = a21.ntmps → (∀ i x_, [.ptr id 0][i]? = some x_ → E env i = x_) → awp (tb []) a21.body (fun x e t => (∀ i, x ≠ .exit i) ∧ aresults e t a21.results = some (.int .i64 ((g + vs.length : Nat) : Int)) ∧ Keep s t) env s := by
  intro env hlen ha
  have h0 : E env 0 = _ := ha 0 _ rfl
  have hlen : elen env = _ := hlen
  simp only [a21] at hlen
  unfold a21
  try dsimp only [oO, oG]
  obtain ⟨l0, l1, lt0⟩ := row2_lod hb.1
  have lL := hb.2.1.lenV
  have hw := wrap_nat (n := g + vs.length) (by omega)
  rw [Int.natCast_add] at hw
  simp (config := {contextual := true, maxDischargeDepth := 12}) only [tb_at, h0, hlen, l0, l1, lL, hw, ↓bD, bU, forall_const, List.all_cons, List.all_nil, Option.map_some, List.map_cons, List.map_nil, ne_eq, implies_true, isNx, cs_dec, cs_not, cs_and, cs_or, cs_valid, eq_self, ↓wp_cond, ↓wp_loop, ↓reduceIte, reduceCtorEq, Nat.reduceEqDiff, Nat.reduceLT, Nat.reduceAdd, Nat.reduceMul, Int.ofNat_lt, Int.ofNat_le, exists_const, ae_app, ap_slc, Option.map_none, mkR_none, mkR_some, ar_look, ae_mset, ae_rng, ae_mkmap0, ar_ent, lookV_push, lookV_lowed, msetV_push, msetV_lowed, lt_put, same_put, sto_over, sto_lowed, cs_dead, Option.map_some, beq_self_eq_true, decide_true, cs_true, cs_false, aa_bsl, ↓sg_bsl, ap_nchk, nchkV_ptr, bin_np, bin_npn, bin_npx, bin_npnx, ap_mm, mmV_max, mmV_min, res3, ↓st_callf]
  rw [Int.natCast_add]
theorem q_BLast (cl : Bool) {s : St} {id g : Nat} {dv : AV} {vs : List AV} {ls : List (List Nd)} (hb : BufR s id g dv vs ls) (hg : g + vs.length ≤ 1000000) : acall R_BLast cl [.ptr id 0] s = some (.int .i64 ((g + vs.length : Nat) : Int), s) := run_same n_BLast (by simp [a21]) rfl (w_BLast (s := lowd s) hb.low hg)
noncomputable def R_BFirst : Con := runFn (tb []) a20
theorem s_BFirst : SoundAt Try.prog 20 R_BFirst := run_sound (tb_sound (l := []) (by simp)) mixed Try.func20 k20 c20
theorem n_BFirst : noNxtC a20.body = true := by kernel_rfl
theorem w_BFirst {s : St} {id g : Nat} {dv : AV} {vs : List AV} {ls : List (List Nd)} (hb : BufR s id g dv vs ls) (hg : g + vs.length ≤ 1000000) : ∀ env : Env, elen env = a20.ntmps → (∀ i x_, [.ptr id 0][i]? = some x_ → E env i = x_) → awp (tb []) a20.body (fun x e t => (∀ i, x ≠ .exit i) ∧ aresults e t a20.results = some (.int .i64 ((g + 1 : Nat) : Int)) ∧ Keep s t) env s := by
  intro env hlen ha
  have h0 : E env 0 = _ := ha 0 _ rfl
  have hlen : elen env = _ := hlen
  simp only [a20] at hlen
  unfold a20
  try dsimp only [oO, oG]
  obtain ⟨l0, l1, lt0⟩ := row2_lod hb.1
  have lL := hb.2.1.lenV
  have hw := wrap_add1 (n := g) (by omega)
  simp (config := {contextual := true, maxDischargeDepth := 12}) only [tb_at, h0, hlen, l0, l1, lL, hw, ↓bD, bU, forall_const, List.all_cons, List.all_nil, Option.map_some, List.map_cons, List.map_nil, ne_eq, implies_true, isNx, cs_dec, cs_not, cs_and, cs_or, cs_valid, eq_self, ↓wp_cond, ↓wp_loop, ↓reduceIte, reduceCtorEq, Nat.reduceEqDiff, Nat.reduceLT, Nat.reduceAdd, Nat.reduceMul, Int.ofNat_lt, Int.ofNat_le, exists_const, ae_app, ap_slc, Option.map_none, mkR_none, mkR_some, ar_look, ae_mset, ae_rng, ae_mkmap0, ar_ent, lookV_push, lookV_lowed, msetV_push, msetV_lowed, lt_put, same_put, sto_over, sto_lowed, cs_dead, Option.map_some, beq_self_eq_true, decide_true, cs_true, cs_false, aa_bsl, ↓sg_bsl, ap_nchk, nchkV_ptr, bin_np, bin_npn, bin_npx, bin_npnx, ap_mm, mmV_max, mmV_min, res3, ↓st_callf]
theorem q_BFirst (cl : Bool) {s : St} {id g : Nat} {dv : AV} {vs : List AV} {ls : List (List Nd)} (hb : BufR s id g dv vs ls) (hg : g + vs.length ≤ 1000000) : acall R_BFirst cl [.ptr id 0] s = some (.int .i64 ((g + 1 : Nat) : Int), s) := run_same n_BFirst (by simp [a20]) rfl (w_BFirst (s := lowd s) hb.low hg)
noncomputable def R_BLen : Con := runFn (tb []) a19
theorem s_BLen : SoundAt Try.prog 19 R_BLen := run_sound (tb_sound (l := []) (by simp)) mixed Try.func19 k19 c19
theorem n_BLen : noNxtC a19.body = true := by kernel_rfl
theorem w_BLen {s : St} {id g : Nat} {dv : AV} {vs : List AV} {ls : List (List Nd)} (hb : BufR s id g dv vs ls) (hg : g + vs.length ≤ 1000000) : ∀ env : Env, elen env = a19.ntmps → (∀ i x_, [.ptr id 0][i]? = some x_ → E env i = x_) → awp (tb []) a19.body (fun x e t => (∀ i, x ≠ .exit i) ∧ aresults e t a19.results = some (.int .i64 (vs.length : Int)) ∧ Keep s t) env s := by
  intro env hlen ha
  have h0 : E env 0 = _ := ha 0 _ rfl
  have hlen : elen env = _ := hlen
  simp only [a19] at hlen
  unfold a19
  try dsimp only [oO, oG]
  obtain ⟨l0, l1, lt0⟩ := row2_lod hb.1
  have lL := hb.2.1.lenV
  simp (config := {contextual := true, maxDischargeDepth := 12}) only [tb_at, h0, hlen, l0, l1, lL, ↓bD, bU, forall_const, List.all_cons, List.all_nil, Option.map_some, List.map_cons, List.map_nil, ne_eq, implies_true, isNx, cs_dec, cs_not, cs_and, cs_or, cs_valid, eq_self, ↓wp_cond, ↓wp_loop, ↓reduceIte, reduceCtorEq, Nat.reduceEqDiff, Nat.reduceLT, Nat.reduceAdd, Nat.reduceMul, Int.ofNat_lt, Int.ofNat_le, exists_const, ae_app, ap_slc, Option.map_none, mkR_none, mkR_some, ar_look, ae_mset, ae_rng, ae_mkmap0, ar_ent, lookV_push, lookV_lowed, msetV_push, msetV_lowed, lt_put, same_put, sto_over, sto_lowed, cs_dead, Option.map_some, beq_self_eq_true, decide_true, cs_true, cs_false, aa_bsl, ↓sg_bsl, ap_nchk, nchkV_ptr, bin_np, bin_npn, bin_npx, bin_npnx, ap_mm, mmV_max, mmV_min, res3, ↓st_callf]
theorem q_BLen (cl : Bool) {s : St} {id g : Nat} {dv : AV} {vs : List AV} {ls : List (List Nd)} (hb : BufR s id g dv vs ls) (hg : g + vs.length ≤ 1000000) : acall R_BLen cl [.ptr id 0] s = some (.int .i64 (vs.length : Int), s) := run_same n_BLen (by simp [a19]) rfl (w_BLen (s := lowd s) hb.low hg)
theorem w_BLast_nil {s : St}  : ∀ env : Env, elen env = a21.ntmps → (∀ i x_, [.nilp][i]? = some x_ → E env i = x_) → awp (tb []) a21.body (fun x e t => (∀ i, x ≠ .exit i) ∧ aresults e t a21.results = some (.int .i64 0) ∧ Keep s t) env s := by
  intro env hlen ha
  have h0 : E env 0 = _ := ha 0 _ rfl
  have hlen : elen env = _ := hlen
  simp only [a21] at hlen
  unfold a21
  try dsimp only [oO, oG]
  simp (config := {contextual := true, maxDischargeDepth := 12}) only [tb_at, h0, hlen, ↓bD, bU, forall_const, List.all_cons, List.all_nil, Option.map_some, List.map_cons, List.map_nil, ne_eq, implies_true, isNx, cs_dec, cs_not, cs_and, cs_or, cs_valid, eq_self, ↓wp_cond, ↓wp_loop, ↓reduceIte, reduceCtorEq, Nat.reduceEqDiff, Nat.reduceLT, Nat.reduceAdd, Nat.reduceMul, Int.ofNat_lt, Int.ofNat_le, exists_const, ae_app, ap_slc, Option.map_none, mkR_none, mkR_some, ar_look, ae_mset, ae_rng, ae_mkmap0, ar_ent, lookV_push, lookV_lowed, msetV_push, msetV_lowed, lt_put, same_put, sto_over, sto_lowed, cs_dead, Option.map_some, beq_self_eq_true, decide_true, cs_true, cs_false, aa_bsl, ↓sg_bsl, ap_nchk, nchkV_ptr, bin_np, bin_npn, bin_npx, bin_npnx, ap_mm, mmV_max, mmV_min, res3, ↓st_callf]
theorem q_BLast_nil (cl : Bool) {s : St}  : acall R_BLast cl [.nilp] s = some (.int .i64 0, s) := run_same n_BLast (by simp [a21]) rfl (w_BLast_nil (s := lowd s) )
theorem w_BFirst_nil {s : St}  : ∀ env : Env, elen env = a20.ntmps → (∀ i x_, [.nilp][i]? = some x_ → E env i = x_) → awp (tb []) a20.body (fun x e t => (∀ i, x ≠ .exit i) ∧ aresults e t a20.results = some (.int .i64 0) ∧ Keep s t) env s := by
  intro env hlen ha
  have h0 : E env 0 = _ := ha 0 _ rfl
  have hlen : elen env = _ := hlen
  simp only [a20] at hlen
  unfold a20
  try dsimp only [oO, oG]
  simp (config := {contextual := true, maxDischargeDepth := 12}) only [tb_at, h0, hlen, ↓bD, bU, forall_const, List.all_cons, List.all_nil, Option.map_some, List.map_cons, List.map_nil, ne_eq, implies_true, isNx, cs_dec, cs_not, cs_and, cs_or, cs_valid, eq_self, ↓wp_cond, ↓wp_loop, ↓reduceIte, reduceCtorEq, Nat.reduceEqDiff, Nat.reduceLT, Nat.reduceAdd, Nat.reduceMul, Int.ofNat_lt, Int.ofNat_le, exists_const, ae_app, ap_slc, Option.map_none, mkR_none, mkR_some, ar_look, ae_mset, ae_rng, ae_mkmap0, ar_ent, lookV_push, lookV_lowed, msetV_push, msetV_lowed, lt_put, same_put, sto_over, sto_lowed, cs_dead, Option.map_some, beq_self_eq_true, decide_true, cs_true, cs_false, aa_bsl, ↓sg_bsl, ap_nchk, nchkV_ptr, bin_np, bin_npn, bin_npx, bin_npnx, ap_mm, mmV_max, mmV_min, res3, ↓st_callf]
theorem q_BFirst_nil (cl : Bool) {s : St}  : acall R_BFirst cl [.nilp] s = some (.int .i64 0, s) := run_same n_BFirst (by simp [a20]) rfl (w_BFirst_nil (s := lowd s) )
theorem w_BLen_nil {s : St}  : ∀ env : Env, elen env = a19.ntmps → (∀ i x_, [.nilp][i]? = some x_ → E env i = x_) → awp (tb []) a19.body (fun x e t => (∀ i, x ≠ .exit i) ∧ aresults e t a19.results = some (.int .i64 0) ∧ Keep s t) env s := by
  intro env hlen ha
  have h0 : E env 0 = _ := ha 0 _ rfl
  have hlen : elen env = _ := hlen
  simp only [a19] at hlen
  unfold a19
  try dsimp only [oO, oG]
  simp (config := {contextual := true, maxDischargeDepth := 12}) only [tb_at, h0, hlen, ↓bD, bU, forall_const, List.all_cons, List.all_nil, Option.map_some, List.map_cons, List.map_nil, ne_eq, implies_true, isNx, cs_dec, cs_not, cs_and, cs_or, cs_valid, eq_self, ↓wp_cond, ↓wp_loop, ↓reduceIte, reduceCtorEq, Nat.reduceEqDiff, Nat.reduceLT, Nat.reduceAdd, Nat.reduceMul, Int.ofNat_lt, Int.ofNat_le, exists_const, ae_app, ap_slc, Option.map_none, mkR_none, mkR_some, ar_look, ae_mset, ae_rng, ae_mkmap0, ar_ent, lookV_push, lookV_lowed, msetV_push, msetV_lowed, lt_put, same_put, sto_over, sto_lowed, cs_dead, Option.map_some, beq_self_eq_true, decide_true, cs_true, cs_false, aa_bsl, ↓sg_bsl, ap_nchk, nchkV_ptr, bin_np, bin_npn, bin_npx, bin_npnx, ap_mm, mmV_max, mmV_min, res3, ↓st_callf]
theorem q_BLen_nil (cl : Bool) {s : St}  : acall R_BLen cl [.nilp] s = some (.int .i64 0, s) := run_same n_BLen (by simp [a19]) rfl (w_BLen_nil (s := lowd s) )

def betP (g : Nat) (ls : List (List Nd)) (f l : Int) : List Nd × Int := if f < 1 ∨ l < f then ([], 2) else if f < ((g + 1 : Nat) : Int) ∨ ((g + ls.length : Nat) : Int) < l then ([], 9) else allP ((ls.drop (f - (g + 1 : Nat)).toNat).take ((l - (g : Nat)).toNat - (f - (g + 1 : Nat)).toNat))
noncomputable def R_Between : Con := runFn (tb [(20, R_BFirst), (21, R_BLast), (25, conF ndC pAll)]) a22
theorem s_Between : SoundAt Try.prog 22 R_Between := run_sound (tb_sound (l := [(20, R_BFirst), (21, R_BLast), (25, conF ndC pAll)]) (by simpa using ⟨s_BFirst, s_BLast, s_All⟩)) mixed Try.func22 k22 c22
theorem n_Between : noNxtC a22.body = true := by kernel_rfl
theorem w_Between {s : St} {id g : Nat} {dv : AV} {vs : List AV} {ls : List (List Nd)} (hb : BufR s id g dv vs ls) (hg : g + vs.length ≤ 1000000) (f l : Int) (hfl : ls.flatten.length ≤ 100000) (hll : ls.length ≤ 100000) : ∀ env : Env, elen env = a22.ntmps → (∀ i x_, [.ptr id 0, .int .i64 f, .int .i64 l][i]? = some x_ → E env i = x_) → awp (tb [(20, R_BFirst), (21, R_BLast), (25, conF ndC pAll)]) a22.body (fun x e t => (∀ i, x ≠ .exit i) ∧ Keep s t ∧ ∃ v, aresults e t a22.results = some (.tup [v, .int .i64 (betP g ls f l).2]) ∧ Own ndC s t v (betP g ls f l).1) env s := by
  intro env hlen ha
  have h0 : E env 0 = _ := ha 0 _ rfl
  have h1 : E env 1 = _ := ha 1 _ rfl
  have h2 : E env 2 = _ := ha 2 _ rfl
  have hlen : elen env = _ := hlen
  simp only [a22] at hlen
  unfold a22
  try dsimp only [oO, oG]
  obtain ⟨l0, l1, lt0⟩ := row2_lod hb.1
  have qf := q_BFirst false hb hg
  have qf' := q_BFirst true hb hg
  have ql := q_BLast false hb hg
  have hn := hb.2.2.len
  by_cases c1 : f < 1 ∨ l < f
  · have hz : (decide (f < 1) || decide (l < f)) = true := by simpa using c1
    have hP : betP g ls f l = ([], 2) := by unfold betP; rw [if_pos c1]
    rw [hP]
    simp (config := {contextual := true, maxDischargeDepth := 12}) only [tb_at, h0, h1, h2, hlen, hz, ↓bD, bU, forall_const, List.all_cons, List.all_nil, Option.map_some, List.map_cons, List.map_nil, ne_eq, implies_true, isNx, cs_dec, cs_not, cs_and, cs_or, cs_valid, eq_self, ↓wp_cond, ↓wp_loop, ↓reduceIte, reduceCtorEq, Nat.reduceEqDiff, Nat.reduceLT, Nat.reduceAdd, Nat.reduceMul, Int.ofNat_lt, Int.ofNat_le, exists_const, ae_app, ap_slc, Option.map_none, mkR_none, mkR_some, ar_look, ae_mset, ae_rng, ae_mkmap0, ar_ent, lookV_push, lookV_lowed, msetV_push, msetV_lowed, lt_put, same_put, sto_over, sto_lowed, cs_dead, Option.map_some, beq_self_eq_true, decide_true, cs_true, cs_false, aa_bsl, ↓sg_bsl, ap_nchk, nchkV_ptr, bin_np, bin_npn, bin_npx, bin_npnx, ap_mm, mmV_max, mmV_min, res3, ↓st_callf]
    exact ⟨_, rfl, .nil _ _ _⟩
  have hz : (decide (f < 1) || decide (l < f)) = false := by simpa using c1
  by_cases c2 : f < ((g + 1 : Nat) : Int) ∨ ((g + vs.length : Nat) : Int) < l
  · have hz2 : (decide (f < ((g + 1 : Nat) : Int)) || decide (((g + vs.length : Nat) : Int) < l)) = true := by simpa using c2
    have hP : betP g ls f l = ([], 9) := by unfold betP; rw [if_neg c1, if_pos (by rw [← hn]; exact c2)]
    rw [hP]
    simp (config := {contextual := true, maxDischargeDepth := 12}) only [tb_at, h0, h1, h2, hlen, hz, qf, ql, hz2, ↓bD, bU, forall_const, List.all_cons, List.all_nil, Option.map_some, List.map_cons, List.map_nil, ne_eq, implies_true, isNx, cs_dec, cs_not, cs_and, cs_or, cs_valid, eq_self, ↓wp_cond, ↓wp_loop, ↓reduceIte, reduceCtorEq, Nat.reduceEqDiff, Nat.reduceLT, Nat.reduceAdd, Nat.reduceMul, Int.ofNat_lt, Int.ofNat_le, exists_const, ae_app, ap_slc, Option.map_none, mkR_none, mkR_some, ar_look, ae_mset, ae_rng, ae_mkmap0, ar_ent, lookV_push, lookV_lowed, msetV_push, msetV_lowed, lt_put, same_put, sto_over, sto_lowed, cs_dead, Option.map_some, beq_self_eq_true, decide_true, cs_true, cs_false, aa_bsl, ↓sg_bsl, ap_nchk, nchkV_ptr, bin_np, bin_npn, bin_npx, bin_npnx, ap_mm, mmV_max, mmV_min, res3, ↓st_callf]
    exact ⟨_, rfl, .nil _ _ _⟩
  have hz2 : (decide (f < ((g + 1 : Nat) : Int)) || decide (((g + vs.length : Nat) : Int) < l)) = false := by simpa using c2
  have hP : betP g ls f l = allP ((ls.drop (f - (g + 1 : Nat)).toNat).take ((l - (g : Nat)).toNat - (f - (g + 1 : Nat)).toNat)) := by unfold betP; rw [if_neg c1, if_neg (by rw [← hn]; exact c2)]
  rw [hP]
  obtain ⟨a, ha'⟩ : ∃ a : Nat, (a : Int) = f - (g + 1 : Nat) := ⟨(f - (g + 1 : Nat)).toNat, by omega⟩
  obtain ⟨b, hb'⟩ : ∃ b : Nat, (b : Int) = l - (g : Nat) := ⟨(l - (g : Nat)).toNat, by omega⟩
  rw [← ha', ← hb', Int.toNat_natCast, Int.toNat_natCast]
  have w1 : IntKind.i64.wrap (f - (g + 1 : Nat)) = (a : Int) := by rw [← ha']; exact wrap_nat (by omega)
  have w2 : IntKind.i64.wrap (l - (g : Nat)) = (b : Int) := by rw [← hb']; exact wrap_nat (by omega)
  obtain ⟨v', hs1, hs2⟩ := out_slc (a := a) (b := b) hb.2.1 (by omega) (by omega)
  have hrd := shown_rd hs2 ((hb.2.2.drop a).take (b - a))
  have hfl' : ((ls.drop a).take (b - a)).flatten.length ≤ 100000 := by
    have h1 := flat_take (ls.drop a) (b - a)
    have h2 : (ls.drop a).flatten.length ≤ ls.flatten.length := by
      conv => rhs; rw [← List.take_append_drop a ls, List.flatten_append, List.length_append]
      omega
    omega
  have hll' : ((ls.drop a).take (b - a)).length ≤ 100000 := by
    rw [List.length_take, List.length_drop]
    omega
  obtain ⟨x, t, hc, hK, hO⟩ := acall_fresh (D := ndC) (p := pAll) (xs := [v']) (s := s) (l := (allP ((ls.drop a).take (b - a))).1) (e := some (.int .i64 (allP ((ls.drop a).take (b - a))).2)) (by simp only [pAll, rdLL_low, hrd, hfl', hll', and_self, if_true]) (fun x hx => by injection hx with hx; subst hx; rfl)
  rw [mkR_some] at hc
  simp (config := {contextual := true, maxDischargeDepth := 12}) only [tb_at, h0, h1, h2, hlen, hz, qf, ql, qf', hz2, l0, l1, w1, w2, hs1, hc, ↓bD, bU, forall_const, List.all_cons, List.all_nil, Option.map_some, List.map_cons, List.map_nil, ne_eq, implies_true, isNx, cs_dec, cs_not, cs_and, cs_or, cs_valid, eq_self, ↓wp_cond, ↓wp_loop, ↓reduceIte, reduceCtorEq, Nat.reduceEqDiff, Nat.reduceLT, Nat.reduceAdd, Nat.reduceMul, Int.ofNat_lt, Int.ofNat_le, exists_const, ae_app, ap_slc, Option.map_none, mkR_none, mkR_some, ar_look, ae_mset, ae_rng, ae_mkmap0, ar_ent, lookV_push, lookV_lowed, msetV_push, msetV_lowed, lt_put, same_put, sto_over, sto_lowed, cs_dead, Option.map_some, beq_self_eq_true, decide_true, cs_true, cs_false, aa_bsl, ↓sg_bsl, ap_nchk, nchkV_ptr, bin_np, bin_npn, bin_npx, bin_npnx, ap_mm, mmV_max, mmV_min, res3, ↓st_callf]
  exact ⟨hK, _, rfl, hO⟩
theorem q_Between {s : St} {id g : Nat} {dv : AV} {vs : List AV} {ls : List (List Nd)} (hb : BufR s id g dv vs ls) (hg : g + vs.length ≤ 1000000) (f l : Int) (hfl : ls.flatten.length ≤ 100000) (hll : ls.length ≤ 100000) : ∃ v t, acall R_Between false [.ptr id 0, .int .i64 f, .int .i64 l] s = some (.tup [v, .int .i64 (betP g ls f l).2], t) ∧ Own ndC s t v ((betP g ls f l).1) ∧ Keep s t := run_fresh n_Between (by simp [a22]) (fun v => .tup [v, .int .i64 (betP g ls f l).2]) (fun _ _ _ _ _ => rfl) (w_Between (s := lowd s) hb.low hg f l hfl hll)

def frP (g : Nat) (ls : List (List Nd)) (n : Int) : List Nd × Int × Int := if n < 1 then ([], 0, 2) else if ((g + ls.length : Nat) : Int) < n then ([], 0, 9) else
  if (betP g ls n ((g + ls.length : Nat) : Int)).2 = 0 then ((betP g ls n ((g + ls.length : Nat) : Int)).1, ((g + ls.length : Nat) : Int), 0) else ([], 0, (betP g ls n ((g + ls.length : Nat) : Int)).2)
noncomputable def R_From : Con := runFn (tb [(21, R_BLast), (22, R_Between)]) a34
theorem s_From : SoundAt Try.prog 34 R_From := run_sound (tb_sound (l := [(21, R_BLast), (22, R_Between)]) (by simpa using ⟨s_BLast, s_Between⟩)) mixed Try.func34 k34 c34
theorem n_From : noNxtC a34.body = true := by kernel_rfl
theorem w_From {s : St} {id g : Nat} {dv : AV} {vs : List AV} {ls : List (List Nd)} (hb : BufR s id g dv vs ls) (hg : g + vs.length ≤ 1000000) (n : Int) (hfl : ls.flatten.length ≤ 100000) (hll : ls.length ≤ 100000) : ∀ env : Env, elen env = a34.ntmps → (∀ i x_, [.ptr id 0, .int .i64 n][i]? = some x_ → E env i = x_) → awp (tb [(21, R_BLast), (22, R_Between)]) a34.body (fun x e t => (∀ i, x ≠ .exit i) ∧ Keep s t ∧ ∃ v, aresults e t a34.results = some (.tup [v, .int .i64 (frP g ls n).2.1, .int .i64 (frP g ls n).2.2]) ∧ Own ndC s t v (frP g ls n).1) env s := by
  intro env hlen ha
  have h0 : E env 0 = _ := ha 0 _ rfl
  have h1 : E env 1 = _ := ha 1 _ rfl
  have hlen : elen env = _ := hlen
  simp only [a34] at hlen
  unfold a34
  try dsimp only [oO, oG]
  have ql := q_BLast false hb hg
  have hn := hb.2.2.len
  by_cases c1 : n < 1
  · have hz : (n < 1) = True := eq_true c1
    have hP : frP g ls n = ([], 0, 2) := by unfold frP; rw [if_pos c1]
    rw [hP]
    simp (config := {contextual := true, maxDischargeDepth := 12}) only [tb_at, h0, h1, hlen, hz, ↓bD, bU, forall_const, List.all_cons, List.all_nil, Option.map_some, List.map_cons, List.map_nil, ne_eq, implies_true, isNx, cs_dec, cs_not, cs_and, cs_or, cs_valid, eq_self, ↓wp_cond, ↓wp_loop, ↓reduceIte, reduceCtorEq, Nat.reduceEqDiff, Nat.reduceLT, Nat.reduceAdd, Nat.reduceMul, Int.ofNat_lt, Int.ofNat_le, exists_const, ae_app, ap_slc, Option.map_none, mkR_none, mkR_some, ar_look, ae_mset, ae_rng, ae_mkmap0, ar_ent, lookV_push, lookV_lowed, msetV_push, msetV_lowed, lt_put, same_put, sto_over, sto_lowed, cs_dead, Option.map_some, beq_self_eq_true, decide_true, cs_true, cs_false, aa_bsl, ↓sg_bsl, ap_nchk, nchkV_ptr, bin_np, bin_npn, bin_npx, bin_npnx, ap_mm, mmV_max, mmV_min, res3, ↓st_callf]
    exact ⟨_, rfl, .nil _ _ _⟩
  have hz : (n < 1) = False := eq_false c1
  by_cases c2 : ((g + vs.length : Nat) : Int) < n
  · have hz2 := eq_true c2
    have hP : frP g ls n = ([], 0, 9) := by unfold frP; rw [if_neg c1, if_pos (by rw [← hn]; exact c2)]
    rw [hP]
    simp (config := {contextual := true, maxDischargeDepth := 12}) only [tb_at, h0, h1, hlen, hz, ql, hz2, ↓bD, bU, forall_const, List.all_cons, List.all_nil, Option.map_some, List.map_cons, List.map_nil, ne_eq, implies_true, isNx, cs_dec, cs_not, cs_and, cs_or, cs_valid, eq_self, ↓wp_cond, ↓wp_loop, ↓reduceIte, reduceCtorEq, Nat.reduceEqDiff, Nat.reduceLT, Nat.reduceAdd, Nat.reduceMul, Int.ofNat_lt, Int.ofNat_le, exists_const, ae_app, ap_slc, Option.map_none, mkR_none, mkR_some, ar_look, ae_mset, ae_rng, ae_mkmap0, ar_ent, lookV_push, lookV_lowed, msetV_push, msetV_lowed, lt_put, same_put, sto_over, sto_lowed, cs_dead, Option.map_some, beq_self_eq_true, decide_true, cs_true, cs_false, aa_bsl, ↓sg_bsl, ap_nchk, nchkV_ptr, bin_np, bin_npn, bin_npx, bin_npnx, ap_mm, mmV_max, mmV_min, res3, ↓st_callf]
    exact ⟨_, rfl, .nil _ _ _⟩
  have hz2 := eq_false c2
  obtain ⟨v, t, hc, hO, hK⟩ := q_Between hb hg n ((g + vs.length : Nat) : Int) hfl hll
  have ql2 := q_BLast false (hb.keep0 hK) hg
  by_cases c3 : (betP g ls n ((g + vs.length : Nat) : Int)).2 = 0
  · have hz3 : ((betP g ls n ((g + vs.length : Nat) : Int)).2 = 0) = True := eq_true c3
    have hP : frP g ls n = ((betP g ls n ((g + vs.length : Nat) : Int)).1, ((g + vs.length : Nat) : Int), 0) := by unfold frP; rw [if_neg c1, ← hn, if_neg c2, if_pos c3]
    rw [hP]
    simp (config := {contextual := true, maxDischargeDepth := 12}) only [tb_at, h0, h1, hlen, hz, ql, hz2, hc, ql2, hz3, ↓bD, bU, forall_const, List.all_cons, List.all_nil, Option.map_some, List.map_cons, List.map_nil, ne_eq, implies_true, isNx, cs_dec, cs_not, cs_and, cs_or, cs_valid, eq_self, ↓wp_cond, ↓wp_loop, ↓reduceIte, reduceCtorEq, Nat.reduceEqDiff, Nat.reduceLT, Nat.reduceAdd, Nat.reduceMul, Int.ofNat_lt, Int.ofNat_le, exists_const, ae_app, ap_slc, Option.map_none, mkR_none, mkR_some, ar_look, ae_mset, ae_rng, ae_mkmap0, ar_ent, lookV_push, lookV_lowed, msetV_push, msetV_lowed, lt_put, same_put, sto_over, sto_lowed, cs_dead, Option.map_some, beq_self_eq_true, decide_true, cs_true, cs_false, aa_bsl, ↓sg_bsl, ap_nchk, nchkV_ptr, bin_np, bin_npn, bin_npx, bin_npnx, ap_mm, mmV_max, mmV_min, res3, ↓st_callf]
    exact ⟨hK, _, rfl, hO⟩
  · have hz3 : ((betP g ls n ((g + vs.length : Nat) : Int)).2 = 0) = False := eq_false c3
    have hP : frP g ls n = ([], 0, (betP g ls n ((g + vs.length : Nat) : Int)).2) := by unfold frP; rw [if_neg c1, ← hn, if_neg c2, if_neg c3]
    rw [hP]
    simp (config := {contextual := true, maxDischargeDepth := 12}) only [tb_at, h0, h1, hlen, hz, ql, hz2, hc, ql2, hz3, ↓bD, bU, forall_const, List.all_cons, List.all_nil, Option.map_some, List.map_cons, List.map_nil, ne_eq, implies_true, isNx, cs_dec, cs_not, cs_and, cs_or, cs_valid, eq_self, ↓wp_cond, ↓wp_loop, ↓reduceIte, reduceCtorEq, Nat.reduceEqDiff, Nat.reduceLT, Nat.reduceAdd, Nat.reduceMul, Int.ofNat_lt, Int.ofNat_le, exists_const, ae_app, ap_slc, Option.map_none, mkR_none, mkR_some, ar_look, ae_mset, ae_rng, ae_mkmap0, ar_ent, lookV_push, lookV_lowed, msetV_push, msetV_lowed, lt_put, same_put, sto_over, sto_lowed, cs_dead, Option.map_some, beq_self_eq_true, decide_true, cs_true, cs_false, aa_bsl, ↓sg_bsl, ap_nchk, nchkV_ptr, bin_np, bin_npn, bin_npx, bin_npnx, ap_mm, mmV_max, mmV_min, res3, ↓st_callf]
    exact ⟨hK, _, rfl, .nil _ _ _⟩
theorem q_From {s : St} {id g : Nat} {dv : AV} {vs : List AV} {ls : List (List Nd)} (hb : BufR s id g dv vs ls) (hg : g + vs.length ≤ 1000000) (n : Int) (hfl : ls.flatten.length ≤ 100000) (hll : ls.length ≤ 100000) : ∃ v t, acall R_From false [.ptr id 0, .int .i64 n] s = some (.tup [v, .int .i64 (frP g ls n).2.1, .int .i64 (frP g ls n).2.2], t) ∧ Own ndC s t v ((frP g ls n).1) ∧ Keep s t := run_fresh n_From (by simp [a34]) (fun v => .tup [v, .int .i64 (frP g ls n).2.1, .int .i64 (frP g ls n).2.2]) (fun _ _ _ _ _ => rfl) (w_From (s := lowd s) hb.low hg n hfl hll)

/-- A value that names no block below n. -/
def Off (n : Nat) (v : AV) : Prop := ∀ j off m cap z, v = .sl j off m cap z → n ≤ j
theorem Off.nil (n : Nat) : Off n .nils := fun _ _ _ _ _ e => by cases e
theorem Off.sl {n j off m z : Nat} {cap : Option Nat} (h : n ≤ j) : Off n (.sl j off m cap z) := fun _ _ _ _ _ e => by injection e with e1; omega
theorem Off.mono {n m : Nat} {v : AV} (h : Off n v) (k : m ≤ n) : Off m v := fun j off l cap z e => Nat.le_trans k (h j off l cap z e)
def NewV (n : Nat) (vs vs' : List AV) : Prop := ∀ v ∈ vs', v ∈ vs ∨ Off n v
theorem NewV.app {n : Nat} {vs : List AV} {v : AV} (h : Off n v) : NewV n vs (vs ++ [v]) := fun x hx => by
  rcases List.mem_append.1 hx with q | q
  · exact .inl q
  · simp at q
    subst q
    exact .inr h
theorem clone_call {v : AV} {l : List Nd} (h : read ndC s v = some l) (hl : l.length ≤ lim) : ∃ v' t, acall cloneC false [v] s = some (v', t) ∧ NdR t v' l ∧ Keep s t ∧ Off s.next v' := by
  cases v with
  | nils =>
    rw [read_nils] at h
    injection h with h
    subst h
    exact ⟨.nils, s, acall_same (t := (lowd s).lowed) rfl (keep_lowed _) rfl, .inl ⟨rfl, rfl⟩, .refl s, .nil _⟩
  | sl id off n cap z =>
    have hr : read ndC (lowd s) (.sl id off n cap z) = some l := read_low' h
    have key : ∀ m cap', (l.isEmpty = true ∧ m = 0 ∧ cap' = some 0 ∨ l.isEmpty = false ∧ m = l.length ∧ cap' = none) → cloneC [.sl id off n cap z] (lowd s) = some (.sl s.next 0 m cap' 6, (lowd s).lowed.push (.row (ndC.cells l) true)) := by
      intro m cap' hm
      simp only [cloneC, hr, hl, if_true]
      rcases hm with ⟨h1, rfl, rfl⟩ | ⟨h1, rfl, rfl⟩
      · have : l = [] := by simpa using h1
        subst this
        rfl
      · rw [h1]
        rfl
    have fin : ∀ m cap', m = l.length → cloneC [.sl id off n cap z] (lowd s) = some (.sl s.next 0 m cap' 6, (lowd s).lowed.push (.row (ndC.cells l) true)) → ∃ v' t, acall cloneC false [.sl id off n cap z] s = some (v', t) ∧ NdR t v' l ∧ Keep s t ∧ Off s.next v' := by
      rintro m cap' rfl hc
      obtain ⟨t', g1, g2, g3, g4⟩ := acall_new (M := []) hc (((keep_lowed _).push _).chg []) (.inl rfl)
      have hg : t'.get s.next = some (.row (ndC.cells l) true) := by rw [g2]; exact St.get_push_new (lowd s).lowed _
      refine ⟨_, t', g1, .inr ⟨s.next, 0, l.length, cap', l, true, rfl, hg, ?_⟩, g4.keep, .sl (Nat.le_refl _)⟩
      exact read_of rfl hg (by rw [cells_len]; omega) (by rw [List.drop_zero, ← cells_len, List.take_length])
    cases he : l.isEmpty
    · exact fin _ _ rfl (key _ _ (.inr ⟨he, rfl, rfl⟩))
    · have : l = [] := by simpa using he
      subst this
      exact fin 0 _ rfl (key _ _ (.inl ⟨he, rfl, rfl⟩))
  | _ => simp [read] at h
theorem cloneF_call {v : AV} {l : List Nd} (h : read ndC s v = some l) (hl : l.length ≤ lim) : ∃ v' t, acallF cloneC [v] s = some (v', t) ∧ NdR t v' l ∧ Keep s t ∧ Off s.next v' := by
  obtain ⟨v', t, h1, h2, h3, h4⟩ := clone_call (read_low' h) hl
  obtain ⟨t', g1, g2, g3, g4⟩ := acallF_keep h1 h3
  exact ⟨v', t', g1, h2.mono fun id b hb => by rw [g2]; exact hb, g4, h4⟩

theorem BufR.mono (hc : ∀ id b, t.get id = some b → u.get id = some b) {id g : Nat} {dv : AV} {vs : List AV} {ls : List (List Nd)} (h : BufR t id g dv vs ls) : BufR u id g dv vs ls := ⟨hc _ _ h.1, h.2.1.mono hc, h.2.2.mono hc⟩
/-- What Put says: an error, or none. -/
def putP (ls : List (List Nd)) (d : List Nd) : Option Int := if storeL d = false then some 2 else if ∃ x ∈ ls, (agreeP x d).1 = false then some 15 else if ls.length = 1000 then some 7 else none
theorem agreeP_two (x d : List Nd) : (agreeP x d).2 ≠ 0 → (agreeP x d).1 = false := by
  unfold agreeP
  repeat' split
  all_goals simp
theorem putP_clash {ls : List (List Nd)} {d x : List Nd} {i : Nat} (hs : storeL d = true) (hx : ls[i]? = some x) (h : (agreeP x d).1 = false) : putP ls d = some 15 := by
  unfold putP
  rw [if_neg (by simp [hs]), if_pos ⟨x, List.mem_of_getElem? hx, h⟩]
theorem putP_rest {ls : List (List Nd)} {d : List Nd} (hs : storeL d = true) (h : ∀ (k : Nat) y, ls[k]? = some y → (agreeP y d).1 = true) : putP ls d = if ls.length = 1000 then some 7 else none := by
  unfold putP
  rw [if_neg (by simp [hs]), if_neg]
  rintro ⟨x, hx, hh⟩
  obtain ⟨k, hk⟩ := List.getElem?_of_mem hx
  rw [h k x hk] at hh
  cases hh
def InnerOk (ls : List (List Nd)) : Prop := ∀ x ∈ ls, x.length ≤ 100000
noncomputable def R_BPut : Con := runFn (tb [(35, conL ndC fValid), (36, conLLs agreeV), (37, cloneC), (21, R_BLast)]) a18
theorem s_BPut : SoundAt Try.prog 18 R_BPut := run_sound (tb_sound (l := [(35, conL ndC fValid), (36, conLLs agreeV), (37, cloneC), (21, R_BLast)]) (by simpa using ⟨s_JValid, s_Agree, s_jcopy, s_BLast⟩)) mixed Try.func18 k18 c18
theorem n_BPut : noNxtC a18.body = true := by kernel_rfl
theorem w_BPut_err {s : St} {id g : Nat} {dv : AV} {vs : List AV} {ls : List (List Nd)} (hb : BufR s id g dv vs ls) (hg : g + vs.length ≤ 1000000) {v : AV} {d : List Nd} (hr : read ndC s v = some d) (hd : d.length ≤ 100000) (hin : InnerOk ls) {er : Int} (he' : putP ls d = some er) : ∀ env : Env, elen env = a18.ntmps → (∀ i x_, [.ptr id 0, v][i]? = some x_ → E env i = x_) → awp (tb [(35, conL ndC fValid), (36, conLLs agreeV), (37, cloneC), (21, R_BLast)]) a18.body (fun x e t => (∀ i, x ≠ .exit i) ∧ aresults e t a18.results = some (.tup [.int .i64 0, .int .i64 er]) ∧ Keep s t) env s := by
  intro env hlen ha
  have h0 : E env 0 = _ := ha 0 _ rfl
  have h1 : E env 1 = _ := ha 1 _ rfl
  have hlen : elen env = _ := hlen
  simp only [a18] at hlen
  unfold a18
  try dsimp only [oO, oG]
  obtain ⟨l0, l1, lt0⟩ := row2_lod hb.1
  have lL := hb.2.1.lenV
  have hn := hb.2.2.len
  have hrd := out_rdLL hb.2.1 hb.2.2
  have qv := q_StValid false hr (by unfold lim; omega)
  cases hs : storeL d
  · rw [hs] at qv
    have hP : putP ls d = some 2 := by unfold putP; rw [if_pos hs]
    rw [hP] at he'
    injection he' with he'
    subst he'
    simp (config := {contextual := true, maxDischargeDepth := 12}) only [tb_at, h0, h1, hlen, qv, ↓bD, bU, forall_const, List.all_cons, List.all_nil, Option.map_some, List.map_cons, List.map_nil, ne_eq, implies_true, isNx, cs_dec, cs_not, cs_and, cs_or, cs_valid, eq_self, ↓wp_cond, ↓wp_loop, ↓reduceIte, reduceCtorEq, Nat.reduceEqDiff, Nat.reduceLT, Nat.reduceAdd, Nat.reduceMul, Int.ofNat_lt, Int.ofNat_le, exists_const, ae_app, ap_slc, Option.map_none, mkR_none, mkR_some, ar_look, ae_mset, ae_rng, ae_mkmap0, ar_ent, lookV_push, lookV_lowed, msetV_push, msetV_lowed, lt_put, same_put, sto_over, sto_lowed, cs_dead, Option.map_some, beq_self_eq_true, decide_true, cs_true, cs_false, aa_bsl, ↓sg_bsl, ap_nchk, nchkV_ptr, bin_np, bin_npn, bin_npx, bin_npnx, ap_mm, mmV_max, mmV_min, res3, ↓st_callf]
  rw [hs] at qv
  simp (config := {contextual := true, maxDischargeDepth := 12}) only [tb_at, h0, h1, hlen, qv, l1, lL, ↓bD, bU, forall_const, List.all_cons, List.all_nil, Option.map_some, List.map_cons, List.map_nil, ne_eq, implies_true, isNx, cs_dec, cs_not, cs_and, cs_or, cs_valid, eq_self, ↓wp_cond, ↓wp_loop, ↓reduceIte, reduceCtorEq, Nat.reduceEqDiff, Nat.reduceLT, Nat.reduceAdd, Nat.reduceMul, Int.ofNat_lt, Int.ofNat_le, exists_const, ae_app, ap_slc, Option.map_none, mkR_none, mkR_some, ar_look, ae_mset, ae_rng, ae_mkmap0, ar_ent, lookV_push, lookV_lowed, msetV_push, msetV_lowed, lt_put, same_put, sto_over, sto_lowed, cs_dead, Option.map_some, beq_self_eq_true, decide_true, cs_true, cs_false, aa_bsl, ↓sg_bsl, ap_nchk, nchkV_ptr, bin_np, bin_npn, bin_npx, bin_npnx, ap_mm, mmV_max, mmV_min, res3, ↓st_callf]
  obtain ⟨I, hI⟩ : ∃ I : Nat → Env → St → Prop, ∀ n e t, I n e t = (t = s ∧ ∃ i : Nat, n + i = ls.length ∧ elen e = 56 ∧ E e 0 = .ptr id 0 ∧ E e 1 = v ∧ E e 18 = dv ∧ E e 19 = .int .i64 (vs.length : Int) ∧ E e 20 = .int .i64 (i : Int) ∧ ∀ k y, k < i → ls[k]? = some y → (agreeP y d).1 = true) := ⟨fun n e t => (t = s ∧ ∃ i : Nat, n + i = ls.length ∧ elen e = 56 ∧ E e 0 = .ptr id 0 ∧ E e 1 = v ∧ E e 18 = dv ∧ E e 19 = .int .i64 (vs.length : Int) ∧ E e 20 = .int .i64 (i : Int) ∧ ∀ k y, k < i → ls[k]? = some y → (agreeP y d).1 = true), fun _ _ _ => rfl⟩
  refine lwp_inv I (n := ls.length) ?_ ?_
  · rw [hI]
    exact ⟨rfl, 0, by omega, by simp only [E_pne, E_psame, elen_put, Nat.reduceEqDiff, ne_eq, not_false_eq_true, Nat.reduceLT, hlen], by simp only [E_pne, E_psame, elen_put, Nat.reduceEqDiff, ne_eq, not_false_eq_true, Nat.reduceLT, h0], by simp only [E_pne, E_psame, elen_put, Nat.reduceEqDiff, ne_eq, not_false_eq_true, Nat.reduceLT, h1], by simp only [E_pne, E_psame, elen_put, Nat.reduceEqDiff, ne_eq, not_false_eq_true, Nat.reduceLT, hlen], by simp only [E_pne, E_psame, elen_put, Nat.reduceEqDiff, ne_eq, not_false_eq_true, Nat.reduceLT, hlen], by simp only [E_pne, E_psame, elen_put, Nat.reduceEqDiff, ne_eq, not_false_eq_true, Nat.reduceLT, hlen]; rfl, fun k y hk => by omega⟩
  intro n e t hi
  rw [hI] at hi
  obtain ⟨rfl, i, hni, he, e0, e1, e18, e19, e20, hpre⟩ := hi
  by_cases hlt : i < ls.length
  · have hw2 := wrap_add1 (n := i) (by omega)
    obtain ⟨x, hx⟩ := getsome hlt
    obtain ⟨w, i1, hxx, hrw⟩ := rdLL_at hrd hx
    obtain ⟨a1, al⟩ := hxx t (.refl t)
    have hlt2 : ((i : Int) < (vs.length : Int)) = True := eq_true (by omega)
    have qa := q_Agree false hrw hr (hin x (List.mem_of_getElem? hx)) hd
    rw [agreeV_P] at qa
    by_cases hag : (agreeP x d).1 = true
    · have hz2 : (agreeP x d).2 = 0 := by
        by_cases h0 : (agreeP x d).2 = 0
        · exact h0
        · rw [agreeP_two x d h0] at hag; cases hag
      rw [hag, hz2] at qa
      simp (config := {contextual := true, maxDischargeDepth := 12}) only [tb_at, he, e0, e1, e18, e19, e20, hlt2, i1, a1, al, qa, hw2, ↓bD, bU, forall_const, List.all_cons, List.all_nil, Option.map_some, List.map_cons, List.map_nil, ne_eq, implies_true, isNx, cs_dec, cs_not, cs_and, cs_or, cs_valid, eq_self, ↓wp_cond, ↓wp_loop, ↓reduceIte, reduceCtorEq, Nat.reduceEqDiff, Nat.reduceLT, Nat.reduceAdd, Nat.reduceMul, Int.ofNat_lt, Int.ofNat_le, exists_const, ae_app, ap_slc, Option.map_none, mkR_none, mkR_some, ar_look, ae_mset, ae_rng, ae_mkmap0, ar_ent, lookV_push, lookV_lowed, msetV_push, msetV_lowed, lt_put, same_put, sto_over, sto_lowed, cs_dead, Option.map_some, beq_self_eq_true, decide_true, cs_true, cs_false, aa_bsl, ↓sg_bsl, ap_nchk, nchkV_ptr, bin_np, bin_npn, bin_npx, bin_npnx, ap_mm, mmV_max, mmV_min, res3, ↓st_callf]
      refine ⟨n - 1, by omega, ?_⟩
      rw [hI]
      refine ⟨rfl, i + 1, by omega, by simp only [E_pne, E_psame, elen_put, Nat.reduceEqDiff, ne_eq, not_false_eq_true, Nat.reduceLT, he], by simp only [E_pne, E_psame, elen_put, Nat.reduceEqDiff, ne_eq, not_false_eq_true, Nat.reduceLT, e0], by simp only [E_pne, E_psame, elen_put, Nat.reduceEqDiff, ne_eq, not_false_eq_true, Nat.reduceLT, e1], by simp only [E_pne, E_psame, elen_put, Nat.reduceEqDiff, ne_eq, not_false_eq_true, Nat.reduceLT, e18], by simp only [E_pne, E_psame, elen_put, Nat.reduceEqDiff, ne_eq, not_false_eq_true, Nat.reduceLT, e19], by simp only [E_pne, E_psame, elen_put, Nat.reduceEqDiff, ne_eq, not_false_eq_true, Nat.reduceLT, he], ?_⟩
      intro k y hk hy
      by_cases e' : k = i
      · subst e'
        rw [hx] at hy
        cases hy
        exact hag
      · exact hpre k y (by omega) hy
    · have hag : (agreeP x d).1 = false := by simpa using hag
      rw [hag] at qa
      rw [putP_clash hs hx hag] at he'
      injection he' with he'
      subst he'
      by_cases hz2 : (agreeP x d).2 = 0
      · have hz3 := eq_true hz2
        simp (config := {contextual := true, maxDischargeDepth := 12}) only [tb_at, he, e0, e1, e18, e19, e20, hlt2, i1, a1, al, qa, hw2, hz3, ↓bD, bU, forall_const, List.all_cons, List.all_nil, Option.map_some, List.map_cons, List.map_nil, ne_eq, implies_true, isNx, cs_dec, cs_not, cs_and, cs_or, cs_valid, eq_self, ↓wp_cond, ↓wp_loop, ↓reduceIte, reduceCtorEq, Nat.reduceEqDiff, Nat.reduceLT, Nat.reduceAdd, Nat.reduceMul, Int.ofNat_lt, Int.ofNat_le, exists_const, ae_app, ap_slc, Option.map_none, mkR_none, mkR_some, ar_look, ae_mset, ae_rng, ae_mkmap0, ar_ent, lookV_push, lookV_lowed, msetV_push, msetV_lowed, lt_put, same_put, sto_over, sto_lowed, cs_dead, Option.map_some, beq_self_eq_true, decide_true, cs_true, cs_false, aa_bsl, ↓sg_bsl, ap_nchk, nchkV_ptr, bin_np, bin_npn, bin_npx, bin_npnx, ap_mm, mmV_max, mmV_min, res3, ↓st_callf]
      · have hz3 := eq_false hz2
        simp (config := {contextual := true, maxDischargeDepth := 12}) only [tb_at, he, e0, e1, e18, e19, e20, hlt2, i1, a1, al, qa, hw2, hz3, ↓bD, bU, forall_const, List.all_cons, List.all_nil, Option.map_some, List.map_cons, List.map_nil, ne_eq, implies_true, isNx, cs_dec, cs_not, cs_and, cs_or, cs_valid, eq_self, ↓wp_cond, ↓wp_loop, ↓reduceIte, reduceCtorEq, Nat.reduceEqDiff, Nat.reduceLT, Nat.reduceAdd, Nat.reduceMul, Int.ofNat_lt, Int.ofNat_le, exists_const, ae_app, ap_slc, Option.map_none, mkR_none, mkR_some, ar_look, ae_mset, ae_rng, ae_mkmap0, ar_ent, lookV_push, lookV_lowed, msetV_push, msetV_lowed, lt_put, same_put, sto_over, sto_lowed, cs_dead, Option.map_some, beq_self_eq_true, decide_true, cs_true, cs_false, aa_bsl, ↓sg_bsl, ap_nchk, nchkV_ptr, bin_np, bin_npn, bin_npx, bin_npnx, ap_mm, mmV_max, mmV_min, res3, ↓st_callf]
  · have hlt2 : ((i : Int) < (vs.length : Int)) = False := eq_false (by omega)
    have hall : ∀ (k : Nat) y, ls[k]? = some y → (agreeP y d).1 = true := fun k y hy => hpre k y (by have := getlt hy; omega) hy
    have hP := putP_rest hs hall
    by_cases h1000 : ls.length = 1000
    · have hz : ((vs.length : Int) = 1000) = True := eq_true (by omega)
      rw [hP, if_pos h1000] at he'
      injection he' with he'
      subst he'
      simp (config := {contextual := true, maxDischargeDepth := 12}) only [tb_at, he, e0, e1, e18, e19, e20, hlt2, l1, lL, hz, ↓bD, bU, forall_const, List.all_cons, List.all_nil, Option.map_some, List.map_cons, List.map_nil, ne_eq, implies_true, isNx, cs_dec, cs_not, cs_and, cs_or, cs_valid, eq_self, ↓wp_cond, ↓wp_loop, ↓reduceIte, reduceCtorEq, Nat.reduceEqDiff, Nat.reduceLT, Nat.reduceAdd, Nat.reduceMul, Int.ofNat_lt, Int.ofNat_le, exists_const, ae_app, ap_slc, Option.map_none, mkR_none, mkR_some, ar_look, ae_mset, ae_rng, ae_mkmap0, ar_ent, lookV_push, lookV_lowed, msetV_push, msetV_lowed, lt_put, same_put, sto_over, sto_lowed, cs_dead, Option.map_some, beq_self_eq_true, decide_true, cs_true, cs_false, aa_bsl, ↓sg_bsl, ap_nchk, nchkV_ptr, bin_np, bin_npn, bin_npx, bin_npnx, ap_mm, mmV_max, mmV_min, res3, ↓st_callf]
    · rw [hP, if_neg h1000] at he'
      cases he'
theorem q_BPut_err (cl : Bool) {s : St} {id g : Nat} {dv : AV} {vs : List AV} {ls : List (List Nd)} (hb : BufR s id g dv vs ls) (hg : g + vs.length ≤ 1000000) {v : AV} {d : List Nd} (hr : read ndC s v = some d) (hd : d.length ≤ 100000) (hin : InnerOk ls) {er : Int} (he' : putP ls d = some er) : acall R_BPut cl [.ptr id 0, v] s = some (.tup [.int .i64 0, .int .i64 er], s) := run_same n_BPut (by simp [a18]) rfl (w_BPut_err (s := lowd s) hb.low hg (read_low' hr) hd hin he')
theorem w_BPut_ok {s : St} {id g : Nat} {dv : AV} {vs : List AV} {ls : List (List Nd)} (hb : BufR s id g dv vs ls) (hg : g + vs.length < 1000000) {v : AV} {d : List Nd} (hr : read ndC s v = some d) (hd : d.length ≤ 100000) (hin : InnerOk ls) (he' : putP ls d = none) : ∀ env : Env, elen env = a18.ntmps → (∀ i x_, [.ptr id 0, v][i]? = some x_ → E env i = x_) → awp (tb [(35, conL ndC fValid), (36, conLLs agreeV), (37, cloneC), (21, R_BLast)]) a18.body (fun x e t => (∀ i, x ≠ .exit i) ∧ ∃ r, aresults e t a18.results = some r ∧ (r = .tup [.int .i64 ((g + vs.length + 1 : Nat) : Int), .int .i64 0] ∧ ∃ dv' vs', BufR t id g dv' vs' (ls ++ [d]) ∧ (∀ j off n cap z, dv' = .sl j off n cap z → s.next ≤ j) ∧ NewV s.next vs vs') ∧ Chg (id :: outM dv vs) s t ∧ (r.ground = false ∨ t.low < s.next)) env s := by
  intro env hlen ha
  have h0 : E env 0 = _ := ha 0 _ rfl
  have h1 : E env 1 = _ := ha 1 _ rfl
  have hlen : elen env = _ := hlen
  simp only [a18] at hlen
  unfold a18
  try dsimp only [oO, oG]
  obtain ⟨l0, l1, lt0⟩ := row2_lod hb.1
  have lL := hb.2.1.lenV
  have hn := hb.2.2.len
  have hrd := out_rdLL hb.2.1 hb.2.2
  have qv := q_StValid false hr (by unfold lim; omega)
  cases hs : storeL d
  · rw [hs] at qv
    have hP : putP ls d = some 2 := by unfold putP; rw [if_pos hs]
    rw [hP] at he'
    cases he'
  rw [hs] at qv
  simp (config := {contextual := true, maxDischargeDepth := 12}) only [tb_at, h0, h1, hlen, qv, l1, lL, ↓bD, bU, forall_const, List.all_cons, List.all_nil, Option.map_some, List.map_cons, List.map_nil, ne_eq, implies_true, isNx, cs_dec, cs_not, cs_and, cs_or, cs_valid, eq_self, ↓wp_cond, ↓wp_loop, ↓reduceIte, reduceCtorEq, Nat.reduceEqDiff, Nat.reduceLT, Nat.reduceAdd, Nat.reduceMul, Int.ofNat_lt, Int.ofNat_le, exists_const, ae_app, ap_slc, Option.map_none, mkR_none, mkR_some, ar_look, ae_mset, ae_rng, ae_mkmap0, ar_ent, lookV_push, lookV_lowed, msetV_push, msetV_lowed, lt_put, same_put, sto_over, sto_lowed, cs_dead, Option.map_some, beq_self_eq_true, decide_true, cs_true, cs_false, aa_bsl, ↓sg_bsl, ap_nchk, nchkV_ptr, bin_np, bin_npn, bin_npx, bin_npnx, ap_mm, mmV_max, mmV_min, res3, ↓st_callf]
  obtain ⟨I, hI⟩ : ∃ I : Nat → Env → St → Prop, ∀ n e t, I n e t = (t = s ∧ ∃ i : Nat, n + i = ls.length ∧ elen e = 56 ∧ E e 0 = .ptr id 0 ∧ E e 1 = v ∧ E e 18 = dv ∧ E e 19 = .int .i64 (vs.length : Int) ∧ E e 20 = .int .i64 (i : Int) ∧ ∀ k y, k < i → ls[k]? = some y → (agreeP y d).1 = true) := ⟨fun n e t => (t = s ∧ ∃ i : Nat, n + i = ls.length ∧ elen e = 56 ∧ E e 0 = .ptr id 0 ∧ E e 1 = v ∧ E e 18 = dv ∧ E e 19 = .int .i64 (vs.length : Int) ∧ E e 20 = .int .i64 (i : Int) ∧ ∀ k y, k < i → ls[k]? = some y → (agreeP y d).1 = true), fun _ _ _ => rfl⟩
  refine lwp_inv I (n := ls.length) ?_ ?_
  · rw [hI]
    exact ⟨rfl, 0, by omega, by simp only [E_pne, E_psame, elen_put, Nat.reduceEqDiff, ne_eq, not_false_eq_true, Nat.reduceLT, hlen], by simp only [E_pne, E_psame, elen_put, Nat.reduceEqDiff, ne_eq, not_false_eq_true, Nat.reduceLT, h0], by simp only [E_pne, E_psame, elen_put, Nat.reduceEqDiff, ne_eq, not_false_eq_true, Nat.reduceLT, h1], by simp only [E_pne, E_psame, elen_put, Nat.reduceEqDiff, ne_eq, not_false_eq_true, Nat.reduceLT, hlen], by simp only [E_pne, E_psame, elen_put, Nat.reduceEqDiff, ne_eq, not_false_eq_true, Nat.reduceLT, hlen], by simp only [E_pne, E_psame, elen_put, Nat.reduceEqDiff, ne_eq, not_false_eq_true, Nat.reduceLT, hlen]; rfl, fun k y hk => by omega⟩
  intro n e t hi
  rw [hI] at hi
  obtain ⟨rfl, i, hni, he, e0, e1, e18, e19, e20, hpre⟩ := hi
  by_cases hlt : i < ls.length
  · have hw2 := wrap_add1 (n := i) (by omega)
    obtain ⟨x, hx⟩ := getsome hlt
    obtain ⟨w, i1, hxx, hrw⟩ := rdLL_at hrd hx
    obtain ⟨a1, al⟩ := hxx t (.refl t)
    have hlt2 : ((i : Int) < (vs.length : Int)) = True := eq_true (by omega)
    have qa := q_Agree false hrw hr (hin x (List.mem_of_getElem? hx)) hd
    rw [agreeV_P] at qa
    by_cases hag : (agreeP x d).1 = true
    · have hz2 : (agreeP x d).2 = 0 := by
        by_cases h0 : (agreeP x d).2 = 0
        · exact h0
        · rw [agreeP_two x d h0] at hag; cases hag
      rw [hag, hz2] at qa
      simp (config := {contextual := true, maxDischargeDepth := 12}) only [tb_at, he, e0, e1, e18, e19, e20, hlt2, i1, a1, al, qa, hw2, ↓bD, bU, forall_const, List.all_cons, List.all_nil, Option.map_some, List.map_cons, List.map_nil, ne_eq, implies_true, isNx, cs_dec, cs_not, cs_and, cs_or, cs_valid, eq_self, ↓wp_cond, ↓wp_loop, ↓reduceIte, reduceCtorEq, Nat.reduceEqDiff, Nat.reduceLT, Nat.reduceAdd, Nat.reduceMul, Int.ofNat_lt, Int.ofNat_le, exists_const, ae_app, ap_slc, Option.map_none, mkR_none, mkR_some, ar_look, ae_mset, ae_rng, ae_mkmap0, ar_ent, lookV_push, lookV_lowed, msetV_push, msetV_lowed, lt_put, same_put, sto_over, sto_lowed, cs_dead, Option.map_some, beq_self_eq_true, decide_true, cs_true, cs_false, aa_bsl, ↓sg_bsl, ap_nchk, nchkV_ptr, bin_np, bin_npn, bin_npx, bin_npnx, ap_mm, mmV_max, mmV_min, res3, ↓st_callf]
      refine ⟨n - 1, by omega, ?_⟩
      rw [hI]
      refine ⟨rfl, i + 1, by omega, by simp only [E_pne, E_psame, elen_put, Nat.reduceEqDiff, ne_eq, not_false_eq_true, Nat.reduceLT, he], by simp only [E_pne, E_psame, elen_put, Nat.reduceEqDiff, ne_eq, not_false_eq_true, Nat.reduceLT, e0], by simp only [E_pne, E_psame, elen_put, Nat.reduceEqDiff, ne_eq, not_false_eq_true, Nat.reduceLT, e1], by simp only [E_pne, E_psame, elen_put, Nat.reduceEqDiff, ne_eq, not_false_eq_true, Nat.reduceLT, e18], by simp only [E_pne, E_psame, elen_put, Nat.reduceEqDiff, ne_eq, not_false_eq_true, Nat.reduceLT, e19], by simp only [E_pne, E_psame, elen_put, Nat.reduceEqDiff, ne_eq, not_false_eq_true, Nat.reduceLT, he], ?_⟩
      intro k y hk hy
      by_cases e' : k = i
      · subst e'
        rw [hx] at hy
        cases hy
        exact hag
      · exact hpre k y (by omega) hy
    · have hag : (agreeP x d).1 = false := by simpa using hag
      rw [hag] at qa
      rw [putP_clash hs hx hag] at he'
      cases he'
  · have hlt2 : ((i : Int) < (vs.length : Int)) = False := eq_false (by omega)
    have hall : ∀ (k : Nat) y, ls[k]? = some y → (agreeP y d).1 = true := fun k y hy => hpre k y (by have := getlt hy; omega) hy
    have hP := putP_rest hs hall
    by_cases h1000 : ls.length = 1000
    · rw [hP, if_pos h1000] at he'
      cases he'
    · have hz : ((vs.length : Int) = 1000) = False := eq_false (by omega)
      obtain ⟨v', t1, hcl, hnd, hK1, hoff⟩ := cloneF_call (s := t.reserve 1) ((keep_reserve t 1).read hr) (by unfold lim; omega)
      have hun : t1.get t.next = some .unborn := by rw [hK1.get t.next (by simp), St.get_reserve]; simp
      have hbsl := bsl1 hnd.read
      have hK2 : Keep t (t1.born t.next (.row [v'] true)) := ((keep_reserve t 1).trans hK1).born _ (Nat.le_refl _) (St.get_lt hun)
      have hO2 : OutR (t1.born t.next (.row [v'] true)) dv vs := hb.2.1.keep (hK2.chg []) (fun _ _ _ _ _ _ => by simp)
      have hI2 : InR (t1.born t.next (.row [v'] true)) vs ls := hb.2.2.keep (hK2.chg []) (.nil _)
      have hnd2 : NdR (t1.born t.next (.row [v'] true)) v' d := hnd.keep (Chg.born hun _) (fun j hj l' own h => by simp at hj; subst hj; rw [hun] at h; cases h)
      obtain ⟨t3, happ, hg3, hn3, hC3⟩ := out_appV (x := .sl t.next 0 1 (some 1) 1) hO2 (by unfold roomBytes; omega) rfl (born_self hun (.row [v'] true))
      have hidM : id ∉ outM dv vs := fun h => by
        obtain ⟨off, n', cap, z, e⟩ := outM_in h
        exact out_two hb.1 hb.2.1 hb.2.2 (.inl ⟨_, _, rfl⟩) _ _ _ _ _ e rfl
      have hb2 := hK2.blk hb.1
      have hb3 : t3.get id = some (.row [.int .i64 (g : Int), dv] true) := hC3.blk hb2 hidM
      have hsto := (row2_sto hb3 (x := .sl (t1.born t.next (.row [v'] true)).next 0 (vs.length + 1) none 1) rfl rfl).2
      have hIJ : InR t3 (vs ++ [v']) (ls ++ [d]) := InR.app (hI2.keep hC3 (apart_out hO2 hI2)) ⟨hnd2.keep hC3 (apart_out hO2 hI2), trivial⟩
      have hlt3 := St.get_lt hb3
      have hnx : t.next < (t1.born t.next (.row [v'] true)).next := by have := St.get_lt hun; simpa using this
      have hlid : id < t.next := lt0
      have hne : (t1.born t.next (.row [v'] true)).next ≠ id := by omega
      have hC4 : Chg [id] t3 (t3.put id (.row [.int .i64 (g : Int), .sl (t1.born t.next (.row [v'] true)).next 0 (vs.length + 1) none 1] true)) := (Chg.refl _ _).put _ (.inl (by simp)) hlt3
      have hB4 : BufR (t3.put id (.row [.int .i64 (g : Int), .sl (t1.born t.next (.row [v'] true)).next 0 (vs.length + 1) none 1] true)) id g (.sl (t1.born t.next (.row [v'] true)).next 0 (vs.length + 1) none 1) (vs ++ [v']) (ls ++ [d]) := by
        refine ⟨St.get_put_same hb3, .inr ⟨(t1.born t.next (.row [v'] true)).next, none, by simp, ?_, .inl ⟨rfl, by simp⟩⟩, hIJ.keep hC4 (apart_two hb3)⟩
        rw [St.get_put_ne _ _ hlt3 hne]
        exact hg3
      have ql := q_BLast false hB4 (by simp; omega)
      have hlen' : ((g + (vs ++ [v']).length : Nat) : Int) = ((g + vs.length + 1 : Nat) : Int) := by simp; omega
      rw [hlen'] at ql
      simp (config := {contextual := true, maxDischargeDepth := 12}) only [tb_at, he, e0, e1, e18, e19, e20, hlt2, l1, lL, hz, lt0, hcl, hun, hbsl, happ, hsto, ql, ↓bD, bU, forall_const, List.all_cons, List.all_nil, Option.map_some, List.map_cons, List.map_nil, ne_eq, implies_true, isNx, cs_dec, cs_not, cs_and, cs_or, cs_valid, eq_self, ↓wp_cond, ↓wp_loop, ↓reduceIte, reduceCtorEq, Nat.reduceEqDiff, Nat.reduceLT, Nat.reduceAdd, Nat.reduceMul, Int.ofNat_lt, Int.ofNat_le, exists_const, ae_app, ap_slc, Option.map_none, mkR_none, mkR_some, ar_look, ae_mset, ae_rng, ae_mkmap0, ar_ent, lookV_push, lookV_lowed, msetV_push, msetV_lowed, lt_put, same_put, sto_over, sto_lowed, cs_dead, Option.map_some, beq_self_eq_true, decide_true, cs_true, cs_false, aa_bsl, ↓sg_bsl, ap_nchk, nchkV_ptr, bin_np, bin_npn, bin_npx, bin_npnx, ap_mm, mmV_max, mmV_min, res3, ↓st_callf]
      refine ⟨_, rfl, ⟨rfl, _, _, hB4, fun j off n' cap z e => ?_, .app (hoff.mono (by simp))⟩, ?_, .inr ?_⟩
      · injection e with e1
        omega
      · exact (((hK2.chg (id :: outM dv vs)).trans hC3 (fun k hk => .inl (by simp [hk]))).trans hC4 (fun k hk => .inl (by simp at hk; simp [hk])))
      · show min t3.low id < t.next
        omega
theorem q_BPut_ok {s : St} {id g : Nat} {dv : AV} {vs : List AV} {ls : List (List Nd)} (hb : BufR s id g dv vs ls) (hg : g + vs.length < 1000000) {v : AV} {d : List Nd} (hr : read ndC s v = some d) (hd : d.length ≤ 100000) (hin : InnerOk ls) (he' : putP ls d = none) : ∃ t, acall R_BPut false [.ptr id 0, v] s = some (.tup [.int .i64 ((g + vs.length + 1 : Nat) : Int), .int .i64 0], t) ∧ (∃ dv' vs', BufR t id g dv' vs' (ls ++ [d]) ∧ (∀ j off n cap z, dv' = .sl j off n cap z → s.next ≤ j) ∧ NewV s.next vs vs') ∧ Chg (id :: outM dv vs) s t ∧ t.low < s.next := by
  obtain ⟨r, t, h1, ⟨rfl, h2⟩, h3, h4⟩ := run_newl n_BPut (by simp [a18]) (Q := fun r t => r = .tup [.int .i64 ((g + vs.length + 1 : Nat) : Int), .int .i64 0] ∧ ∃ dv' vs', BufR t id g dv' vs' (ls ++ [d]) ∧ (∀ j off n cap z, dv' = .sl j off n cap z → s.next ≤ j) ∧ NewV s.next vs vs') (fun r t t' hg hn hq => by
    have hmono : ∀ id b, t.get id = some b → t'.get id = some b := fun id b hb => by rw [hg]; exact hb
    obtain ⟨q1, dv', vs', q2, q3⟩ := hq
    exact ⟨q1, dv', vs', q2.mono hmono, q3⟩) (w_BPut_ok (s := lowd s) hb.low hg (read_low' hr) hd hin he')
  exact ⟨t, h1, h2, h3, h4.resolve_left (by intro h; cases h)⟩
theorem w_BPut_nil {s : St} {v : AV} : ∀ env : Env, elen env = a18.ntmps → (∀ i x_, [.nilp, v][i]? = some x_ → E env i = x_) → awp (tb [(35, conL ndC fValid), (36, conLLs agreeV), (37, cloneC), (21, R_BLast)]) a18.body (fun x e t => (∀ i, x ≠ .exit i) ∧ aresults e t a18.results = some (.tup [.int .i64 0, .int .i64 1]) ∧ Keep s t) env s := by
  intro env hlen ha
  have h0 : E env 0 = _ := ha 0 _ rfl
  have h1 : E env 1 = _ := ha 1 _ rfl
  have hlen : elen env = _ := hlen
  simp only [a18] at hlen
  unfold a18
  try dsimp only [oO, oG]
  simp (config := {contextual := true, maxDischargeDepth := 12}) only [tb_at, h0, h1, hlen, ↓bD, bU, forall_const, List.all_cons, List.all_nil, Option.map_some, List.map_cons, List.map_nil, ne_eq, implies_true, isNx, cs_dec, cs_not, cs_and, cs_or, cs_valid, eq_self, ↓wp_cond, ↓wp_loop, ↓reduceIte, reduceCtorEq, Nat.reduceEqDiff, Nat.reduceLT, Nat.reduceAdd, Nat.reduceMul, Int.ofNat_lt, Int.ofNat_le, exists_const, ae_app, ap_slc, Option.map_none, mkR_none, mkR_some, ar_look, ae_mset, ae_rng, ae_mkmap0, ar_ent, lookV_push, lookV_lowed, msetV_push, msetV_lowed, lt_put, same_put, sto_over, sto_lowed, cs_dead, Option.map_some, beq_self_eq_true, decide_true, cs_true, cs_false, aa_bsl, ↓sg_bsl, ap_nchk, nchkV_ptr, bin_np, bin_npn, bin_npx, bin_npnx, ap_mm, mmV_max, mmV_min, res3, ↓st_callf]
theorem q_BPut_nil (cl : Bool) {s : St} {v : AV} : acall R_BPut cl [.nilp, v] s = some (.tup [.int .i64 0, .int .i64 1], s) := run_same n_BPut (by simp [a18]) rfl (w_BPut_nil (s := lowd s) )
theorem w_From_nil {s : St} {v : AV} : ∀ env : Env, elen env = a34.ntmps → (∀ i x_, [.nilp, v][i]? = some x_ → E env i = x_) → awp (tb [(21, R_BLast), (22, R_Between)]) a34.body (fun x e t => (∀ i, x ≠ .exit i) ∧ aresults e t a34.results = some (.tup [.nils, .int .i64 0, .int .i64 1]) ∧ Keep s t) env s := by
  intro env hlen ha
  have h0 : E env 0 = _ := ha 0 _ rfl
  have h1 : E env 1 = _ := ha 1 _ rfl
  have hlen : elen env = _ := hlen
  simp only [a34] at hlen
  unfold a34
  try dsimp only [oO, oG]
  simp (config := {contextual := true, maxDischargeDepth := 12}) only [tb_at, h0, h1, hlen, ↓bD, bU, forall_const, List.all_cons, List.all_nil, Option.map_some, List.map_cons, List.map_nil, ne_eq, implies_true, isNx, cs_dec, cs_not, cs_and, cs_or, cs_valid, eq_self, ↓wp_cond, ↓wp_loop, ↓reduceIte, reduceCtorEq, Nat.reduceEqDiff, Nat.reduceLT, Nat.reduceAdd, Nat.reduceMul, Int.ofNat_lt, Int.ofNat_le, exists_const, ae_app, ap_slc, Option.map_none, mkR_none, mkR_some, ar_look, ae_mset, ae_rng, ae_mkmap0, ar_ent, lookV_push, lookV_lowed, msetV_push, msetV_lowed, lt_put, same_put, sto_over, sto_lowed, cs_dead, Option.map_some, beq_self_eq_true, decide_true, cs_true, cs_false, aa_bsl, ↓sg_bsl, ap_nchk, nchkV_ptr, bin_np, bin_npn, bin_npx, bin_npnx, ap_mm, mmV_max, mmV_min, res3, ↓st_callf]
theorem q_From_nil (cl : Bool) {s : St} {v : AV} : acall R_From cl [.nilp, v] s = some (.tup [.nils, .int .i64 0, .int .i64 1], s) := run_same n_From (by simp [a34]) rfl (w_From_nil (s := lowd s) )
theorem w_Between_nil {s : St} {v w : AV} : ∀ env : Env, elen env = a22.ntmps → (∀ i x_, [.nilp, v, w][i]? = some x_ → E env i = x_) → awp (tb [(20, R_BFirst), (21, R_BLast), (25, conF ndC pAll)]) a22.body (fun x e t => (∀ i, x ≠ .exit i) ∧ aresults e t a22.results = some (.tup [.nils, .int .i64 1]) ∧ Keep s t) env s := by
  intro env hlen ha
  have h0 : E env 0 = _ := ha 0 _ rfl
  have h1 : E env 1 = _ := ha 1 _ rfl
  have h2 : E env 2 = _ := ha 2 _ rfl
  have hlen : elen env = _ := hlen
  simp only [a22] at hlen
  unfold a22
  try dsimp only [oO, oG]
  simp (config := {contextual := true, maxDischargeDepth := 12}) only [tb_at, h0, h1, h2, hlen, ↓bD, bU, forall_const, List.all_cons, List.all_nil, Option.map_some, List.map_cons, List.map_nil, ne_eq, implies_true, isNx, cs_dec, cs_not, cs_and, cs_or, cs_valid, eq_self, ↓wp_cond, ↓wp_loop, ↓reduceIte, reduceCtorEq, Nat.reduceEqDiff, Nat.reduceLT, Nat.reduceAdd, Nat.reduceMul, Int.ofNat_lt, Int.ofNat_le, exists_const, ae_app, ap_slc, Option.map_none, mkR_none, mkR_some, ar_look, ae_mset, ae_rng, ae_mkmap0, ar_ent, lookV_push, lookV_lowed, msetV_push, msetV_lowed, lt_put, same_put, sto_over, sto_lowed, cs_dead, Option.map_some, beq_self_eq_true, decide_true, cs_true, cs_false, aa_bsl, ↓sg_bsl, ap_nchk, nchkV_ptr, bin_np, bin_npn, bin_npx, bin_npnx, ap_mm, mmV_max, mmV_min, res3, ↓st_callf]
theorem q_Between_nil (cl : Bool) {s : St} {v w : AV} : acall R_Between cl [.nilp, v, w] s = some (.tup [.nils, .int .i64 1], s) := run_same n_Between (by simp [a22]) rfl (w_Between_nil (s := lowd s) )

def fgP (g n : Nat) (u : Int) : Option Int := if u < 0 then some 2 else if ((g + n : Nat) : Int) < u then some 3 else none
noncomputable def R_Forget : Con := runFn (tb [(21, R_BLast)]) a26
theorem s_Forget : SoundAt Try.prog 26 R_Forget := run_sound (tb_sound (l := [(21, R_BLast)]) (by simpa using s_BLast)) mixed Try.func26 k26 c26
theorem n_Forget : noNxtC a26.body = true := by kernel_rfl
theorem w_Forget_nil {s : St} {v : AV} : ∀ env : Env, elen env = a26.ntmps → (∀ i x_, [.nilp, v][i]? = some x_ → E env i = x_) → awp (tb [(21, R_BLast)]) a26.body (fun x e t => (∀ i, x ≠ .exit i) ∧ aresults e t a26.results = some (.tup [.int .i64 0, .int .i64 1]) ∧ Keep s t) env s := by
  intro env hlen ha
  have h0 : E env 0 = _ := ha 0 _ rfl
  have h1 : E env 1 = _ := ha 1 _ rfl
  have hlen : elen env = _ := hlen
  simp only [a26] at hlen
  unfold a26
  try dsimp only [oO, oG]
  simp (config := {contextual := true, maxDischargeDepth := 12}) only [tb_at, h0, h1, hlen, ↓bD, bU, forall_const, List.all_cons, List.all_nil, Option.map_some, List.map_cons, List.map_nil, ne_eq, implies_true, isNx, cs_dec, cs_not, cs_and, cs_or, cs_valid, eq_self, ↓wp_cond, ↓wp_loop, ↓reduceIte, reduceCtorEq, Nat.reduceEqDiff, Nat.reduceLT, Nat.reduceAdd, Nat.reduceMul, Int.ofNat_lt, Int.ofNat_le, exists_const, ae_app, ap_slc, Option.map_none, mkR_none, mkR_some, ar_look, ae_mset, ae_rng, ae_mkmap0, ar_ent, lookV_push, lookV_lowed, msetV_push, msetV_lowed, lt_put, same_put, sto_over, sto_lowed, cs_dead, Option.map_some, beq_self_eq_true, decide_true, cs_true, cs_false, aa_bsl, ↓sg_bsl, ap_nchk, nchkV_ptr, bin_np, bin_npn, bin_npx, bin_npnx, ap_mm, mmV_max, mmV_min, res3, ↓st_callf]
theorem q_Forget_nil (cl : Bool) {s : St} {v : AV} : acall R_Forget cl [.nilp, v] s = some (.tup [.int .i64 0, .int .i64 1], s) := run_same n_Forget (by simp [a26]) rfl (w_Forget_nil (s := lowd s) )
theorem w_Forget_err {s : St} {id g : Nat} {dv : AV} {vs : List AV} {ls : List (List Nd)} (hb : BufR s id g dv vs ls) (hg : g + vs.length ≤ 1000000) {u : Int} {er : Int} (he : fgP g vs.length u = some er) : ∀ env : Env, elen env = a26.ntmps → (∀ i x_, [.ptr id 0, .int .i64 u][i]? = some x_ → E env i = x_) → awp (tb [(21, R_BLast)]) a26.body (fun x e t => (∀ i, x ≠ .exit i) ∧ aresults e t a26.results = some (.tup [.int .i64 0, .int .i64 er]) ∧ Keep s t) env s := by
  intro env hlen ha
  have h0 : E env 0 = _ := ha 0 _ rfl
  have h1 : E env 1 = _ := ha 1 _ rfl
  have hlen : elen env = _ := hlen
  simp only [a26] at hlen
  unfold a26
  try dsimp only [oO, oG]
  have ql := q_BLast false hb hg
  by_cases c1 : u < 0
  · have hz := eq_true c1
    unfold fgP at he
    rw [if_pos c1] at he
    injection he with he
    subst he
    simp (config := {contextual := true, maxDischargeDepth := 12}) only [tb_at, h0, h1, hlen, ql, hz, ↓bD, bU, forall_const, List.all_cons, List.all_nil, Option.map_some, List.map_cons, List.map_nil, ne_eq, implies_true, isNx, cs_dec, cs_not, cs_and, cs_or, cs_valid, eq_self, ↓wp_cond, ↓wp_loop, ↓reduceIte, reduceCtorEq, Nat.reduceEqDiff, Nat.reduceLT, Nat.reduceAdd, Nat.reduceMul, Int.ofNat_lt, Int.ofNat_le, exists_const, ae_app, ap_slc, Option.map_none, mkR_none, mkR_some, ar_look, ae_mset, ae_rng, ae_mkmap0, ar_ent, lookV_push, lookV_lowed, msetV_push, msetV_lowed, lt_put, same_put, sto_over, sto_lowed, cs_dead, Option.map_some, beq_self_eq_true, decide_true, cs_true, cs_false, aa_bsl, ↓sg_bsl, ap_nchk, nchkV_ptr, bin_np, bin_npn, bin_npx, bin_npnx, ap_mm, mmV_max, mmV_min, res3, ↓st_callf]
  · have hz := eq_false c1
    unfold fgP at he
    rw [if_neg c1] at he
    by_cases c2 : ((g + vs.length : Nat) : Int) < u
    · have hz2 := eq_true c2
      rw [if_pos c2] at he
      injection he with he
      subst he
      simp (config := {contextual := true, maxDischargeDepth := 12}) only [tb_at, h0, h1, hlen, ql, hz, hz2, ↓bD, bU, forall_const, List.all_cons, List.all_nil, Option.map_some, List.map_cons, List.map_nil, ne_eq, implies_true, isNx, cs_dec, cs_not, cs_and, cs_or, cs_valid, eq_self, ↓wp_cond, ↓wp_loop, ↓reduceIte, reduceCtorEq, Nat.reduceEqDiff, Nat.reduceLT, Nat.reduceAdd, Nat.reduceMul, Int.ofNat_lt, Int.ofNat_le, exists_const, ae_app, ap_slc, Option.map_none, mkR_none, mkR_some, ar_look, ae_mset, ae_rng, ae_mkmap0, ar_ent, lookV_push, lookV_lowed, msetV_push, msetV_lowed, lt_put, same_put, sto_over, sto_lowed, cs_dead, Option.map_some, beq_self_eq_true, decide_true, cs_true, cs_false, aa_bsl, ↓sg_bsl, ap_nchk, nchkV_ptr, bin_np, bin_npn, bin_npx, bin_npnx, ap_mm, mmV_max, mmV_min, res3, ↓st_callf]
    · rw [if_neg c2] at he
      cases he
theorem q_Forget_err (cl : Bool) {s : St} {id g : Nat} {dv : AV} {vs : List AV} {ls : List (List Nd)} (hb : BufR s id g dv vs ls) (hg : g + vs.length ≤ 1000000) {u : Int} {er : Int} (he : fgP g vs.length u = some er) : acall R_Forget cl [.ptr id 0, .int .i64 u] s = some (.tup [.int .i64 0, .int .i64 er], s) := run_same n_Forget (by simp [a26]) rfl (w_Forget_err (s := lowd s) hb.low hg he)

theorem out_from {v : AV} {vs : List AV} (h : OutR t v vs) {a : Nat} (ha : a ≤ vs.length) : ∃ v', slcV 1 v (some (.int .i64 (a : Int))) none = some v' ∧ shown t 1 v' = some (vs.drop a) ∧ lenOf v' = some (vs.length - a) := by
  rcases h with ⟨rfl, rfl⟩ | ⟨j, cap, rfl, hg, hcap⟩
  · simp at ha
    subst ha
    exact ⟨.nils, by simp [slcV, optNat, asNatIn], by simp [shown], by simp [lenOf]⟩
  · have e1 : optNat (some (.int .i64 (a : Int))) vs.length 0 = some a := by simp [optNat, asNatIn]; omega
    have e0 : optNat none vs.length vs.length = some vs.length := rfl
    have hs : ∀ cap', shown t 1 (.sl j (0 + a * 1) (vs.length - a) cap' 1) = some (vs.drop a) := fun cap' => by
      simp only [shown, if_true, hg, Nat.zero_add, Nat.mul_one]
      rw [if_pos (by omega), List.take_of_length_le (by simp)]
    rcases hcap with ⟨rfl, _⟩ | rfl
    · exact ⟨.sl j (0 + a * 1) (vs.length - a) none 1, by simp only [slcV, if_true, e0, e1], hs none, rfl⟩
    · exact ⟨.sl j (0 + a * 1) (vs.length - a) (some (vs.length - a)) 1, by simp only [slcV, if_true, e0, e1], hs (some (vs.length - a)), rfl⟩
def mkslV (z : List AV) (bytes : Nat) (l c : AV) : Option ((Nat → AV) × AB) := match l, c with
  | .int .i64 l, .int .i64 c =>
    if 0 ≤ l ∧ l ≤ c ∧ (bytes : Int) * c ≤ roomBytes ∧ c ≤ 9223372036854775807 then
        some (fun id => .sl id 0 l.toNat (some c.toNat) z.length, .row (zeros z c.toNat) true)
      else none
  | _, _ => none
theorem aa_mksl {env : Env} (z : List AV) (b : Nat) (l c : AO) : aalloc env (.mksl z b l c) = mkslV z b (aev env l) (aev env c) := by
  simp only [aalloc, mkslV]
  rfl
theorem mkslV_nat (z : List AV) (b n : Nat) (h : b * n ≤ roomBytes) (h2 : n ≤ 1000000) : mkslV z b (.int .i64 (n : Int)) (.int .i64 (n : Int)) = some (fun id => .sl id 0 n (some n) z.length, .row (zeros z n) true) := by
  simp only [mkslV]
  rw [if_pos ⟨by omega, by omega, by rw [← Int.natCast_mul]; unfold roomBytes at *; omega, by omega⟩]
  simp
def copyV (s : St) (sz : Nat) (d x : AV) : Option (AV × St) := match d, shown s sz x, lenOf x with
    | .nils, some _, some _ => some (.int .i64 0, s)
    | .sl id off len _ z, some new, some k =>
      if z = sz then
        match s.get id with
        | some (.row cs true) =>
          if off + len * sz ≤ cs.length then
            some (.int .i64 ((min k len : Nat) : Int), s.put id (.row (setAt cs off (new.take (min k len * sz))) true))
          else none
        | _ => none
      else none
    | _, _, _ => none
theorem ae_copy {call : Nat → List AV → St → Option (AV × St)} {env : Env} (sz : Nat) (d x : AO) : aeff call env s (.copy sz d x) = copyV s sz (aev env d) (aev env x) := by
  simp only [aeff, copyV]
  rfl
/-- Copied as a whole into a row of the same length. -/
theorem copyV_all {id n : Nat} {cap : Option Nat} {x : AV} {cs new : List AV} (h1 : shown s 1 x = some new) (h2 : lenOf x = some n) (hn : new.length = n) (hg : s.get id = some (.row cs true)) (hc : cs.length = n) : copyV s 1 (.sl id 0 n cap 1) x = some (.int .i64 (n : Int), s.put id (.row new true)) := by
  simp only [copyV, h1, h2, if_true, hg]
  rw [if_pos (by omega), Nat.min_self]
  congr 4
  simp only [setAt, List.take_zero, List.nil_append, Nat.mul_one]
  rw [List.take_of_length_le (by omega), Nat.zero_add, List.drop_of_length_le (by omega), List.append_nil]
def slc3V (sz : Nat) (x h m : AV) : Option AV := apure [] (.slc sz (.c x) none (some (.c h)) (some (.c m)))
theorem ap_slc3 {env : Env} (sz : Nat) (x h m : AO) : apure env (.slc sz x none (some h) (some m)) = slc3V sz (aev env x) (aev env h) (aev env m) := nrfl rfl
theorem slc3V_all (j n : Nat) : slc3V 1 (.sl j 0 n (some n) 1) (.int .i64 (n : Int)) (.int .i64 (n : Int)) = some (.sl j 0 n (some n) 1) := by
  simp [slc3V, apure, aev, optNat, asNatIn]
theorem w_Forget_ok {s : St} {id g : Nat} {dv : AV} {vs : List AV} {ls : List (List Nd)} (hb : BufR s id g dv vs ls) (hg : g + vs.length ≤ 1000000) {u : Int} (h0u : 0 ≤ u) (hu : u ≤ ((g + vs.length : Nat) : Int)) : ∀ env : Env, elen env = a26.ntmps → (∀ i x_, [.ptr id 0, .int .i64 u][i]? = some x_ → E env i = x_) → awp (tb [(21, R_BLast)]) a26.body (fun x e t => (∀ i, x ≠ .exit i) ∧ ∃ r, aresults e t a26.results = some r ∧ (r = .tup [.int .i64 (((u - (g : Int)).toNat : Nat) : Int), .int .i64 0] ∧ ∃ dv' vs', BufR t id (g + (u - (g : Int)).toNat) dv' vs' (ls.drop (u - (g : Int)).toNat) ∧ ∀ j off n cap z, dv' = .sl j off n cap z → s.next ≤ j) ∧ Chg [id] s t ∧ (r.ground = false ∨ t.low < s.next)) env s := by
  intro env hlen ha
  have h0 : E env 0 = _ := ha 0 _ rfl
  have h1 : E env 1 = _ := ha 1 _ rfl
  have hlen : elen env = _ := hlen
  simp only [a26] at hlen
  unfold a26
  try dsimp only [oO, oG]
  obtain ⟨l0, l1, lt0⟩ := row2_lod hb.1
  have lL := hb.2.1.lenV
  have hn := hb.2.2.len
  have ql := q_BLast false hb hg
  have hz : (u < 0) = False := eq_false (by omega)
  have hz2 : (((g + vs.length : Nat) : Int) < u) = False := eq_false (by omega)
  obtain ⟨a, ha'⟩ : ∃ a : Nat, a = (u - (g : Int)).toNat := ⟨_, rfl⟩
  rw [← ha']
  have ham : a ≤ vs.length := by omega
  have w1 : IntKind.i64.wrap (u - (g : Int)) = u - (g : Int) := by
    simp only [IntKind.wrap, IntKind.signed, IntKind.bits]
    simp
    omega
  have hmax : max 0 (u - (g : Int)) = (a : Int) := by omega
  have w2 : IntKind.i64.wrap ((vs.length : Int) - (a : Int)) = ((vs.length - a : Nat) : Int) := by
    have e : (vs.length : Int) - (a : Int) = ((vs.length - a : Nat) : Int) := by omega
    rw [e]
    exact wrap_nat (by omega)
  have w3 : IntKind.i64.wrap ((g : Int) + (a : Int)) = ((g + a : Nat) : Int) := by
    rw [← Int.natCast_add]
    exact wrap_nat (by omega)
  have hmk := mkslV_nat [.nils] 24 (vs.length - a) (by unfold roomBytes; omega) (by omega)
  obtain ⟨x, hx1, hx2, hx3⟩ := out_from (hb.2.1.keep (u := s.push (.row (zeros [.nils] (vs.length - a)) true)) (((Keep.refl s).push _).chg []) (fun _ _ _ _ _ _ => by simp)) ham
  have hgn : (s.push (.row (zeros [.nils] (vs.length - a)) true)).get s.next = some (.row (zeros [.nils] (vs.length - a)) true) := St.get_push_new _ _
  have hcp := copyV_all (id := s.next) (n := vs.length - a) (cap := some (vs.length - a)) hx2 hx3 (by simp) hgn (by simp [zeros])
  have hlid : id < s.next := lt0
  have hK1 : Keep s ((s.push (.row (zeros [.nils] (vs.length - a)) true)).put s.next (.row (vs.drop a) true)) := ((Keep.refl s).push _).put _ (Nat.le_refl _) (by simp)
  have hb1 := hK1.blk hb.1
  obtain ⟨m0, m1, mlt⟩ := row2_lod hb1
  have hs1 := (row2_sto hb.1 (x := .sl s.next 0 (vs.length - a) (some (vs.length - a)) 1) rfl rfl).2
  have hb2 := St.get_put_same (b := .row [.int .i64 (g : Int), .sl s.next 0 (vs.length - a) (some (vs.length - a)) 1] true) hb.1
  have hs2 := (row2_sto hb2 (x := .int .i64 ((g + a : Nat) : Int)) rfl rfl).1
  simp (config := {contextual := true, maxDischargeDepth := 12}) only [tb_at, h0, h1, hlen, hz, hz2, ql, l0, l1, lL, lt0, w1, hmax, w2, w3, hmk, hx1, hcp, m0, m1, mlt, hs1, hs2, List.length_cons, List.length_nil, ↓bD, bU, forall_const, List.all_cons, List.all_nil, Option.map_some, List.map_cons, List.map_nil, ne_eq, implies_true, isNx, cs_dec, cs_not, cs_and, cs_or, cs_valid, eq_self, ↓wp_cond, ↓wp_loop, ↓reduceIte, reduceCtorEq, Nat.reduceEqDiff, Nat.reduceLT, Nat.reduceAdd, Nat.reduceMul, Int.ofNat_lt, Int.ofNat_le, exists_const, ae_app, ap_slc, Option.map_none, mkR_none, mkR_some, ar_look, ae_mset, ae_rng, ae_mkmap0, ar_ent, lookV_push, lookV_lowed, msetV_push, msetV_lowed, lt_put, same_put, sto_over, sto_lowed, cs_dead, Option.map_some, beq_self_eq_true, decide_true, cs_true, cs_false, aa_bsl, ↓sg_bsl, ap_nchk, nchkV_ptr, bin_np, bin_npn, bin_npx, bin_npnx, ap_mm, mmV_max, mmV_min, res3, ↓st_callf, aa_mksl, ae_copy, ap_slc3, slc3V_all]
  have hC2 : Chg [id] s ((s.put id (.row [.int .i64 (g : Int), .sl s.next 0 (vs.length - a) (some (vs.length - a)) 1] true)).put id (.row [.int .i64 ((g + a : Nat) : Int), .sl s.next 0 (vs.length - a) (some (vs.length - a)) 1] true)) :=
    ((Chg.refl [id] s).put _ (.inl (by simp)) hlid).put _ (.inl (by simp)) (by simpa using hlid)
  have hC3 := (hC2.trans ((keep_lowed _).chg []) (by simp)).push (.row (vs.drop a) true)
  refine ⟨_, rfl, ⟨rfl, _, vs.drop a, ⟨?_, .inr ⟨s.next, some (vs.length - a), by rw [List.length_drop], ?_, .inr (by rw [List.length_drop])⟩, (hb.2.2.drop a).keep hC3 (apart_two hb.1)⟩, fun j off n cap z e => ?_⟩, hC3, .inr ?_⟩
  · exact get_push_some _ (St.get_put_same hb2)
  · exact St.get_push_new (St.lowed _) _
  · injection e with e1
    omega
  · show min (min (min s.low id) id) s.next < s.next
    omega
theorem q_Forget_ok {s : St} {id g : Nat} {dv : AV} {vs : List AV} {ls : List (List Nd)} (hb : BufR s id g dv vs ls) (hg : g + vs.length ≤ 1000000) {u : Int} (h0u : 0 ≤ u) (hu : u ≤ ((g + vs.length : Nat) : Int)) : ∃ t, acall R_Forget false [.ptr id 0, .int .i64 u] s = some (.tup [.int .i64 (((u - (g : Int)).toNat : Nat) : Int), .int .i64 0], t) ∧ (∃ dv' vs', BufR t id (g + (u - (g : Int)).toNat) dv' vs' (ls.drop (u - (g : Int)).toNat) ∧ ∀ j off n cap z, dv' = .sl j off n cap z → s.next ≤ j) ∧ Chg ([id]) s t ∧ t.low < s.next := by
  obtain ⟨r, t, h1, ⟨rfl, h2⟩, h3, h4⟩ := run_newl n_Forget (by simp [a26]) (Q := fun r t => r = .tup [.int .i64 (((u - (g : Int)).toNat : Nat) : Int), .int .i64 0] ∧ ∃ dv' vs', BufR t id (g + (u - (g : Int)).toNat) dv' vs' (ls.drop (u - (g : Int)).toNat) ∧ ∀ j off n cap z, dv' = .sl j off n cap z → s.next ≤ j) (fun r t t' hg hn hq => by
    have hmono : ∀ id b, t.get id = some b → t'.get id = some b := fun id b hb => by rw [hg]; exact hb
    obtain ⟨q1, dv', vs', q2, q3⟩ := hq
    exact ⟨q1, dv', vs', q2.mono hmono, q3⟩) (w_Forget_ok (s := lowd s) hb.low hg h0u hu)
  exact ⟨t, h1, h2, h3, h4.resolve_left (by intro h; cases h)⟩

theorem OutR.one {v : AV} {vs : List AV} (h : OutR t v vs) : v.cells = [v] ∧ v.one = true := by
  rcases h with ⟨rfl, _⟩ | ⟨j, cap, rfl, _⟩ <;> exact ⟨rfl, rfl⟩
theorem bin_nss (id off n : Nat) (cap : Option Nat) (z : Nat) : binOp .eql .ns (.sl id off n cap z) .nils = some (.bool false) := nrfl rfl
theorem bin_nsn : binOp .eql .ns .nils .nils = some (.bool true) := nrfl rfl
theorem bsl0 : bslV [] 0 1 [] = some (fun id => .sl id 0 0 (some 0) 1, .row [] true) := nrfl rfl
theorem fstep_0 {a b v : AV} (h : v.cells = [v] ∧ v.one = true) (K : List AV → Option (List AV)) : fstep [a, b] 0 1 v K = K [v, b] := by
  simp [fstep, h.1, h.2, setAt]
theorem fstep_1 {a b v : AV} (h : v.cells = [v] ∧ v.one = true) (K : List AV → Option (List AV)) : fstep [a, b] 1 1 v K = K [a, v] := by
  simp [fstep, h.1, h.2, setAt]
theorem boxV_2 {a b : AV} (ha : a.one = true) (hb : b.one = true) : boxV 2 (.agg [a, b]) = some (fun id => .ptr id 0, .row [a, b] true) := by
  simp [boxV, AV.cells, ha, hb]
noncomputable def R_ClS : Con := runFn (tb []) a41
theorem s_ClS : SoundAt Try.prog 41 R_ClS := run_sound (tb_sound (l := []) (by simp)) mixed Try.func41 k41 c41
theorem n_ClS : noNxtC a41.body = true := by kernel_rfl
theorem w_ClS {s : St} {dv : AV} {vs : List AV} (ho : OutR s dv vs) (hl : vs.length ≤ 1000000) : ∀ env : Env, elen env = a41.ntmps → (∀ i x_, [dv][i]? = some x_ → E env i = x_) → awp (tb []) a41.body (fun x e t => (∀ i, x ≠ .exit i) ∧ ∃ r, aresults e t a41.results = some r ∧ OutR t r vs ∧ (∀ j off n cap z, r = .sl j off n cap z → s.next ≤ j) ∧ Keep s t) env s := by
  intro env hlen ha
  have h0 : E env 0 = _ := ha 0 _ rfl
  have hlen : elen env = _ := hlen
  simp only [a41] at hlen
  unfold a41
  try dsimp only [oO, oG]
  rcases ho with ⟨rfl, rfl⟩ | ⟨j, cap, rfl, hg, hcap⟩
  · simp (config := {contextual := true, maxDischargeDepth := 12}) only [tb_at, h0, hlen, ↓bD, bU, forall_const, List.all_cons, List.all_nil, Option.map_some, List.map_cons, List.map_nil, ne_eq, implies_true, isNx, cs_dec, cs_not, cs_and, cs_or, cs_valid, eq_self, ↓wp_cond, ↓wp_loop, ↓reduceIte, reduceCtorEq, Nat.reduceEqDiff, Nat.reduceLT, Nat.reduceAdd, Nat.reduceMul, Int.ofNat_lt, Int.ofNat_le, exists_const, ae_app, ap_slc, Option.map_none, mkR_none, mkR_some, ar_look, ae_mset, ae_rng, ae_mkmap0, ar_ent, lookV_push, lookV_lowed, msetV_push, msetV_lowed, lt_put, same_put, sto_over, sto_lowed, cs_dead, Option.map_some, beq_self_eq_true, decide_true, cs_true, cs_false, aa_bsl, ↓sg_bsl, ap_nchk, nchkV_ptr, bin_np, bin_npn, bin_npx, bin_npnx, ap_mm, mmV_max, mmV_min, res3, ↓st_callf, aa_mksl, ae_copy, ap_slc3, slc3V_all, bin_nss, bin_nsn, aa_bsl]
    exact ⟨_, rfl, .inl ⟨rfl, rfl⟩, fun _ _ _ _ _ e => by (cases e)⟩
  · have hgn : (s.push (.row [] true)).get s.next = some (.row [] true) := St.get_push_new _ _
    have hg1 : (s.push (.row [] true)).get j = some (.row vs true) := get_push_some _ hg
    have hs : shown (s.push (.row [] true)) 1 (.sl j 0 vs.length cap 1) = some vs := by
      simp only [shown, if_true, hg1, Nat.zero_add, Nat.mul_one, Nat.le_refl, List.drop_zero, List.take_length]
    cases hv : vs with
    | nil =>
      subst hv
      have hap : appV (s.push (.row [] true)) 1 24 (.sl s.next 0 0 (some 0) 1) (.sl j 0 0 cap 1) = some (.sl s.next 0 0 (some 0) 1, s.push (.row [] true)) := by
        have hs : shown (s.push (.row [] true)) 1 (.sl j 0 0 cap 1) = some [] := hs
        simp only [appV, hs, lenOf, aappend, if_true, hgn]
      have h0 : E env 0 = .sl j 0 0 cap 1 := h0
      simp (config := {contextual := true, maxDischargeDepth := 12}) only [tb_at, h0, hlen, bsl0, hap, ↓bD, bU, forall_const, List.all_cons, List.all_nil, Option.map_some, List.map_cons, List.map_nil, ne_eq, implies_true, isNx, cs_dec, cs_not, cs_and, cs_or, cs_valid, eq_self, ↓wp_cond, ↓wp_loop, ↓reduceIte, reduceCtorEq, Nat.reduceEqDiff, Nat.reduceLT, Nat.reduceAdd, Nat.reduceMul, Int.ofNat_lt, Int.ofNat_le, exists_const, ae_app, ap_slc, Option.map_none, mkR_none, mkR_some, ar_look, ae_mset, ae_rng, ae_mkmap0, ar_ent, lookV_push, lookV_lowed, msetV_push, msetV_lowed, lt_put, same_put, sto_over, sto_lowed, cs_dead, Option.map_some, beq_self_eq_true, decide_true, cs_true, cs_false, aa_bsl, ↓sg_bsl, ap_nchk, nchkV_ptr, bin_np, bin_npn, bin_npx, bin_npnx, ap_mm, mmV_max, mmV_min, res3, ↓st_callf, aa_mksl, ae_copy, ap_slc3, slc3V_all, bin_nss, bin_nsn, aa_bsl]
      exact ⟨_, rfl, .inr ⟨s.next, some 0, rfl, hgn, .inr rfl⟩, fun j off n cap z e => by (injection e with e1; omega)⟩
    | cons a r =>
      rw [← hv]
      have hn0 : vs.length ≠ 0 := by rw [hv]; simp
      have hap : appV (s.push (.row [] true)) 1 24 (.sl s.next 0 0 (some 0) 1) (.sl j 0 vs.length cap 1) = some (.sl (s.next + 1) 0 vs.length none 1, (s.push (.row [] true)).push (.row vs true)) := by
        simp only [appV, hs, lenOf, aappend, if_true, hgn, if_neg hn0]
        rw [if_pos ⟨by simp, by unfold roomBytes; omega⟩, if_neg (by omega)]
        simp
      simp (config := {contextual := true, maxDischargeDepth := 12}) only [tb_at, h0, hlen, bsl0, hap, ↓bD, bU, forall_const, List.all_cons, List.all_nil, Option.map_some, List.map_cons, List.map_nil, ne_eq, implies_true, isNx, cs_dec, cs_not, cs_and, cs_or, cs_valid, eq_self, ↓wp_cond, ↓wp_loop, ↓reduceIte, reduceCtorEq, Nat.reduceEqDiff, Nat.reduceLT, Nat.reduceAdd, Nat.reduceMul, Int.ofNat_lt, Int.ofNat_le, exists_const, ae_app, ap_slc, Option.map_none, mkR_none, mkR_some, ar_look, ae_mset, ae_rng, ae_mkmap0, ar_ent, lookV_push, lookV_lowed, msetV_push, msetV_lowed, lt_put, same_put, sto_over, sto_lowed, cs_dead, Option.map_some, beq_self_eq_true, decide_true, cs_true, cs_false, aa_bsl, ↓sg_bsl, ap_nchk, nchkV_ptr, bin_np, bin_npn, bin_npx, bin_npnx, ap_mm, mmV_max, mmV_min, res3, ↓st_callf, aa_mksl, ae_copy, ap_slc3, slc3V_all, bin_nss, bin_nsn, aa_bsl]
      exact ⟨_, rfl, .inr ⟨s.next + 1, none, rfl, St.get_push_new (s.push _) _, .inl ⟨rfl, by rw [hv]; simp⟩⟩, fun j off n cap z e => by (injection e with e1; omega)⟩
theorem q_ClS {s : St} {dv : AV} {vs : List AV} (ho : OutR s dv vs) (hl : vs.length ≤ 1000000) : ∃ v t, acall R_ClS false [dv] s = some (v, t) ∧ OutR t v vs ∧ (∀ j off n cap z, v = .sl j off n cap z → s.next ≤ j) ∧ Keep s t := by
  obtain ⟨r, t, h1, h2, h3, h4⟩ := run_awp n_ClS (args := [dv]) (by simp [a41]) (Q := fun r t => OutR t r vs ∧ (∀ j off n cap z, r = .sl j off n cap z → (lowd s).next ≤ j) ∧ Keep (lowd s) t) (w_ClS (s := lowd s) (ho.keep ((keep_lowd s).chg []) (fun _ _ _ _ _ _ => by simp)) hl)
  rcases h2 with ⟨rfl, rfl⟩ | ⟨j, cap, rfl, h5⟩
  · exact ⟨.nils, s, acall_same h1 h4 rfl, .inl ⟨rfl, rfl⟩, fun _ _ _ _ _ e => by (cases e), .refl s⟩
  · obtain ⟨t', g1, g2, g3, g4⟩ := acall_new h1 (h4.chg []) (.inl rfl)
    exact ⟨_, t', g1, OutR.mono (t := t) (fun id b hb => by rw [g2]; exact hb) (.inr ⟨j, cap, rfl, h5⟩), h3, g4.keep⟩
theorem qF_ClS {s : St} {dv : AV} {vs : List AV} (ho : OutR s dv vs) (hl : vs.length ≤ 1000000) : ∃ v t, acallF R_ClS [dv] s = some (v, t) ∧ OutR t v vs ∧ (∀ j off n cap z, v = .sl j off n cap z → s.next ≤ j) ∧ Keep s t := by
  obtain ⟨v, t, h1, h2, h3, h4⟩ := q_ClS (ho.keep ((keep_lowd s).chg []) (fun _ _ _ _ _ _ => by simp)) hl
  obtain ⟨t', g1, g2, g3, g4⟩ := acallF_keep h1 h4
  exact ⟨v, t', g1, h2.mono fun id b hb => by rw [g2]; exact hb, h3, g4⟩
noncomputable def R_BCopy : Con := runFn (tb [(41, R_ClS)]) a29
theorem s_BCopy : SoundAt Try.prog 29 R_BCopy := run_sound (tb_sound (l := [(41, R_ClS)]) (by simpa using s_ClS)) mixed Try.func29 k29 c29
theorem n_BCopy : noNxtC a29.body = true := by kernel_rfl
theorem w_BCopy_nil {s : St}  : ∀ env : Env, elen env = a29.ntmps → (∀ i x_, [.nilp][i]? = some x_ → E env i = x_) → awp (tb [(41, R_ClS)]) a29.body (fun x e t => (∀ i, x ≠ .exit i) ∧ aresults e t a29.results = some (.nilp) ∧ Keep s t) env s := by
  intro env hlen ha
  have h0 : E env 0 = _ := ha 0 _ rfl
  have hlen : elen env = _ := hlen
  simp only [a29] at hlen
  unfold a29
  try dsimp only [oO, oG]
  simp (config := {contextual := true, maxDischargeDepth := 12}) only [tb_at, h0, hlen, ↓bD, bU, forall_const, List.all_cons, List.all_nil, Option.map_some, List.map_cons, List.map_nil, ne_eq, implies_true, isNx, cs_dec, cs_not, cs_and, cs_or, cs_valid, eq_self, ↓wp_cond, ↓wp_loop, ↓reduceIte, reduceCtorEq, Nat.reduceEqDiff, Nat.reduceLT, Nat.reduceAdd, Nat.reduceMul, Int.ofNat_lt, Int.ofNat_le, exists_const, ae_app, ap_slc, Option.map_none, mkR_none, mkR_some, ar_look, ae_mset, ae_rng, ae_mkmap0, ar_ent, lookV_push, lookV_lowed, msetV_push, msetV_lowed, lt_put, same_put, sto_over, sto_lowed, cs_dead, Option.map_some, beq_self_eq_true, decide_true, cs_true, cs_false, aa_bsl, ↓sg_bsl, ap_nchk, nchkV_ptr, bin_np, bin_npn, bin_npx, bin_npnx, ap_mm, mmV_max, mmV_min, res3, ↓st_callf, aa_mksl, ae_copy, ap_slc3, slc3V_all, bin_nss, bin_nsn, aa_bsl]
theorem q_BCopy_nil (cl : Bool) {s : St}  : acall R_BCopy cl [.nilp] s = some (.nilp, s) := run_same n_BCopy (by simp [a29]) rfl (w_BCopy_nil (s := lowd s) )
theorem w_BCopy_ok {s : St} {id g : Nat} {dv : AV} {vs : List AV} {ls : List (List Nd)} (hb : BufR s id g dv vs ls) (hg : g + vs.length ≤ 1000000) : ∀ env : Env, elen env = a29.ntmps → (∀ i x_, [.ptr id 0][i]? = some x_ → E env i = x_) → awp (tb [(41, R_ClS)]) a29.body (fun x e t => (∀ i, x ≠ .exit i) ∧ ∃ r, aresults e t a29.results = some r ∧ (∃ id' dv', BufR t id' g dv' vs ls ∧ s.next ≤ id' ∧ (∀ j off n cap z, dv' = .sl j off n cap z → s.next ≤ j) ∧ r = .ptr id' 0) ∧ Chg [] s t ∧ (r.ground = false ∨ t.low < s.next)) env s := by
  intro env hlen ha
  have h0 : E env 0 = _ := ha 0 _ rfl
  have hlen : elen env = _ := hlen
  simp only [a29] at hlen
  unfold a29
  try dsimp only [oO, oG]
  obtain ⟨l0, l1, lt0⟩ := row2_lod hb.1
  obtain ⟨v', t1, hcl, ho, hfr, hK1⟩ := qF_ClS (s := s.reserve 1) (hb.2.1.keep ((keep_reserve s 1).chg []) (fun _ _ _ _ _ _ => by simp)) (by omega)
  have hun : t1.get s.next = some .unborn := by rw [hK1.get s.next (by simp), St.get_reserve]; simp
  have hf0 := fstep_0 (a := .int .i64 0) (b := .nils) (v := .int .i64 (g : Int)) ⟨rfl, rfl⟩
  have hf1 := fstep_1 (a := .int .i64 (g : Int)) (b := .nils) ho.one
  have hbx := boxV_2 (a := .int .i64 (g : Int)) rfl ho.one.2
  simp (config := {contextual := true, maxDischargeDepth := 12}) only [tb_at, h0, hlen, l0, l1, lt0, hcl, hun, hf0, hf1, hbx, ↓bD, bU, forall_const, List.all_cons, List.all_nil, Option.map_some, List.map_cons, List.map_nil, ne_eq, implies_true, isNx, cs_dec, cs_not, cs_and, cs_or, cs_valid, eq_self, ↓wp_cond, ↓wp_loop, ↓reduceIte, reduceCtorEq, Nat.reduceEqDiff, Nat.reduceLT, Nat.reduceAdd, Nat.reduceMul, Int.ofNat_lt, Int.ofNat_le, exists_const, ae_app, ap_slc, Option.map_none, mkR_none, mkR_some, ar_look, ae_mset, ae_rng, ae_mkmap0, ar_ent, lookV_push, lookV_lowed, msetV_push, msetV_lowed, lt_put, same_put, sto_over, sto_lowed, cs_dead, Option.map_some, beq_self_eq_true, decide_true, cs_true, cs_false, aa_bsl, ↓sg_bsl, ap_nchk, nchkV_ptr, bin_np, bin_npn, bin_npx, bin_npnx, ap_mm, mmV_max, mmV_min, res3, ↓st_callf, aa_mksl, ae_copy, ap_slc3, slc3V_all, bin_nss, bin_nsn, aa_bsl]
  have hK : Keep s (t1.born s.next (.row [.int .i64 (g : Int), v'] true)) := ((keep_reserve s 1).trans hK1).born _ (Nat.le_refl _) (St.get_lt hun)
  have hch := Chg.born hun (.row [.int .i64 (g : Int), v'] true)
  refine ⟨_, rfl, ⟨s.next, v', ⟨born_self hun _, ho.keep hch (fun j off n cap z e => ?_), (hb.2.2.keep (hK.chg []) (.nil _))⟩, Nat.le_refl _, fun j off n cap z e => ?_, rfl⟩, hK.chg [], .inl rfl⟩
  · have := hfr j off n cap z e
    simp at this ⊢
    omega
  · have := hfr j off n cap z e
    simp at this
    omega
theorem q_BCopy {s : St} {id g : Nat} {dv : AV} {vs : List AV} {ls : List (List Nd)} (hb : BufR s id g dv vs ls) (hg : g + vs.length ≤ 1000000) : ∃ id' dv' t, acall R_BCopy false [.ptr id 0] s = some (.ptr id' 0, t) ∧ BufR t id' g dv' vs ls ∧ s.next ≤ id' ∧ (∀ j off n cap z, dv' = .sl j off n cap z → s.next ≤ j) ∧ Keep s t := by
  obtain ⟨r, t, h1, ⟨id', dv', h2, h3, h4, rfl⟩, h5⟩ := run_new n_BCopy (by simp [a29]) (Q := fun r t => ∃ id' dv', BufR t id' g dv' vs ls ∧ s.next ≤ id' ∧ (∀ j off n cap z, dv' = .sl j off n cap z → s.next ≤ j) ∧ r = .ptr id' 0) (fun r t t' hg hn hq => by
    obtain ⟨id', dv', q1, q2⟩ := hq
    exact ⟨id', dv', q1.mono fun id b hb => by rw [hg]; exact hb, q2⟩) (w_BCopy_ok (s := lowd s) hb.low hg)
  exact ⟨id', dv', t, h1, h2, h3, h4, h5.keep⟩

end Go.AM
end
