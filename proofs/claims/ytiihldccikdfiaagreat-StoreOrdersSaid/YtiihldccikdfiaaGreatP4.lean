/-
  The references: With, Union, Raise. Own work of this project; in part printed by a program of it.
-/
import Derived.Test.YtiihldccikdfiaaGreatP3
import Derived.Shelf.SlSortCmp.WholeK
import Derived.Ground.SlsfProg
import Derived.Shelf.SlGeneric
import Derived.Test.YtiihldccikdfiaaGreatProg
import Derived.Shelf.SlSortCmp.NoneTotal
section
set_option linter.unusedVariables false
set_option linter.unusedSimpArgs false
set_option maxRecDepth 100000
set_option maxHeartbeats 8000000
namespace Go.AM
open Go Go.Proofs

variable {s t u : St}

def appF (s : St) (sz bytes : Nat) (a x : AV) : Option (AV × St) := match appV (lowd s) sz bytes a x with
  | some (v, t) => if s.next ≤ t.low then some (v, { heap := t.heap, next := t.next, low := min s.low t.low }) else none
  | none => none
theorem st_appf {call : Nat → List AV → St → Option (AV × St)} {base : Nat} {d : Option Nat} {r : Option Nat} {rest : List AOper} {Q : Env → St → Prop} {env : Env} {s : St} (sz b : Nat) (z : List AV) (a x : AO) : awops call base (⟨d, .app sz b z a x, none, r, true⟩ :: rest) Q env s = estep (appF s sz b (aev env a) (aev env x)) fun v t => awops call base rest Q (pE env d v) t := by
  rw [st_efff (op := .app sz b z a x) (by simp) rfl rfl rfl]
  simp only [ae_app, appF, AOp.floor, AOp.isStore, Bool.false_eq_true, if_false]
  show estep (appV (lowd s) sz b (aev env a) (aev env x)) _ = _
  cases appV (lowd s) sz b (aev env a) (aev env x) with
  | none => rfl
  | some q =>
    obtain ⟨v, t⟩ := q
    simp only [estep]
    by_cases h : s.next ≤ t.low
    · rw [if_pos h, if_pos h]
    · rw [if_neg h, if_neg h]
theorem born_keep {t : St} {id : Nat} {b0 : AB} (h : t.get id = some b0) (b : AB) (hs : s.next ≤ id) (hK : Keep s t) : Keep s (t.born id b) := hK.born b hs (St.get_lt h)
end Go.AM
end
/-
  The references: Raise and Compact. Own work of this project; in part printed by a program of it.
-/
section
set_option linter.unusedVariables false
set_option linter.unusedSimpArgs false
set_option maxRecDepth 100000
set_option maxHeartbeats 8000000
namespace Go.AM
open Go Go.Proofs

variable {s t u : St}

end Go.AM
end
/-
  The reference: Compact, Add, Missing, Size. Own work of this project; in part printed by a program of it.
-/
section
set_option linter.unusedVariables false
set_option linter.unusedSimpArgs false
set_option maxRecDepth 100000
set_option maxHeartbeats 8000000
namespace Go.AM
open Go Go.Proofs

variable {s t u : St}

end Go.AM
end
/-
  The reference: Add, Missing, Size. Own work of this project; in part printed by a program of it.
-/
section
set_option linter.unusedVariables false
set_option linter.unusedSimpArgs false
set_option maxRecDepth 100000
set_option maxHeartbeats 8000000
namespace Go.AM
open Go Go.Proofs

variable {s t u : St}
end Go.AM
end
/-
  Functions that make a new list: dots, Copy, Join; store.Valid. Own work of this project; in part printed by a program of it.
-/
section
set_option linter.unusedVariables false
set_option linter.unusedSimpArgs false
set_option maxRecDepth 100000
set_option maxHeartbeats 4000000
namespace Go.AM
open Go Go.Proofs

def gDots (l : List Nd) : Option (List Dot × Option AV) := some (l.map Nd.d, none)
theorem s_Dots : SoundAt Tryz.prog 65 (conF dotC (pL ndC gDots)) :=
  con_fresh (tb_sound (l := []) (by simp)) mixed Tryz.func65 k65 c65 fun args s r ee h => by
    obtain ⟨v, l, rfl, hr, hl, hp⟩ := pL_some h
    injection hp with hp
    obtain ⟨rfl, rfl⟩ := Prod.mk.inj hp
    refine ⟨by simp, by simp [a65], fun env hlen ha => ?_⟩
    have h0 : E env 0 = _ := ha 0 _ rfl
    have hlen : elen env = _ := hlen
    simp only [a65] at hlen
    unfold a65
    try dsimp only [oO, oG]
    have hL := lenV_read hr
    simp (config := {contextual := true, maxDischargeDepth := 12}) only [tb, h0, hlen, hL, ↓bD, bU, forall_const, List.all_cons, List.all_nil, Option.map_some, List.map_cons, List.map_nil, ne_eq, implies_true, isNx, cstep_bool, ↓wp_cond, ↓wp_loop, ↓reduceIte, reduceCtorEq, Nat.reduceEqDiff, Nat.reduceLT, Nat.reduceAdd, Nat.reduceMul, Int.ofNat_lt, Int.ofNat_le, exists_const, ae_app, ap_slc, Option.map_none, mkR_none, mkR_some]
    refine lwp_inv (fun n e t => Keep s t ∧ ∃ i : Nat, n + i = l.length ∧ elen e = 19 ∧ E e 6 = v ∧ E e 7 = .int .i64 (l.length : Int) ∧ E e 8 = .int .i64 (i : Int) ∧ Own dotC s t (E e 3) ((l.take i).map Nd.d)) (n := l.length) ⟨.refl s, 0, by omega, by simp only [E_pne, E_psame, elen_put, Nat.reduceEqDiff, ne_eq, not_false_eq_true, Nat.reduceLT, hlen], by simp only [E_pne, E_psame, elen_put, Nat.reduceEqDiff, ne_eq, not_false_eq_true, Nat.reduceLT, hlen], by simp only [E_pne, E_psame, elen_put, Nat.reduceEqDiff, ne_eq, not_false_eq_true, Nat.reduceLT, hlen], by simp only [E_pne, E_psame, elen_put, Nat.reduceEqDiff, ne_eq, not_false_eq_true, Nat.reduceLT, hlen]; rfl, by simp only [E_pne, E_psame, elen_put, Nat.reduceEqDiff, ne_eq, not_false_eq_true, Nat.reduceLT, hlen]; exact .nil _ _ _⟩ ?_
    · rintro n e t ⟨hK, i, hn, he, e6, e7, e8, hO⟩
      by_cases hlt : i < l.length
      · obtain ⟨x, hx⟩ := getsome hlt
        have hw2 := wrap_add1 (n := i) (by unfold lim at hl; omega)
        obtain ⟨a1, _⟩ := nd_lods hr hK hx
        have i1 := nd_idx hr hx .i64
        obtain ⟨v', t', hap, hK', hO'⟩ := appV_one (C := dotC) (hK.lowed.push (.row (Nd.av x) true)) (hO.lowed.push _) x.d 16 (by unfold lim at hl; simp [roomBytes]; omega)
        have hap : appV ((t.lowed.push (.row (Nd.av x) true)).push (.row (Dot.av x.d) true)) 2 16 (E e 3) (.sl (t.lowed.push (.row (Nd.av x) true)).next 0 1 (some 1) 2) = some (v', t') := hap
        simp (config := {contextual := true, maxDischargeDepth := 12}) only [tb, e6, e7, e8, he, hL, hlt, hw2, a1, i1, hap, ↓bD, bU, forall_const, List.all_cons, List.all_nil, Option.map_some, List.map_cons, List.map_nil, ne_eq, implies_true, isNx, cstep_bool, ↓wp_cond, ↓wp_loop, ↓reduceIte, reduceCtorEq, Nat.reduceEqDiff, Nat.reduceLT, Nat.reduceAdd, Nat.reduceMul, Int.ofNat_lt, Int.ofNat_le, exists_const, ae_app, ap_slc, Option.map_none, mkR_none, mkR_some]
        refine ⟨⟨n - 1, by omega, hK', i + 1, by omega, rfl, ?_⟩, fun hf => hf.elim⟩
        rw [take_snoc hx, List.map_append]
        exact hO'
      · obtain rfl : i = l.length := by omega
        rw [List.take_length] at hO
        simp (config := {contextual := true, maxDischargeDepth := 12}) only [tb, e6, e7, e8, he, hL, hlt, ↓bD, bU, forall_const, List.all_cons, List.all_nil, Option.map_some, List.map_cons, List.map_nil, ne_eq, implies_true, isNx, cstep_bool, ↓wp_cond, ↓wp_loop, ↓reduceIte, reduceCtorEq, Nat.reduceEqDiff, Nat.reduceLT, Nat.reduceAdd, Nat.reduceMul, Int.ofNat_lt, Int.ofNat_le, exists_const, ae_app, ap_slc, Option.map_none, mkR_none, mkR_some]
        exact ⟨fun hf => hf.elim, hK, _, rfl, hO⟩

def fValid (l : List Nd) : AV := .bool (storeL l)
theorem storeL_set (l : List Nd) : storeL l = (l.all Nd.valid && setD (l.map Nd.d)) := by
  have : setD (l.map Nd.d) = chain ndLt l := by
    unfold setD
    rw [Bool.eq_iff_iff, chain_iff, chain_iff]
    constructor
    · intro h i x y hx hy
      exact h i x.d y.d (by simp [hx]) (by simp [hy])
    · intro h i x y hx hy
      simp only [List.getElem?_map, Option.map_eq_some_iff] at hx hy
      obtain ⟨x, hx, rfl⟩ := hx
      obtain ⟨y, hy, rfl⟩ := hy
      exact h i x y hx hy
  rw [storeL, this]
theorem s_StValid : SoundAt Tryz.prog 31 (conL ndC fValid) :=
  con_keep (tb_sound (l := [(56, conLfn fHasBad 57), (65, conF dotC (pL ndC gDots)), (64, conL dotC fIsSet)]) (by simpa using ⟨s_HasBad, s_Dots, s_IsSet⟩)) mixed Tryz.func31 k31 c31 fun args s r s' h => by
    obtain ⟨v, l, rfl, hr, hl, rfl, rfl⟩ := conL_some h
    refine ⟨rfl, rfl, by simp [a31], fun env hlen ha => ?_⟩
    have h0 : E env 0 = _ := ha 0 _ rfl
    have hlen : elen env = _ := hlen
    simp only [a31] at hlen
    unfold a31
    try dsimp only [oO, oG]
    have hq := q_HasBad false hr hl
    cases hv : l.all Nd.valid
    · rw [hv] at hq
      simp (config := {contextual := true, maxDischargeDepth := 12}) only [tb, hq, h0, hlen, ↓bD, bU, forall_const, List.all_cons, List.all_nil, Option.map_some, List.map_cons, List.map_nil, ne_eq, implies_true, isNx, cstep_bool, ↓wp_cond, ↓wp_loop, ↓reduceIte, reduceCtorEq, Nat.reduceEqDiff, Nat.reduceLT, Nat.reduceAdd, Nat.reduceMul, Int.ofNat_lt, Int.ofNat_le, exists_const, ae_app, ap_slc, Option.map_none, mkR_none, mkR_some]
      simp [fValid, storeL_set, hv]
    · rw [hv] at hq
      obtain ⟨w, t, hd, hK, hO⟩ := fresh_L (D := dotC) (f := gDots) hr hl rfl (by simp)
      rw [mkR_none] at hd
      have hq2 := q_IsSet false hO.read (by simpa using hl)
      simp (config := {contextual := true, maxDischargeDepth := 12}) only [tb, hq, hd, hq2, h0, hlen, ↓bD, bU, forall_const, List.all_cons, List.all_nil, Option.map_some, List.map_cons, List.map_nil, ne_eq, implies_true, isNx, cstep_bool, ↓wp_cond, ↓wp_loop, ↓reduceIte, reduceCtorEq, Nat.reduceEqDiff, Nat.reduceLT, Nat.reduceAdd, Nat.reduceMul, Int.ofNat_lt, Int.ofNat_le, exists_const, ae_app, ap_slc, Option.map_none, mkR_none, mkR_some]
      exact ⟨by simp [fValid, storeL_set, hv], hK⟩
theorem q_StValid (cl : Bool) {v : AV} {l : List Nd} {s : St} (h : read ndC s v = some l) (hl : l.length ≤ lim) : acall (conL ndC fValid) cl [v] s = some (.bool (storeL l), s) := conL_call (fun _ => rfl) h hl cl
end Go.AM
end
/-
  The program's join of two states. Own work of this project; in part printed by a program of it.
-/
section
set_option linter.unusedVariables false
set_option linter.unusedSimpArgs false
set_option maxRecDepth 100000
set_option maxHeartbeats 4000000
namespace Go.AM
open Go Go.Proofs

theorem dcmp_cases (a b : Dot) : (dcmp a b = -1 ∧ a.before b = true ∧ b.before a = false) ∨ (dcmp a b = 1 ∧ a.before b = false ∧ b.before a = true) ∨ (dcmp a b = 0 ∧ a.before b = false ∧ b.before a = false ∧ a = b) := by
  obtain ⟨ar, ac⟩ := a
  obtain ⟨br, bc⟩ := b
  simp only [dcmp, cmpI, Dot.before]
  by_cases h1 : ac < bc
  · left
    simp [h1, show ¬ bc < ac by omega, show ¬ bc = ac by omega]
  · by_cases h2 : bc < ac
    · right; left
      simp [h1, h2, show ¬ ac = bc by omega]
    · obtain rfl : ac = bc := by omega
      by_cases h3 : ar < br
      · left
        simp [h3, show ¬ br < ar by omega]
      · by_cases h4 : br < ar
        · right; left
          simp [h3, h4]
        · obtain rfl : ar = br := by omega
          right; right
          simp
theorem cs_valid (x : Nd) (A B : Prop) : cstep (.bool x.valid) A B = ((x.valid = true → A) ∧ (x.valid = false → B)) := cstep_bool _ _ _
end Go.AM
end
/-
  Maps from dots to nodes in memory: looking up, setting, ranging. Own work of this project.
-/
section
set_option linter.unusedVariables false
set_option linter.unusedSimpArgs false
namespace Go.AM
open Go Go.Proofs

variable {call : Nat → List AV → St → Option (AV × St)} {env : Env} {s t : St}

/-! ### By value -/
/-! ### Nodes by their dots -/
def entsFrom : Nat → List Nd → List (AV × AV × Nat)
  | _, [] => []
  | k, x :: r => (.agg (Dot.av x.d), .agg (Nd.av x), k) :: entsFrom (k + 1) r
def mapN (l : List Nd) : AB := .map (entsFrom 0 l) l.length
def lookN : List Nd → Dot → Option (Nat × Nd)
  | [], _ => none
  | x :: r, d => if x.d = d then some (0, x) else (lookN r d).map fun p => (p.1 + 1, p.2)
def updN (l : List Nd) (x : Nd) : List Nd := match lookN l x.d with
  | some (j, _) => l.set j x
  | none => l ++ [x]
theorem eqK_dot (a b : Dot) : eqK (.fl [.i, .i]) (.agg (Dot.av a)) (.agg (Dot.av b)) = some (decide (b = a)) := by
  have := bin_eqd a b
  simp only [binOp, Option.map_eq_some_iff] at this
  obtain ⟨x, h1, h2⟩ := this
  injection h2 with h2
  simp only [eqV] at h1
  simp only [eqK, h1, h2]
  congr 1
  simp only [decide_eq_decide]
  exact eq_comm
theorem key_dot (d : Dot) : (AV.agg (Dot.av d)).key (.fl [.i, .i]) = true := rfl
theorem whole_nd (x : Nd) : (AV.agg (Nd.av x)).whole = true := rfl
theorem find_ents : ∀ (l : List Nd) (d : Dot) (k i : Nat), findE (.fl [.i, .i]) (.agg (Dot.av d)) (entsFrom k l) i = some ((lookN l d).map fun p => (i + p.1, .agg (Nd.av p.2)))
  | [], d, k, i => rfl
  | x :: r, d, k, i => by
    simp only [entsFrom, findE, eqK_dot, lookN]
    by_cases h : x.d = d
    · simp [h]
    · simp only [h, decide_false, if_false]
      rw [find_ents r d (k + 1) (i + 1)]
      cases lookN r d <;> simp [Nat.add_comm, Nat.add_left_comm]
theorem lookN_some : ∀ {l : List Nd} {d : Dot} {j : Nat} {x : Nd}, lookN l d = some (j, x) → l[j]? = some x ∧ x.d = d
  | [], d, j, x, h => by simp [lookN] at h
  | y :: r, d, j, x, h => by
    simp only [lookN] at h
    split at h
    · injection h with h
      obtain ⟨rfl, rfl⟩ := Prod.mk.inj h
      exact ⟨rfl, by assumption⟩
    · obtain ⟨p, hp, h⟩ := Option.map_eq_some_iff.1 h
      obtain ⟨rfl, rfl⟩ := Prod.mk.inj h
      obtain ⟨h1, h2⟩ := lookN_some (l := r) (j := p.1) (x := p.2) hp
      exact ⟨by simpa using h1, h2⟩
theorem lookN_none : ∀ {l : List Nd} {d : Dot}, lookN l d = none → ∀ x ∈ l, x.d ≠ d
  | [], d, _ => by simp
  | y :: r, d, h => by
    simp only [lookN] at h
    split at h
    · cases h
    · rename_i e
      have := lookN_none (l := r) (d := d) (by simpa using h)
      intro x hx
      rcases List.mem_cons.1 hx with rfl | hx
      · exact e
      · exact this x hx
theorem ents_get : ∀ (l : List Nd) (k j : Nat), (entsFrom k l)[j]? = (l[j]?).map fun x => (.agg (Dot.av x.d), .agg (Nd.av x), k + j)
  | [], k, j => by simp [entsFrom]
  | x :: r, k, 0 => rfl
  | x :: r, k, j + 1 => by
    simp only [entsFrom, List.getElem?_cons_succ, ents_get r (k + 1) j]
    rw [show k + 1 + j = k + (j + 1) by omega]
theorem ents_append : ∀ (l m : List Nd) (k : Nat), entsFrom k (l ++ m) = entsFrom k l ++ entsFrom (k + l.length) m
  | [], m, k => by simp [entsFrom]
  | x :: r, m, k => by
    simp only [List.cons_append, entsFrom, ents_append r m (k + 1), List.length_cons]
    rw [show k + 1 + r.length = k + (r.length + 1) by omega]
theorem ents_set : ∀ (l : List Nd) (k j : Nat) (x : Nd), entsFrom k (l.set j x) = (entsFrom k l).set j (.agg (Dot.av x.d), .agg (Nd.av x), k + j)
  | [], k, j, x => by simp [entsFrom]
  | y :: r, k, 0, x => by simp [entsFrom]
  | y :: r, k, j + 1, x => by
    simp only [List.set_cons_succ, entsFrom, ents_set r (k + 1) j x]
    rw [show k + 1 + j = k + (j + 1) by omega]
theorem look_hit {l : List Nd} {d : Dot} {j : Nat} {x : Nd} {id : Nat} (hg : s.get id = some (mapN l)) (h : lookN l d = some (j, x)) (z : AV) : lookV s z (.fl [.i, .i]) true (.mp id) (.agg (Dot.av d)) = some (.tup [.agg (Nd.av x), .bool true]) := by
  simp only [lookV, key_dot, if_true, hg, mapN, find_ents, h, Option.map_some]
theorem look_miss {l : List Nd} {d : Dot} {id : Nat} (hg : s.get id = some (mapN l)) (h : lookN l d = none) (z : AV) : lookV s z (.fl [.i, .i]) true (.mp id) (.agg (Dot.av d)) = some (.tup [z, .bool false]) := by
  simp only [lookV, key_dot, if_true, hg, mapN, find_ents, h, Option.map_none]
theorem mset_map {l : List Nd} {id : Nat} (hg : s.get id = some (mapN l)) (x : Nd) : msetV s (.fl [.i, .i]) (.mp id) (.agg (Dot.av x.d)) (.agg (Nd.av x)) = some (.und, s.put id (mapN (updN l x))) := by
  simp only [msetV, key_dot, whole_nd, Bool.and_self, if_true, hg, mapN, find_ents, updN]
  cases h : lookN l x.d with
  | none =>
    simp only [Option.map_none, ents_append, entsFrom, List.length_append, List.length_singleton, Nat.zero_add]
  | some p =>
    obtain ⟨j, y⟩ := p
    obtain ⟨h1, h2⟩ := lookN_some h
    simp only [Option.map_some, Nat.zero_add, ents_get, h1, ents_set, List.length_set]
theorem rng_map {l : List Nd} {id : Nat} (hg : s.get id = some (mapN l)) : rngV s (.mp id) = some (.ptr s.next 0, s.push (.iter (some id) l.length [] l.length)) := by
  simp only [rngV, hg, mapN]
theorem next_map {l : List Nd} {id p : Nat} {seen : List Nat} {K : AV → St → Prop} (hg : s.get id = some (mapN l)) (hp : s.get p = some (.iter (some id) l.length seen l.length))
    (h1 : (∀ i, i < l.length → i ∈ seen) → K (.tup [.bool false]) s) (h2 : ∀ i x, l[i]? = some x → i ∉ seen → K (.tup [.bool true, .agg (Dot.av x.d), .agg (Nd.av x)]) (s.put p (.iter (some id) l.length (seen ++ [i]) l.length))) : anext (.ptr p 0) s K := by
  simp only [anext, hp, hg, mapN]
  have hm : ∀ e ∈ entsFrom 0 l, ∃ i x, l[i]? = some x ∧ e = (.agg (Dot.av x.d), .agg (Nd.av x), i) := by
    intro e he
    obtain ⟨i, hi⟩ := List.getElem?_of_mem he
    rw [ents_get] at hi
    obtain ⟨x, hx, rfl⟩ := Option.map_eq_some_iff.1 hi
    exact ⟨i, x, hx, by simp⟩
  refine ⟨fun e he => ?_, Nat.le_refl _, fun ha => h1 fun i hi => ?_, fun e he hs => ?_⟩
  · obtain ⟨i, x, hx, rfl⟩ := hm e he
    exact getlt hx
  · obtain ⟨x, hx⟩ := getsome hi
    have : (entsFrom 0 l)[i]? = some (.agg (Dot.av x.d), .agg (Nd.av x), 0 + i) := by rw [ents_get, hx]; rfl
    have := ha _ (List.mem_of_getElem? this)
    simpa using this
  · obtain ⟨i, x, hx, rfl⟩ := hm e he
    exact h2 i x hx hs
theorem ent_map {l : List Nd} {id p : Nat} {seen : List Nat} {i : Nat} {x : Nd} (hg : s.get id = some (mapN l)) (hp : s.get p = some (.iter (some id) l.length (seen ++ [i]) l.length)) (hx : l[i]? = some x) : entV s (.ptr p 0) = some (.tup [.agg (Dot.av x.d), .agg (Nd.av x)]) := by
  have key : ∀ (l : List Nd) (k i : Nat) (x : Nd), l[i]? = some x → (entsFrom k l).find? (fun e => e.2.2 == k + i) = some (.agg (Dot.av x.d), .agg (Nd.av x), k + i) := by
    intro l
    induction l with
    | nil => intro k i x h; simp at h
    | cons y r ih =>
      intro k i x h
      cases i with
      | zero => simp at h; subst h; simp [entsFrom]
      | succ i =>
        have e : k + (i + 1) = k + 1 + i := by omega
        rw [entsFrom, List.find?_cons_of_neg (by simp), e]
        exact ih (k + 1) i x (by simpa using h)
  have := key l 0 i x hx
  rw [Nat.zero_add] at this
  simp only [entV, hp, hg, mapN, List.getLast?_concat, if_true, this, Option.map_some]
end Go.AM
end
/-
  DERIVED: THE SHELF's CONTRACTS AT THIS DUMP, IN PLAIN WORDS (tools/lay-plain.mjs out of 'YtiihldccikdfiaaGreatAmShelf.lean', which tools/lay-shelf.mjs wrote): THE SAME DECLARATIONS UNDER THE SAME NAMES: 'import', 'namespace', 'open', 'def', 'theorem' AND NOTHING ELSE: no command of the shelf's: FOR A HAND-IN. Each laying: the table of numbers ('.._ren') and one theorem, a field a fact of the dump's own or the kernel's comparison; each contract: ONE APPLICATION.
-/
section
namespace Go.Proofs
open Go.Shelf
def Tryz.sortNode_ren : Go.Shelf.Ren := ⟨fun | 6 => 60 | 15 => 88 | 14 => 87 | 28 => 114 | 29 => 115 | 20 => 106 | 21 => 107 | 22 => 108 | 23 => 109 | 24 => 110 | 25 => 111 | 26 => 112 | 27 => 113 | 46 => 126 | 47 => 127 | 48 => 128 | 49 => 129 | 50 => 130 | 57 => 151 | n => n, fun | 22 => 22 | 24 => 26 | 25 => 91 | 3 => 3 | 39 => 110 | 0 => 0 | 53 => 132 | 55 => 134 | 4 => 4 | 46 => 126 | 45 => 125 | 50 => 94 | 5 => 5 | 9 => 9 | 66 => 138 | 70 => 142 | 76 => 158 | 77 => 159 | n => n, fun | n => n⟩
theorem Tryz.sortNode : Go.Proofs.SlLaysF0.n6 Tryz.prog Tryz.sortNode_ren := {
  mixed := by kernel_rfl
  f6 := ⟨Tryz.f60.name, by decide, Tryz.func60.trans (congrArg some (by kernel_rfl))⟩
  f14 := ⟨Tryz.f87.name, by decide, Tryz.func87.trans (congrArg some (by kernel_rfl))⟩
  f15 := Tryz.func88.trans (congrArg some (by kernel_rfl))
  f20 := ⟨Tryz.f106.name, by decide, Tryz.func106.trans (congrArg some (by kernel_rfl))⟩
  f21 := ⟨Tryz.f107.name, by decide, Tryz.func107.trans (congrArg some (by kernel_rfl))⟩
  f22 := ⟨Tryz.f108.name, by decide, Tryz.func108.trans (congrArg some (by kernel_rfl))⟩
  f23 := ⟨Tryz.f109.name, by decide, Tryz.func109.trans (congrArg some (by kernel_rfl))⟩
  f24 := ⟨Tryz.f110.name, by decide, Tryz.func110.trans (congrArg some (by kernel_rfl))⟩
  f25 := ⟨Tryz.f111.name, by decide, Tryz.func111.trans (congrArg some (by kernel_rfl))⟩
  f26 := ⟨Tryz.f112.name, by decide, Tryz.func112.trans (congrArg some (by kernel_rfl))⟩
  f27 := ⟨Tryz.f113.name, by decide, Tryz.func113.trans (congrArg some (by kernel_rfl))⟩
  f28 := Tryz.func114.trans (congrArg some (by kernel_rfl))
  f29 := Tryz.func115.trans (congrArg some (by kernel_rfl))
  f46 := ⟨Tryz.f126.name, by decide, Tryz.func126.trans (congrArg some (by kernel_rfl))⟩
  f47 := Tryz.func127.trans (congrArg some (by kernel_rfl))
  f48 := Tryz.func128.trans (congrArg some (by kernel_rfl))
  f49 := ⟨Tryz.f129.name, by decide, Tryz.func129.trans (congrArg some (by kernel_rfl))⟩
  f50 := ⟨Tryz.f130.name, by decide, Tryz.func130.trans (congrArg some (by kernel_rfl))⟩
  f57 := ⟨Tryz.f151.name, by decide, Tryz.func151.trans (congrArg some (by kernel_rfl))⟩
  t0 := Tryz.underlying0
  a0 := Tryz.isAgg0
  z0 := Tryz.sizeOf0
  v0 := Tryz.zeroValue0
  t3 := Tryz.underlying3
  a3 := Tryz.isAgg3
  z3 := Tryz.sizeOf3
  v3 := Tryz.zeroValue3
  t4 := Tryz.underlying4
  a4 := Tryz.isAgg4
  z4 := Tryz.sizeOf4
  v4 := Tryz.zeroValue4
  t5 := Tryz.underlying5
  a5 := Tryz.isAgg5
  z5 := Tryz.sizeOf5
  v5 := Tryz.zeroValue5
  t9 := Tryz.underlying9
  a9 := Tryz.isAgg9
  z9 := Tryz.sizeOf9
  v9 := Tryz.zeroValue9
  t22 := Tryz.underlying22
  a22 := Tryz.isAgg22
  z22 := Tryz.sizeOf22
  v22 := Tryz.zeroValue22
  t25 := Tryz.underlying91
  a25 := Tryz.isAgg91
  z25 := Tryz.sizeOf91
  v25 := Tryz.zeroValue91
  t39 := Tryz.underlying110
  a39 := Tryz.isAgg110
  z39 := Tryz.sizeOf110
  v39 := Tryz.zeroValue110
  t45 := Tryz.underlying125
  a45 := Tryz.isAgg125
  z45 := Tryz.sizeOf125
  v45 := Tryz.zeroValue125
  t46 := Tryz.underlying126
  a46 := Tryz.isAgg126
  z46 := Tryz.sizeOf126
  v46 := Tryz.zeroValue126
  t50 := Tryz.underlying94
  a50 := Tryz.isAgg94
  z50 := Tryz.sizeOf94
  v50 := Tryz.zeroValue94
  t53 := Tryz.underlying132
  a53 := Tryz.isAgg132
  z53 := Tryz.sizeOf132
  v53 := Tryz.zeroValue132
  t55 := Tryz.underlying134
  a55 := Tryz.isAgg134
  z55 := Tryz.sizeOf134
  v55 := Tryz.zeroValue134
  t66 := Tryz.underlying138
  a66 := Tryz.isAgg138
  z66 := Tryz.sizeOf138
  v66 := Tryz.zeroValue138
  t70 := Tryz.underlying142
  a70 := Tryz.isAgg142
  z70 := Tryz.sizeOf142
  v70 := Tryz.zeroValue142
  t76 := Tryz.underlying158
  a76 := Tryz.isAgg158
  z76 := Tryz.sizeOf158
  v76 := Tryz.zeroValue158
  t77 := Tryz.underlying159
  a77 := Tryz.isAgg159
  z77 := Tryz.sizeOf159
  v77 := Tryz.zeroValue159 }
end Go.Proofs
end
/-
  The contract of slices.SortFunc at a new list of nodes, sorted by their dots. Own work of this project.
-/
section
set_option linter.unusedVariables false
set_option linter.unusedSimpArgs false
set_option maxHeartbeats 1000000
namespace Go.AM
open Go Go.Proofs
open Go.Sort (HoldsK putRowK flatK get_flatK size_flatK)

instance : Inhabited Nd := ⟨nd0⟩
def toVal : AV → Value
  | .int k n => .int k n
  | _ => undef
def nvals (x : Nd) : List Value := (Nd.av x).map toVal
theorem nvals_len (x : Nd) : (nvals x).length = 6 := rfl
theorem nvals_one (x : Nd) : ∀ v ∈ nvals x, v.oneCell' = true := by
  intro v hv
  simp only [nvals, Nd.av, List.map_cons, List.map_nil, toVal, List.mem_cons, List.not_mem_nil, or_false] at hv
  rcases hv with rfl | rfl | rfl | rfl | rfl | rfl <;> rfl
theorem nd_val {ρ : Ren} {x : Nd} {i : Nat} {v : AV} {c : Value} (h : (Nd.av x)[i]? = some v) (k : VR ρ v c) : (nvals x)[i]? = some c := by
  simp only [nvals, List.getElem?_map, h, Option.map_some, Option.some.injEq]
  have : v ∈ Nd.av x := List.mem_of_getElem? h
  simp only [Nd.av, List.mem_cons, List.not_mem_nil, or_false] at this
  rcases this with rfl | rfl | rfl | rfl | rfl | rfl <;> (simp only [VR] at k; rw [k]; rfl)
theorem nd_VR {ρ : Ren} {x : Nd} {i : Nat} {v : AV} (h : (Nd.av x)[i]? = some v) : ∃ c, (nvals x)[i]? = some c ∧ VR ρ v c := by
  refine ⟨toVal v, by simp [nvals, h], ?_⟩
  have : v ∈ Nd.av x := List.mem_of_getElem? h
  simp only [Nd.av, List.mem_cons, List.not_mem_nil, or_false] at this
  rcases this with rfl | rfl | rfl | rfl | rfl | rfl <;> simp [VR, toVal]
theorem cells_get : ∀ (l : List Nd) (t : Nat), (ndC.cells l)[t]? = (l[t / 6]?).bind fun x => (Nd.av x)[t % 6]?
  | [], t => by simp [cells_nil]
  | x :: l, t => by
    rw [cells_cons]
    have hl : (ndC.enc x).length = 6 := rfl
    by_cases h : t < 6
    · rw [List.getElem?_append_left (by omega), Nat.div_eq_of_lt h, Nat.mod_eq_of_lt h]
      rfl
    · rw [List.getElem?_append_right (by omega), hl, cells_get l (t - 6)]
      have e1 : t / 6 = (t - 6) / 6 + 1 := by omega
      have e2 : t % 6 = (t - 6) % 6 := by omega
      rw [e1, e2]
      rfl
theorem before_irr (a : Dot) : a.before a = false := by simp [Dot.before]
theorem swo : Sort.SWO (ltOf fun x y : Nd => dcmp x.d y.d) := by
  have e : ∀ x y : Nd, ltOf (fun x y : Nd => dcmp x.d y.d) x y = x.d.before y.d := by
    intro x y
    unfold ltOf
    rcases dcmp_cases x.d y.d with ⟨h, h1, _⟩ | ⟨h, h1, _⟩ | ⟨h, h1, _⟩ <;> simp only [h, h1] <;> decide
  refine ⟨fun x => by rw [e]; exact before_irr _, fun x y z => ?_, fun x y z => ?_⟩
  · rw [e, e, e]
    obtain ⟨⟨_, _⟩, _, _, _⟩ := x
    obtain ⟨⟨_, _⟩, _, _, _⟩ := y
    obtain ⟨⟨_, _⟩, _, _, _⟩ := z
    simp only [Dot.before, Bool.or_eq_true, Bool.and_eq_true, decide_eq_true_eq]
    omega
  · rw [e, e, e]
    obtain ⟨⟨_, _⟩, _, _, _⟩ := x
    obtain ⟨⟨_, _⟩, _, _, _⟩ := y
    obtain ⟨⟨_, _⟩, _, _, _⟩ := z
    simp only [Dot.before, Bool.or_eq_false_iff, Bool.and_eq_false_iff, decide_eq_false_iff_not]
    omega
theorem clean_grow {W W' : World} (h : Clean W W') : ∃ q os, W' = Sort.grow (W.drewN q) os := by
  refine ⟨W'.drawn - W.drawn, W'.heap.extract W.heap.size W'.heap.size, ?_⟩
  have hd := h.drawn
  have hh : W'.heap = W.heap ++ W'.heap.extract W.heap.size W'.heap.size := by
    have hs := h.size
    apply Array.ext_getElem?
    intro i
    rw [Array.getElem?_append]
    split
    · exact h.block i (by assumption)
    · rw [Array.getElem?_extract]
      by_cases hi : i < W'.heap.size
      · rw [if_pos (by omega)]
        congr 1
        omega
      · rw [if_neg (by omega), Array.getElem?_eq_none (by omega)]
  have h1 := h.os
  have h2 := h.tape
  have h3 := h.output
  cases W'
  cases W
  simp only [Sort.grow, World.drewN] at *
  subst h1; subst h2; subst h3
  congr 1
  omega
theorem cmp_lays (w : World) (blk off size : Nat) : CmpLays Tryz.prog 61 #[] nvals 6 (fun x y : Nd => dcmp x.d y.d) blk off size w := by
  intro m os dk hdk x y
  obtain ⟨_, _, h⟩ := s_nodeCmp [.agg (Nd.av x), .agg (Nd.av y)] St.empty (.int .i64 (dcmp x.d y.d)) St.empty rfl
  have hv : ∀ x : Nd, VRs (fun _ => none) (Nd.av x) (nvals x) := fun x => by
    simp [Nd.av, nvals, toVal, VRs, VR]
  have := h (fun _ => none) (sortWorldK nvals 6 w blk off m dk os) [.agg (nvals x).toArray, .agg (nvals y).toArray] (fun _ _ => rfl) (R_empty _) (by
    rw [VRs_cons, VRs_cons]
    exact ⟨by simp only [VR]; exact ⟨_, rfl, hv x⟩, by simp only [VR]; exact ⟨_, rfl, hv y⟩, VRs_nil⟩)
  refine Calls.mono (by simpa using this) fun e w' hp => ?_
  obtain ⟨ρ', v, rfl, hv, hst, _⟩ := hp
  simp only [VR] at hv
  subst hv
  exact ⟨rfl, clean_grow (hst.clean (by simp [St.empty]))⟩
/-! ### Sorting nodes -/
def insN (x : Nd) : List Nd → List Nd
  | [] => [x]
  | y :: r => if x.d.before y.d = true then x :: y :: r else y :: insN x r
def sortN : List Nd → List Nd
  | [] => []
  | x :: r => insN x (sortN r)
def ltP (x y : Nd) : Prop := x.d.before y.d = true
theorem insN_perm (x : Nd) : ∀ l, (insN x l).Perm (x :: l)
  | [] => .refl _
  | y :: r => by
    unfold insN
    split
    · exact .refl _
    · exact ((insN_perm x r).cons y).trans (.swap x y r)
theorem sortN_perm : ∀ l, (sortN l).Perm l
  | [] => .refl _
  | x :: r => (insN_perm x _).trans ((sortN_perm r).cons x)
theorem sortN_len (l : List Nd) : (sortN l).length = l.length := (sortN_perm l).length_eq
theorem ltP_trans {x y z : Nd} (h : ltP x y) (k : ltP y z) : ltP x z := by
  unfold ltP at *
  obtain ⟨⟨_, _⟩, _, _, _⟩ := x
  obtain ⟨⟨_, _⟩, _, _, _⟩ := y
  obtain ⟨⟨_, _⟩, _, _, _⟩ := z
  simp only [Dot.before, Bool.or_eq_true, Bool.and_eq_true, decide_eq_true_eq] at *
  omega
theorem ltP_asymm {x y : Nd} (h : ltP x y) (k : ltP y x) : False := by
  have := ltP_trans h k
  unfold ltP at this
  rw [before_irr] at this
  cases this
theorem ltP_tri (x y : Nd) (h : x.d ≠ y.d) : ltP x y ∨ ltP y x := by
  unfold ltP
  rcases dcmp_cases x.d y.d with ⟨_, h1, _⟩ | ⟨_, _, h1⟩ | ⟨_, _, _, h1⟩
  · exact .inl h1
  · exact .inr h1
  · exact absurd h1 h
theorem insN_sorted (x : Nd) : ∀ l : List Nd, l.Pairwise ltP → (∀ y ∈ l, x.d ≠ y.d) → (insN x l).Pairwise ltP
  | [], _, _ => by simp [insN]
  | y :: r, h, hx => by
    unfold insN
    rw [List.pairwise_cons] at h
    split
    · rename_i hb
      rw [List.pairwise_cons, List.pairwise_cons]
      refine ⟨fun z hz => ?_, h⟩
      rcases List.mem_cons.1 hz with rfl | hz
      · exact hb
      · exact ltP_trans hb (h.1 z hz)
    · rename_i hb
      have hyx : ltP y x := (ltP_tri x y (hx y (by simp))).resolve_left hb
      rw [List.pairwise_cons]
      refine ⟨fun z hz => ?_, insN_sorted x r h.2 fun y hy => hx y (by simp [hy])⟩
      rcases List.mem_cons.1 ((insN_perm x r).mem_iff.1 hz) with rfl | hz
      · exact hyx
      · exact h.1 z hz
theorem sortN_sorted : ∀ l : List Nd, (l.map Nd.d).Nodup → (sortN l).Pairwise ltP
  | [], _ => by simp [sortN]
  | x :: r, h => by
    simp only [List.map_cons, List.nodup_cons] at h
    refine insN_sorted x _ (sortN_sorted r h.2) fun y hy e => h.1 ?_
    rw [e]
    exact List.mem_map_of_mem ((sortN_perm r).mem_iff.1 hy)
theorem sorted_unique : ∀ (l m : List Nd), l.Perm m → l.Pairwise ltP → m.Pairwise ltP → l = m
  | [], m, h, _, _ => (List.nil_perm.1 h).symm
  | x :: l, [], h, _, _ => absurd h.length_eq (by simp)
  | x :: l, y :: m, h, h1, h2 => by
    rw [List.pairwise_cons] at h1 h2
    have e : x = y := by
      by_cases e : x = y
      · exact e
      · have hx : x ∈ m := by
          rcases List.mem_cons.1 (h.mem_iff.1 (List.mem_cons_self ..)) with q | q
          · exact absurd q e
          · exact q
        have hy : y ∈ l := by
          rcases List.mem_cons.1 (h.mem_iff.2 (List.mem_cons_self ..)) with q | q
          · exact absurd q.symm e
          · exact q
        exact (ltP_asymm (h1.1 y hy) (h2.1 x hx)).elim
    subst e
    rw [sorted_unique l m h.cons_inv h1.2 h2.2]
def cSort (g : Nat) : Con := fun xs s => match xs with
  | [.nils, .fn g' []] => if g' = g then some (.tup [], s.lowed) else none
  | [.sl j 0 n none 6, .fn g' []] => if g' = g then match s.get j with
      | some (.row cs true) => match decL ndC n cs with
        | some l => if cs.length = n * 6 ∧ (l.map Nd.d).Nodup ∧ 0 < n ∧ n ≤ lim then some (.tup [], s.put j (.row (ndC.cells (sortN l)) true)) else none
        | none => none
      | _ => none
    else none
  | _ => none
theorem holds_of {ρ : Ren} {L : Loc} {w : World} {l : List Nd} (h : BlkOk ρ L w (.row (ndC.cells l) true)) : HoldsK nvals 6 w L.b L.o l.toArray := by
  simp only [BlkOk] at h
  obtain ⟨cs, e, fr, h1, h2, h3, h4, h5, _⟩ := h
  rw [cells_len] at h3
  intro j hj
  have hj : j < l.length * 6 := by simpa using hj
  obtain ⟨x, hx⟩ := getsome (l := l) (i := j / 6) (by omega)
  have h6 : (Nd.av x).length = 6 := rfl
  obtain ⟨v, hv⟩ : ∃ v, (Nd.av x)[j % 6]? = some v := ⟨(Nd.av x)[j % 6]'(by omega), by simp⟩
  obtain ⟨c, hc, hr⟩ := h4 j v (by rw [cells_get, hx]; exact hv)
  have hn := nd_val hv hr
  have e1 : (flatK nvals 6 l.toArray)[j]! = c := by
    rw [get_flatK _ _ _ _ (by simpa using hj)]
    have : l.toArray[j / 6]! = x := by simp [hx]
    rw [this]
    simp [hn]
  have h66 : ndC.sz = 6 := rfl
  rw [h66] at h3
  have hfr := h5 trivial (L.o + j) (by omega)
  constructor
  · simp only [World.cell?, h1, id, e1]
    simpa using hc
  · simp only [World.frozen?, h1]
    exact hfr
theorem blk_after {ρ : Ren} {L : Loc} {w : World} {l m : List Nd} (h : BlkOk ρ L w (.row (ndC.cells l) true)) (hm : m.length = l.length) (n : Nat) : BlkOk ρ L (putRowK nvals 6 (Sort.ahead w n) L.b L.o m.toArray) (.row (ndC.cells m) true) := by
  simp only [BlkOk] at h ⊢
  obtain ⟨cs, e, fr, h1, h2, h3, h4, h5, _⟩ := h
  rw [cells_len] at h3
  have h6 : ndC.sz = 6 := rfl
  refine ⟨Sort.putCells id L.o (flatK nvals 6 m.toArray) cs, e, fr, ?_, by simp [Sort.putCells, h2], by rw [cells_len, hm]; exact h3, fun i v hv => ?_, h5, cells_one' ndC m⟩
  · simp only [putRowK, Sort.putRow, Sort.mapBlock, Sort.ahead]
    rw [Array.getElem?_modify]
    simp [h1, Sort.onCells]
  · have hi := (List.getElem?_eq_some_iff.1 hv).1
    rw [cells_len] at hi
    rw [cells_get] at hv
    rw [h6] at hi
    obtain ⟨x, hx⟩ := getsome (l := m) (i := i / 6) (by omega)
    rw [hx] at hv
    obtain ⟨c, hc, hr⟩ := nd_VR (ρ := ρ) hv
    refine ⟨c, ?_, hr⟩
    have e1 : (flatK nvals 6 m.toArray)[i]! = c := by
      rw [get_flatK _ _ _ _ (by simp; omega)]
      have : m.toArray[i / 6]! = x := by simp [hx]
      rw [this]
      simp [hc]
    simp only [Sort.putCells, Array.getElem?_mapIdx]
    have hlt : L.o + i < cs.size := by
      rw [h6, ← hm] at h3
      rw [h2]
      omega
    rw [Array.getElem?_eq_getElem hlt]
    simp only [Option.map_some, size_flatK, List.size_toArray]
    rw [if_pos (by omega)]
    simp [e1]
theorem s_sort : SoundAt Tryz.prog 60 (cSort 61) := by
  intro xs s r s' h
  have hk : callable Tryz.prog 60 = true := k60
  have hf : Tryz.sortNode_ren.f 6 = 60 := rfl
  unfold cSort at h
  split at h
  · split at h
    · rename_i e
      subst e
      injection h with h
      obtain ⟨rfl, rfl⟩ := Prod.mk.inj h
      refine ⟨hk, gk_lowed s, fun ρ w cargs hfree hR hargs => ?_⟩
      obtain ⟨a1, r1, rfl, v1, w1⟩ : ∃ c r, cargs = c :: r ∧ VR ρ .nils c ∧ VRs ρ [.fn 61 []] r := by simpa only [VRs] using hargs
      obtain ⟨a2, r2, rfl, v2, w2⟩ : ∃ c r, r1 = c :: r ∧ VR ρ (.fn 61 []) c ∧ VRs ρ [] r := by simpa only [VRs] using w1
      simp only [VRs] at w2
      subst w2
      simp only [VR] at v1
      subst v1
      refine (AnyF.slices_SortFunc_none Tryz.sortNode none 0 a2 w).mono fun e w' hp => ?_
      obtain ⟨rfl, rfl⟩ := hp
      have hst := Step.refl s ρ w'
      exact ⟨ρ, _, rfl, by simp [VR, VRs], ⟨Nat.le_refl _, Nat.min_le_left _ _, hst.ren, hst.size, rfl, rfl, rfl, hst.drawn, fun b hb H => rfl, hst.old, fun id L blk e1 _ e3 _ => absurd (St.get_lt e3) (by rw [lowed_next]; omega), fun _ _ _ => rfl⟩, ⟨hR.bound, hR.blk, hR.inj⟩⟩
    · cases h
  · rename_i j n g'
    split at h
    · rename_i e
      subst e
      split at h
      · rename_i cs hg
        split at h
        · rename_i l hd
          split at h
          · rename_i hc
            obtain ⟨hc1, hnd, hpos, hlim⟩ := hc
            injection h with h
            obtain ⟨rfl, rfl⟩ := Prod.mk.inj h
            obtain ⟨d1, d2, d3⟩ := decL_some hd
            have hcs : cs = ndC.cells l := by rw [← d3, show n * ndC.sz = cs.length from hc1.symm]; simp
            subst hcs
            refine ⟨hk, ⟨grow_put _ hg, keeps_put _ hg⟩, fun ρ w cargs hfree hR hargs => ?_⟩
            obtain ⟨a1, r1, rfl, v1, w1⟩ : ∃ c r, cargs = c :: r ∧ VR ρ (.sl j 0 n none 6) c ∧ VRs ρ [.fn 61 []] r := by simpa only [VRs] using hargs
            obtain ⟨a2, r2, rfl, v2, w2⟩ : ∃ c r, r1 = c :: r ∧ VR ρ (.fn 61 []) c ∧ VRs ρ [] r := by simpa only [VRs] using w1
            simp only [VRs] at w2
            subst w2
            simp only [VR] at v1 v2
            obtain ⟨L, a, c, hL, rfl, hle, _, hca⟩ := v1
            obtain ⟨cb, rfl, hcb⟩ := v2
            simp only [VRs] at hcb
            subst hcb
            rcases hca with rfl | ⟨rfl, hcap⟩
            · omega
            have hb := hR.blk j _ L hg hL
            have hH := holds_of hb
            have hlt := hR.bound j L hL
            have hsz : l.toArray.size = n := by simpa using d1
            have main := AnyQ.slices_SortFunc Tryz.sortNode 6 Tryz.isAgg26 Tryz.sizeOf26 nvals nvals_len nvals_one (fun x y : Nd => dcmp x.d y.d) swo 61 #[] L.b L.o c l.toArray w (enters_of Tryz.func61 (by kernel_rfl) rfl) (cmp_lays w L.b L.o l.toArray.size) hH hlt (by rw [hsz]; unfold lim at hlim; omega)
            rw [hsz] at main
            have main : Calls Tryz.prog 60 _ w _ := main
            refine main.mono fun e w' hp => ?_
            obtain ⟨rfl, d', nn, os, ⟨p1, _, p2⟩, hsrt, rfl⟩ := hp
            have hsz' : d'.size = n := by rw [p1, hsz]
            have hd' : d'.toList = sortN l := by
              have hp : d'.toList.Perm l := by
                have e1 : d'.extract 0 n = d' := by rw [← hsz']; simp
                have e2 : l.toArray.extract 0 n = l.toArray := by rw [← hsz]; simp
                rw [e1, e2] at p2
                exact p2
              refine sorted_unique _ _ (hp.trans (sortN_perm l).symm) ?_ (sortN_sorted l hnd)
              rw [List.pairwise_iff_getElem]
              intro i j hi hj hij
              have h1 := hsrt i j (Nat.zero_le _) hij (by simpa [hsz'] using hj)
              have hnd' : (d'.toList.map Nd.d).Nodup := (hp.map Nd.d).nodup_iff.2 hnd
              have hne : d'.toList[i].d ≠ d'.toList[j].d := by
                have := List.pairwise_iff_getElem.1 hnd' i j (by simpa using hi) (by simpa using hj) hij
                simpa using this
              have e1 : d'[i]! = d'.toList[i] := by
                simp at hi
                simp [hi]
              have e2 : d'[j]! = d'.toList[j] := by
                simp at hj
                simp [hj]
              rw [e1, e2] at h1
              rcases ltP_tri _ _ hne with q | q
              · exact q
              · unfold ltP at q
                unfold ltOf at h1
                rcases dcmp_cases d'.toList[j].d d'.toList[i].d with ⟨hh, _, _⟩ | ⟨hh, hh2, _⟩ | ⟨hh, hh2, _⟩
                · simp only [hh] at h1; exact absurd h1 (by decide)
                · rw [hh2] at q; cases q
                · rw [hh2] at q; cases q
            have hd'' : d' = (sortN l).toArray := by rw [← hd']
            subst hd''
            obtain ⟨hR1, hS1⟩ := R.put (b := .row (ndC.cells (sortN l)) true) hR hg rfl hL (blk_after hb (sortN_len l) nn) (by simp [putRowK, Sort.putRow, Sort.mapBlock, Sort.ahead]) rfl rfl rfl (by show w.drawn ≤ w.drawn + nn; omega) (by
              intro k hk'
              simp only [putRowK, Sort.putRow, Sort.mapBlock, Sort.ahead]
              rw [Array.getElem?_modify, if_neg (Ne.symm hk')])
            have hcl : Clean (putRowK nvals 6 (Sort.ahead w nn) L.b L.o (sortN l).toArray) (sortWorldK nvals 6 w L.b L.o nn (sortN l).toArray os) := by
              refine ⟨by simp [sortWorldK, Sort.grow], rfl, rfl, rfl, Nat.le_refl _, fun b hb => ?_⟩
              simp only [sortWorldK, Sort.grow]
              rw [Array.getElem?_append_left hb]
            exact ⟨ρ, _, rfl, by simp [VR, VRs], hS1.trans (hcl.step _ ρ), hR1.clean hcl⟩
          · cases h
        · cases h
      · cases h
    · cases h
  · cases h
end Go.AM
end
/-
  store.Of. Own work of this project; in part printed by a program of it.
-/
section
set_option linter.unusedVariables false
set_option linter.unusedSimpArgs false
set_option maxRecDepth 100000
set_option maxHeartbeats 8000000
namespace Go.AM
open Go Go.Proofs

variable {s t : St}
theorem sto_over {n : Nat} {s : St} (h : sameN n s) (x y : Nd) : sto (s.push (.row (Nd.av x) true)) 6 (.ptr n 0) (.agg (Nd.av y)) = some (.und, s.lowed.push (.row (Nd.av y) true)) := by
  unfold sameN at h
  subst h
  simp only [sto, St.get_push_new, push_put]
  rfl
/-- What is there of the nodes so far: merged, and alive. -/
def ofStep (M A : List Nd) (n : Nd) : Option (List Nd × List Nd) :=
  if (match lookN A n.d with
    | some (_, x) => x.clash n
    | none => false) = true then none
  else match lookN M n.d with
    | some (_, old) => if old.clash n = true then none else some (updN M (old.merge n), if n.x = 0 then A else updN A n)
    | none => some (updN M n, if n.x = 0 then A else updN A n)
def ofFold : List Nd → List Nd → List Nd → Option (List Nd)
  | [], M, _ => some M
  | n :: r, M, A => match ofStep M A n with
    | some (M', A') => ofFold r M' A'
    | none => none
def gOf (l : List Nd) : Option (List Nd × Option AV) :=
  if l.all Nd.valid = true then match ofFold l [] [] with
    | some M => some (sortN M, some (.int .i64 0))
    | none => some ([], some (.int .i64 15))
  else some ([], some (.int .i64 2))
theorem gOf_plain {a : List Nd} {l : List Nd} {e : Option AV} (h : gOf a = some (l, e)) : ∀ x, e = some x → x.plain = true := by
  unfold gOf at h
  repeat' split at h
  all_goals
    injection h with h
    obtain ⟨_, rfl⟩ := Prod.mk.inj h
    intro x hx
    injection hx with hx
    subst hx
    rfl
theorem updN_mem {l : List Nd} {x y : Nd} (h : y ∈ updN l x) : y = x ∨ y ∈ l := by
  unfold updN at h
  split at h
  · rcases List.mem_or_eq_of_mem_set h with h | h
    · exact .inr h
    · exact .inl h
  · rcases List.mem_append.1 h with h | h
    · exact .inr h
    · exact .inl (by simpa using h)
theorem updN_len (l : List Nd) (x : Nd) : (updN l x).length ≤ l.length + 1 := by
  unfold updN
  split <;> simp
theorem updN_nodup {l : List Nd} {x : Nd} (h : (l.map Nd.d).Nodup) : ((updN l x).map Nd.d).Nodup := by
  unfold updN
  split
  · rename_i j y hj
    obtain ⟨h1, h2⟩ := lookN_some hj
    rw [List.map_set, ← h2]
    have : (l.map Nd.d).set j y.d = l.map Nd.d := by
      apply List.ext_getElem?
      intro k
      rw [List.getElem?_set]
      split
      · rename_i e
        subst e
        split
        · simp [h1]
        · rename_i hk
          have := getlt h1
          simp at hk
          omega
      · rfl
    rw [this]
    exact h
  · rename_i hj
    rw [List.map_append, List.nodup_append]
    refine ⟨h, by simp, ?_⟩
    intro a ha b hb e
    simp at hb
    subst hb
    subst e
    obtain ⟨y, hy, e⟩ := List.mem_map.1 ha
    exact lookN_none hj y hy e
theorem merge_valid {a b : Nd} (ha : a.valid = true) (hb : b.valid = true) : (a.merge b).valid = true := by
  unfold Nd.merge
  split <;> assumption
theorem merge_d {a b : Nd} (h : a.d = b.d) : (a.merge b).d = b.d := by
  unfold Nd.merge
  split <;> simp [h]
theorem range_get (M : List Nd) : (List.range M.length).map (fun i => M[i]?) = M.map some := by
  apply List.ext_getElem?
  intro i
  rw [List.getElem?_map, List.getElem?_map]
  by_cases h : i < M.length
  · rw [List.getElem?_range h]
    simp [h]
  · rw [List.getElem?_eq_none (by simpa using h), List.getElem?_eq_none (by omega)]
    rfl
theorem seen_perm {M acc : List Nd} {seen : List Nat} (h1 : seen.Nodup) (h2 : ∀ i ∈ seen, i < M.length) (h3 : acc.map some = seen.map fun i => M[i]?) (h4 : ∀ i, i < M.length → i ∈ seen) : acc.Perm M := by
  have hp : seen.Perm (List.range M.length) := (List.perm_ext_iff_of_nodup h1 List.nodup_range).2 fun i => by
    rw [List.mem_range]
    exact ⟨h2 i, h4 i⟩
  have h5 := hp.map fun i => M[i]?
  rw [← h3, range_get] at h5
  have h6 := h5.filterMap (fun x => x)
  have e : ∀ l : List Nd, (l.map some).filterMap (fun x => x) = l := by
    intro l
    induction l with
    | nil => rfl
    | cons x r ih => simp [ih]
  rwa [e, e] at h6
theorem sort_own {v : AV} {acc : List Nd} (hK : Keep s t) (hO : Own ndC s t v acc) (hnd : (acc.map Nd.d).Nodup) (hl : acc.length ≤ lim) (g : Nat) : ∃ t3, acall (cSort g) false [v, .fn g []] t = some (.tup [], t3) ∧ Keep s t3 ∧ Own ndC s t3 v (sortN acc) := by
  rcases hO with ⟨rfl, rfl⟩ | ⟨j, rfl, h0, h1, h⟩
  · exact ⟨t, acall_rol (by simp [cSort]) rfl, hK, .nil _ _ _⟩
  · have hpos : 0 < acc.length := List.length_pos_iff.2 h0
    have hd : decL ndC acc.length (ndC.cells acc) = some acc := by
      have := decL_cells ndC acc []
      rwa [List.append_nil] at this
    have h6 : ndC.sz = 6 := rfl
    have hlen : (ndC.cells acc).length = acc.length * 6 := by rw [cells_len, h6]
    have hc : cSort g [.sl j 0 acc.length none ndC.sz, .fn g []] { heap := t.heap, next := t.next, low := t.next } = some (.tup [], ({ heap := t.heap, next := t.next, low := t.next } : St).put j (.row (ndC.cells (sortN acc)) true)) := by
      have hg : ({ heap := t.heap, next := t.next, low := t.next } : St).get j = some (.row (ndC.cells acc) true) := h
      rw [h6]
      simp only [cSort, if_true, hg, hd, hlen, hnd, hpos, hl, and_self]
    have hlt := St.get_lt h
    refine ⟨t.put j (.row (ndC.cells (sortN acc)) true), ?_, hK.put _ h1 hlt, .inr ⟨j, by rw [sortN_len], ?_, h1, St.get_put_same h⟩⟩
    · simp only [acall, hc]
      have e : (AV.tup []).ground = true := rfl
      have e3 : decide (t.next ≤ (({ heap := t.heap, next := t.next, low := t.next } : St).put j (.row (ndC.cells (sortN acc)) true)).low) = false := decide_eq_false (by simp only [St.low_put]; omega)
      rw [e, e3]
      simp only [Bool.and_false, Bool.false_eq_true, if_false, St.put]
      congr 3
      omega
    · intro e
      have := sortN_len acc
      rw [e] at this
      simp at this
      omega
theorem s_Of : SoundAt Tryz.prog 29 (conF ndC (pL ndC gOf)) :=
  con_fresh (tb_sound (l := [(56, conLfn fHasBad 57), (58, conNN fMerge), (59, conN fDead), (60, cSort 61)]) (by simpa using ⟨s_HasBad, s_Merge, s_Dead, s_sort⟩)) mixed Tryz.func29 k29 c29 fun args s r ee h => by
    obtain ⟨v, l, rfl, hr, hl, hp⟩ := pL_some h
    refine ⟨gOf_plain hp, by simp [a29], fun env hlen ha => ?_⟩
    have h0 : E env 0 = _ := ha 0 _ rfl
    have hlen : elen env = _ := hlen
    simp only [a29] at hlen
    unfold a29
    try dsimp only [oO, oG]
    have hL := lenV_read hr
    have q1 := q_HasBad false hr hl
    unfold gOf at hp
    cases hv : l.all Nd.valid
    · rw [hv] at hp q1
      simp only [Bool.false_eq_true, if_false] at hp
      injection hp with hp
      obtain ⟨rfl, rfl⟩ := Prod.mk.inj hp
      simp (config := {contextual := true, maxDischargeDepth := 12}) only [tb, q1, h0, hlen, ↓bD, bU, forall_const, List.all_cons, List.all_nil, Option.map_some, List.map_cons, List.map_nil, ne_eq, implies_true, isNx, cs_dec, cs_not, cs_and, cs_or, cs_valid, eq_self, ↓wp_cond, ↓wp_loop, ↓reduceIte, reduceCtorEq, Nat.reduceEqDiff, Nat.reduceLT, Nat.reduceAdd, Nat.reduceMul, Int.ofNat_lt, Int.ofNat_le, exists_const, ae_app, ap_slc, Option.map_none, mkR_none, mkR_some, ar_look, ae_mset, ae_rng, ae_mkmap0, ar_ent, lookV_push, lookV_lowed, msetV_push, msetV_lowed, lt_put, same_put, sto_over, sto_lowed, cs_dead, Option.map_some]
      exact ⟨_, rfl, .nil _ _ _⟩
    · rw [hv] at hp q1
      simp only [if_true] at hp
      have hA : ∀ x ∈ l, x.valid = true := by simpa using hv
      simp (config := {contextual := true, maxDischargeDepth := 12}) only [tb, q1, h0, hlen, hL, ↓bD, bU, forall_const, List.all_cons, List.all_nil, Option.map_some, List.map_cons, List.map_nil, ne_eq, implies_true, isNx, cs_dec, cs_not, cs_and, cs_or, cs_valid, eq_self, ↓wp_cond, ↓wp_loop, ↓reduceIte, reduceCtorEq, Nat.reduceEqDiff, Nat.reduceLT, Nat.reduceAdd, Nat.reduceMul, Int.ofNat_lt, Int.ofNat_le, exists_const, ae_app, ap_slc, Option.map_none, mkR_none, mkR_some, ar_look, ae_mset, ae_rng, ae_mkmap0, ar_ent, lookV_push, lookV_lowed, msetV_push, msetV_lowed, lt_put, same_put, sto_over, sto_lowed, cs_dead, Option.map_some]
      obtain ⟨mM, hmM⟩ : ∃ mM, mM = s.next := ⟨_, rfl⟩
      obtain ⟨mA, hmA⟩ : ∃ mA, mA = (s.push (.map [] 0)).next := ⟨_, rfl⟩
      obtain ⟨I, hI⟩ : ∃ I : Nat → Env → St → Prop, ∀ n e t, I n e t = (Keep s t ∧ ∃ (i : Nat) (M A : List Nd), n + i = l.length ∧ elen e = 89 ∧ E e 23 = v ∧ E e 24 = .int .i64 (l.length : Int) ∧ E e 25 = .int .i64 (i : Int) ∧ E e 4 = .mp mM ∧ E e 5 = .mp mA ∧ t.get mM = some (mapN M) ∧ t.get mA = some (mapN A) ∧ ofFold l [] [] = ofFold (l.drop i) M A ∧ (∀ x ∈ M, x.valid = true) ∧ (∀ x ∈ A, x.valid = true) ∧ M.length ≤ i ∧ (M.map Nd.d).Nodup) := ⟨fun n e t => (Keep s t ∧ ∃ (i : Nat) (M A : List Nd), n + i = l.length ∧ elen e = 89 ∧ E e 23 = v ∧ E e 24 = .int .i64 (l.length : Int) ∧ E e 25 = .int .i64 (i : Int) ∧ E e 4 = .mp mM ∧ E e 5 = .mp mA ∧ t.get mM = some (mapN M) ∧ t.get mA = some (mapN A) ∧ ofFold l [] [] = ofFold (l.drop i) M A ∧ (∀ x ∈ M, x.valid = true) ∧ (∀ x ∈ A, x.valid = true) ∧ M.length ≤ i ∧ (M.map Nd.d).Nodup), fun _ _ _ => rfl⟩
      refine lwp_inv I (n := l.length) ?_ ?_
      · rw [hI]
        refine ⟨((Keep.refl s).push _).push _, 0, [], [], by omega, by simp only [E_pne, E_psame, elen_put, Nat.reduceEqDiff, ne_eq, not_false_eq_true, Nat.reduceLT, hlen], by simp only [E_pne, E_psame, elen_put, Nat.reduceEqDiff, ne_eq, not_false_eq_true, Nat.reduceLT, hlen], by simp only [E_pne, E_psame, elen_put, Nat.reduceEqDiff, ne_eq, not_false_eq_true, Nat.reduceLT, hlen], by simp only [E_pne, E_psame, elen_put, Nat.reduceEqDiff, ne_eq, not_false_eq_true, Nat.reduceLT, hlen]; rfl, by rw [hmM]; simp only [E_pne, E_psame, elen_put, Nat.reduceEqDiff, ne_eq, not_false_eq_true, Nat.reduceLT, hlen], by rw [hmA]; simp only [E_pne, E_psame, elen_put, Nat.reduceEqDiff, ne_eq, not_false_eq_true, Nat.reduceLT, hlen], ?_, ?_, rfl, by simp, by simp, by simp, by simp⟩
        · rw [hmM]
          rw [St.get_push_old _ _ (Nat.lt_succ_self _), St.get_push_new]
          rfl
        · rw [hmA, St.get_push_new]
          rfl
      intro n e t hi
      rw [hI] at hi
      obtain ⟨hK, i, M, A, hn, he, e23, e24, e25, e4, e5, gM, gA, hfold, hvM, hvA, hMi, hnd⟩ := hi
      have lM := lt_of_get gM
      have lA := lt_of_get gA
      have hmA' : s.next ≤ mA := by rw [hmA]; simp
      have hmM' : s.next ≤ mM := by rw [hmM]; exact Nat.le_refl _
      have hne : mM ≠ mA := by rw [hmM, hmA]; simp
      by_cases hlt : i < l.length
      · obtain ⟨x, hx⟩ := getsome hlt
        have hw2 := wrap_add1 (n := i) (by unfold lim at hl; omega)
        obtain ⟨a1, _⟩ := nd_lods hr hK hx
        have i1 := nd_idx hr hx .i64
        have vx := hA x (List.mem_of_getElem? hx)
        have hdr : l.drop i = x :: l.drop (i + 1) := by
          rw [List.drop_eq_getElem_cons hlt]
          congr 1
          have := (List.getElem?_eq_some_iff.1 hx).2
          exact this
        rw [hdr, ofFold, ofStep] at hfold
        have h15 : ((15 : Int) = 0) = False := by decide
        cases ha2 : lookN A x.d with
        | none =>
          have lkA := look_miss gA ha2 (.agg [.int .i64 0, .int .i64 0, .int .i64 0, .int .i64 0, .int .i64 0, .int .i32 0])
          rw [ha2] at hfold
          simp only [Bool.false_eq_true, if_false] at hfold
          by_cases hd : x.x = 0
          · have tAe : ∃ tA, tA = t := ⟨_, rfl⟩
            obtain ⟨tA, htA⟩ := tAe
            have hx0 : (x.x = 0) = True := eq_true hd
            have gMA : tA.get mM = some (mapN M) := by rw [htA]; exact gM
            have gAA : tA.get mA = some (mapN A) := by rw [htA]; exact gA
            have hKA : Keep s tA := by rw [htA]; exact hK
            have hs1 : sameN t.next tA := by rw [htA]; rfl
            have hvA2 := hvA
            rw [if_pos hd] at hfold
            have lMA := lt_of_get gMA
            cases hm : lookN M x.d with
            | none =>
              have lkM := look_miss gMA hm (.agg [.int .i64 0, .int .i64 0, .int .i64 0, .int .i64 0, .int .i64 0, .int .i32 0])
              have mM2 := mset_map gMA x
              rw [hm] at hfold
              simp only at hfold
              obtain ⟨tB, htB⟩ : ∃ tB, tB = tA.put mM (mapN (updN M x)) := ⟨_, rfl⟩
              rw [← htB] at mM2
              have gMB : tB.get mM = some (mapN (updN M x)) := by rw [htB]; exact St.get_put_same gMA
              have gAB : tB.get mA = some (mapN A) := by rw [htB, St.get_put_ne _ _ lMA (Ne.symm hne)]; exact gAA
              have hKB : Keep s tB := by rw [htB]; exact hKA.put _ hmM' lMA
              have lMB := lt_of_get gMB
              have lAB := lt_of_get gAB
              have hs2 : sameN t.next tB := by rw [htB]; exact hs1
              subst htA
              simp (config := {contextual := true, maxDischargeDepth := 12}) only [tb, q_Merge, q_Dead, e23, e24, e25, e4, e5, he, hlt, hw2, a1, i1, lM, lA, lkA, hx0, lkM, mM2, hs1, hs2, lMA, lMB, lAB, ↓bD, bU, forall_const, List.all_cons, List.all_nil, Option.map_some, List.map_cons, List.map_nil, ne_eq, implies_true, isNx, cs_dec, cs_not, cs_and, cs_or, cs_valid, eq_self, ↓wp_cond, ↓wp_loop, ↓reduceIte, reduceCtorEq, Nat.reduceEqDiff, Nat.reduceLT, Nat.reduceAdd, Nat.reduceMul, Int.ofNat_lt, Int.ofNat_le, exists_const, ae_app, ap_slc, Option.map_none, mkR_none, mkR_some, ar_look, ae_mset, ae_rng, ae_mkmap0, ar_ent, lookV_push, lookV_lowed, msetV_push, msetV_lowed, lt_put, same_put, sto_over, sto_lowed, cs_dead, Option.map_some]
              refine ⟨n - 1, by omega, ?_⟩
              rw [hI]
              refine ⟨by simp (config := {maxDischargeDepth := 12}) only [kt_push, kt_lowed, hKB], i + 1, updN M x, A, by omega, by simp only [E_pne, E_psame, elen_put, Nat.reduceEqDiff, ne_eq, not_false_eq_true, Nat.reduceLT, he], by simp only [E_pne, E_psame, elen_put, Nat.reduceEqDiff, ne_eq, not_false_eq_true, Nat.reduceLT, e23], by simp only [E_pne, E_psame, elen_put, Nat.reduceEqDiff, ne_eq, not_false_eq_true, Nat.reduceLT, e24], by simp only [E_pne, E_psame, elen_put, Nat.reduceEqDiff, ne_eq, not_false_eq_true, Nat.reduceLT, he], by simp only [E_pne, E_psame, elen_put, Nat.reduceEqDiff, ne_eq, not_false_eq_true, Nat.reduceLT, e4], by simp only [E_pne, E_psame, elen_put, Nat.reduceEqDiff, ne_eq, not_false_eq_true, Nat.reduceLT, e5], ?_, ?_, hfold, fun y hy => ?_, hvA2, by have := updN_len M x; omega, updN_nodup hnd⟩
              · simp (config := {maxDischargeDepth := 12}) only [gt_push, lt_push, lt_lowed, lowed_get, lMB, gMB]
              · simp (config := {maxDischargeDepth := 12}) only [gt_push, lt_push, lt_lowed, lowed_get, lAB, gAB]
              · rcases updN_mem hy with rfl | hy
                · exact vx
                · exact hvM y hy
            | some p =>
              obtain ⟨jj, old⟩ := p
              obtain ⟨ho1, ho2⟩ := lookN_some hm
              have vo := hvM old (List.mem_of_getElem? ho1)
              have lkM := look_hit gMA hm (.agg [.int .i64 0, .int .i64 0, .int .i64 0, .int .i64 0, .int .i64 0, .int .i32 0])
              rw [hm] at hfold
              simp only at hfold
              by_cases hc2 : old.clash x = true
              · have hg2 : mergeV old x = .tup [.agg (Nd.av nd0), .int .i64 15] := by simp [mergeV, vo, vx, hc2]
                rw [if_pos hc2] at hfold
                simp only at hfold
                rw [hfold] at hp
                injection hp with hp
                obtain ⟨rfl, rfl⟩ := Prod.mk.inj hp
                subst htA
                simp (config := {contextual := true, maxDischargeDepth := 12}) only [tb, q_Merge, q_Dead, e23, e24, e25, e4, e5, he, hlt, hw2, a1, i1, lM, lA, lkA, hx0, lkM, hg2, h15, hs1, lMA, ↓bD, bU, forall_const, List.all_cons, List.all_nil, Option.map_some, List.map_cons, List.map_nil, ne_eq, implies_true, isNx, cs_dec, cs_not, cs_and, cs_or, cs_valid, eq_self, ↓wp_cond, ↓wp_loop, ↓reduceIte, reduceCtorEq, Nat.reduceEqDiff, Nat.reduceLT, Nat.reduceAdd, Nat.reduceMul, Int.ofNat_lt, Int.ofNat_le, exists_const, ae_app, ap_slc, Option.map_none, mkR_none, mkR_some, ar_look, ae_mset, ae_rng, ae_mkmap0, ar_ent, lookV_push, lookV_lowed, msetV_push, msetV_lowed, lt_put, same_put, sto_over, sto_lowed, cs_dead, Option.map_some]
                exact ⟨by simp (config := {maxDischargeDepth := 12}) only [kt_push, kt_lowed, hKA], _, rfl, .nil _ _ _⟩
              · have hg2 : mergeV old x = .tup [.agg (Nd.av (old.merge x)), .int .i64 0] := by simp [mergeV, vo, vx, hc2]
                rw [if_neg hc2] at hfold
                simp only at hfold
                have mM2 := mset_map gMA (old.merge x)
                obtain ⟨tB, htB⟩ : ∃ tB, tB = tA.put mM (mapN (updN M (old.merge x))) := ⟨_, rfl⟩
                rw [← htB] at mM2
                have gMB : tB.get mM = some (mapN (updN M (old.merge x))) := by rw [htB]; exact St.get_put_same gMA
                have gAB : tB.get mA = some (mapN A) := by rw [htB, St.get_put_ne _ _ lMA (Ne.symm hne)]; exact gAA
                have hKB : Keep s tB := by rw [htB]; exact hKA.put _ hmM' lMA
                have lMB := lt_of_get gMB
                have lAB := lt_of_get gAB
                have hs2 : sameN t.next tB := by rw [htB]; exact hs1
                subst htA
                simp (config := {contextual := true, maxDischargeDepth := 12}) only [tb, q_Merge, q_Dead, e23, e24, e25, e4, e5, he, hlt, hw2, a1, i1, lM, lA, lkA, hx0, hg2, lkM, mM2, hs1, hs2, lMA, lMB, lAB, ↓bD, bU, forall_const, List.all_cons, List.all_nil, Option.map_some, List.map_cons, List.map_nil, ne_eq, implies_true, isNx, cs_dec, cs_not, cs_and, cs_or, cs_valid, eq_self, ↓wp_cond, ↓wp_loop, ↓reduceIte, reduceCtorEq, Nat.reduceEqDiff, Nat.reduceLT, Nat.reduceAdd, Nat.reduceMul, Int.ofNat_lt, Int.ofNat_le, exists_const, ae_app, ap_slc, Option.map_none, mkR_none, mkR_some, ar_look, ae_mset, ae_rng, ae_mkmap0, ar_ent, lookV_push, lookV_lowed, msetV_push, msetV_lowed, lt_put, same_put, sto_over, sto_lowed, cs_dead, Option.map_some]
                refine ⟨n - 1, by omega, ?_⟩
                rw [hI]
                refine ⟨by simp (config := {maxDischargeDepth := 12}) only [kt_push, kt_lowed, hKB], i + 1, updN M (old.merge x), A, by omega, by simp only [E_pne, E_psame, elen_put, Nat.reduceEqDiff, ne_eq, not_false_eq_true, Nat.reduceLT, he], by simp only [E_pne, E_psame, elen_put, Nat.reduceEqDiff, ne_eq, not_false_eq_true, Nat.reduceLT, e23], by simp only [E_pne, E_psame, elen_put, Nat.reduceEqDiff, ne_eq, not_false_eq_true, Nat.reduceLT, e24], by simp only [E_pne, E_psame, elen_put, Nat.reduceEqDiff, ne_eq, not_false_eq_true, Nat.reduceLT, he], by simp only [E_pne, E_psame, elen_put, Nat.reduceEqDiff, ne_eq, not_false_eq_true, Nat.reduceLT, e4], by simp only [E_pne, E_psame, elen_put, Nat.reduceEqDiff, ne_eq, not_false_eq_true, Nat.reduceLT, e5], ?_, ?_, hfold, fun y hy => ?_, hvA2, by have := updN_len M (old.merge x); omega, updN_nodup hnd⟩
                · simp (config := {maxDischargeDepth := 12}) only [gt_push, lt_push, lt_lowed, lowed_get, lMB, gMB]
                · simp (config := {maxDischargeDepth := 12}) only [gt_push, lt_push, lt_lowed, lowed_get, lAB, gAB]
                · rcases updN_mem hy with rfl | hy
                  · exact (merge_valid vo vx)
                  · exact hvM y hy
          · have tAe : ∃ tA, tA = t.put mA (mapN (updN A x)) := ⟨_, rfl⟩
            obtain ⟨tA, htA⟩ := tAe
            have hx0 : (x.x = 0) = False := eq_false hd
            have gMA : tA.get mM = some (mapN M) := by rw [htA, St.get_put_ne _ _ lA hne]; exact gM
            have gAA : tA.get mA = some (mapN (updN A x)) := by rw [htA]; exact St.get_put_same gA
            have hKA : Keep s tA := by rw [htA]; exact hK.put _ hmA' lA
            have hs1 : sameN t.next tA := by rw [htA]; rfl
            have mS := mset_map gA x
            rw [← htA] at mS
            have hvA2 : ∀ y ∈ updN A x, y.valid = true := fun y hy => by
              rcases updN_mem hy with rfl | hy
              · exact vx
              · exact hvA y hy
            rw [if_neg hd] at hfold
            have lMA := lt_of_get gMA
            cases hm : lookN M x.d with
            | none =>
              have lkM := look_miss gMA hm (.agg [.int .i64 0, .int .i64 0, .int .i64 0, .int .i64 0, .int .i64 0, .int .i32 0])
              have mM2 := mset_map gMA x
              rw [hm] at hfold
              simp only at hfold
              obtain ⟨tB, htB⟩ : ∃ tB, tB = tA.put mM (mapN (updN M x)) := ⟨_, rfl⟩
              rw [← htB] at mM2
              have gMB : tB.get mM = some (mapN (updN M x)) := by rw [htB]; exact St.get_put_same gMA
              have gAB : tB.get mA = some (mapN (updN A x)) := by rw [htB, St.get_put_ne _ _ lMA (Ne.symm hne)]; exact gAA
              have hKB : Keep s tB := by rw [htB]; exact hKA.put _ hmM' lMA
              have lMB := lt_of_get gMB
              have lAB := lt_of_get gAB
              have hs2 : sameN t.next tB := by rw [htB]; exact hs1
              simp (config := {contextual := true, maxDischargeDepth := 12}) only [tb, q_Merge, q_Dead, e23, e24, e25, e4, e5, he, hlt, hw2, a1, i1, lM, lA, lkA, hx0, mS, lkM, mM2, hs1, hs2, lMA, lMB, lAB, ↓bD, bU, forall_const, List.all_cons, List.all_nil, Option.map_some, List.map_cons, List.map_nil, ne_eq, implies_true, isNx, cs_dec, cs_not, cs_and, cs_or, cs_valid, eq_self, ↓wp_cond, ↓wp_loop, ↓reduceIte, reduceCtorEq, Nat.reduceEqDiff, Nat.reduceLT, Nat.reduceAdd, Nat.reduceMul, Int.ofNat_lt, Int.ofNat_le, exists_const, ae_app, ap_slc, Option.map_none, mkR_none, mkR_some, ar_look, ae_mset, ae_rng, ae_mkmap0, ar_ent, lookV_push, lookV_lowed, msetV_push, msetV_lowed, lt_put, same_put, sto_over, sto_lowed, cs_dead, Option.map_some]
              refine ⟨n - 1, by omega, ?_⟩
              rw [hI]
              refine ⟨by simp (config := {maxDischargeDepth := 12}) only [kt_push, kt_lowed, hKB], i + 1, updN M x, (updN A x), by omega, by simp only [E_pne, E_psame, elen_put, Nat.reduceEqDiff, ne_eq, not_false_eq_true, Nat.reduceLT, he], by simp only [E_pne, E_psame, elen_put, Nat.reduceEqDiff, ne_eq, not_false_eq_true, Nat.reduceLT, e23], by simp only [E_pne, E_psame, elen_put, Nat.reduceEqDiff, ne_eq, not_false_eq_true, Nat.reduceLT, e24], by simp only [E_pne, E_psame, elen_put, Nat.reduceEqDiff, ne_eq, not_false_eq_true, Nat.reduceLT, he], by simp only [E_pne, E_psame, elen_put, Nat.reduceEqDiff, ne_eq, not_false_eq_true, Nat.reduceLT, e4], by simp only [E_pne, E_psame, elen_put, Nat.reduceEqDiff, ne_eq, not_false_eq_true, Nat.reduceLT, e5], ?_, ?_, hfold, fun y hy => ?_, hvA2, by have := updN_len M x; omega, updN_nodup hnd⟩
              · simp (config := {maxDischargeDepth := 12}) only [gt_push, lt_push, lt_lowed, lowed_get, lMB, gMB]
              · simp (config := {maxDischargeDepth := 12}) only [gt_push, lt_push, lt_lowed, lowed_get, lAB, gAB]
              · rcases updN_mem hy with rfl | hy
                · exact vx
                · exact hvM y hy
            | some p =>
              obtain ⟨jj, old⟩ := p
              obtain ⟨ho1, ho2⟩ := lookN_some hm
              have vo := hvM old (List.mem_of_getElem? ho1)
              have lkM := look_hit gMA hm (.agg [.int .i64 0, .int .i64 0, .int .i64 0, .int .i64 0, .int .i64 0, .int .i32 0])
              rw [hm] at hfold
              simp only at hfold
              by_cases hc2 : old.clash x = true
              · have hg2 : mergeV old x = .tup [.agg (Nd.av nd0), .int .i64 15] := by simp [mergeV, vo, vx, hc2]
                rw [if_pos hc2] at hfold
                simp only at hfold
                rw [hfold] at hp
                injection hp with hp
                obtain ⟨rfl, rfl⟩ := Prod.mk.inj hp
                simp (config := {contextual := true, maxDischargeDepth := 12}) only [tb, q_Merge, q_Dead, e23, e24, e25, e4, e5, he, hlt, hw2, a1, i1, lM, lA, lkA, hx0, mS, lkM, hg2, h15, hs1, lMA, ↓bD, bU, forall_const, List.all_cons, List.all_nil, Option.map_some, List.map_cons, List.map_nil, ne_eq, implies_true, isNx, cs_dec, cs_not, cs_and, cs_or, cs_valid, eq_self, ↓wp_cond, ↓wp_loop, ↓reduceIte, reduceCtorEq, Nat.reduceEqDiff, Nat.reduceLT, Nat.reduceAdd, Nat.reduceMul, Int.ofNat_lt, Int.ofNat_le, exists_const, ae_app, ap_slc, Option.map_none, mkR_none, mkR_some, ar_look, ae_mset, ae_rng, ae_mkmap0, ar_ent, lookV_push, lookV_lowed, msetV_push, msetV_lowed, lt_put, same_put, sto_over, sto_lowed, cs_dead, Option.map_some]
                exact ⟨by simp (config := {maxDischargeDepth := 12}) only [kt_push, kt_lowed, hKA], _, rfl, .nil _ _ _⟩
              · have hg2 : mergeV old x = .tup [.agg (Nd.av (old.merge x)), .int .i64 0] := by simp [mergeV, vo, vx, hc2]
                rw [if_neg hc2] at hfold
                simp only at hfold
                have mM2 := mset_map gMA (old.merge x)
                obtain ⟨tB, htB⟩ : ∃ tB, tB = tA.put mM (mapN (updN M (old.merge x))) := ⟨_, rfl⟩
                rw [← htB] at mM2
                have gMB : tB.get mM = some (mapN (updN M (old.merge x))) := by rw [htB]; exact St.get_put_same gMA
                have gAB : tB.get mA = some (mapN (updN A x)) := by rw [htB, St.get_put_ne _ _ lMA (Ne.symm hne)]; exact gAA
                have hKB : Keep s tB := by rw [htB]; exact hKA.put _ hmM' lMA
                have lMB := lt_of_get gMB
                have lAB := lt_of_get gAB
                have hs2 : sameN t.next tB := by rw [htB]; exact hs1
                simp (config := {contextual := true, maxDischargeDepth := 12}) only [tb, q_Merge, q_Dead, e23, e24, e25, e4, e5, he, hlt, hw2, a1, i1, lM, lA, lkA, hx0, mS, hg2, lkM, mM2, hs1, hs2, lMA, lMB, lAB, ↓bD, bU, forall_const, List.all_cons, List.all_nil, Option.map_some, List.map_cons, List.map_nil, ne_eq, implies_true, isNx, cs_dec, cs_not, cs_and, cs_or, cs_valid, eq_self, ↓wp_cond, ↓wp_loop, ↓reduceIte, reduceCtorEq, Nat.reduceEqDiff, Nat.reduceLT, Nat.reduceAdd, Nat.reduceMul, Int.ofNat_lt, Int.ofNat_le, exists_const, ae_app, ap_slc, Option.map_none, mkR_none, mkR_some, ar_look, ae_mset, ae_rng, ae_mkmap0, ar_ent, lookV_push, lookV_lowed, msetV_push, msetV_lowed, lt_put, same_put, sto_over, sto_lowed, cs_dead, Option.map_some]
                refine ⟨n - 1, by omega, ?_⟩
                rw [hI]
                refine ⟨by simp (config := {maxDischargeDepth := 12}) only [kt_push, kt_lowed, hKB], i + 1, updN M (old.merge x), (updN A x), by omega, by simp only [E_pne, E_psame, elen_put, Nat.reduceEqDiff, ne_eq, not_false_eq_true, Nat.reduceLT, he], by simp only [E_pne, E_psame, elen_put, Nat.reduceEqDiff, ne_eq, not_false_eq_true, Nat.reduceLT, e23], by simp only [E_pne, E_psame, elen_put, Nat.reduceEqDiff, ne_eq, not_false_eq_true, Nat.reduceLT, e24], by simp only [E_pne, E_psame, elen_put, Nat.reduceEqDiff, ne_eq, not_false_eq_true, Nat.reduceLT, he], by simp only [E_pne, E_psame, elen_put, Nat.reduceEqDiff, ne_eq, not_false_eq_true, Nat.reduceLT, e4], by simp only [E_pne, E_psame, elen_put, Nat.reduceEqDiff, ne_eq, not_false_eq_true, Nat.reduceLT, e5], ?_, ?_, hfold, fun y hy => ?_, hvA2, by have := updN_len M (old.merge x); omega, updN_nodup hnd⟩
                · simp (config := {maxDischargeDepth := 12}) only [gt_push, lt_push, lt_lowed, lowed_get, lMB, gMB]
                · simp (config := {maxDischargeDepth := 12}) only [gt_push, lt_push, lt_lowed, lowed_get, lAB, gAB]
                · rcases updN_mem hy with rfl | hy
                  · exact (merge_valid vo vx)
                  · exact hvM y hy
        | some p =>
          obtain ⟨j0, x0⟩ := p
          obtain ⟨ho3, ho4⟩ := lookN_some ha2
          have v0 := hvA x0 (List.mem_of_getElem? ho3)
          have lkA := look_hit gA ha2 (.agg [.int .i64 0, .int .i64 0, .int .i64 0, .int .i64 0, .int .i64 0, .int .i32 0])
          rw [ha2] at hfold
          simp only at hfold
          by_cases hc1 : x0.clash x = true
          · have hg1 : mergeV x0 x = .tup [.agg (Nd.av nd0), .int .i64 15] := by simp [mergeV, v0, vx, hc1]
            rw [if_pos hc1] at hfold
            simp only at hfold
            rw [hfold] at hp
            injection hp with hp
            obtain ⟨rfl, rfl⟩ := Prod.mk.inj hp
            simp (config := {contextual := true, maxDischargeDepth := 12}) only [tb, q_Merge, q_Dead, e23, e24, e25, e4, e5, he, hlt, hw2, a1, i1, lM, lA, lkA, hg1, h15, ↓bD, bU, forall_const, List.all_cons, List.all_nil, Option.map_some, List.map_cons, List.map_nil, ne_eq, implies_true, isNx, cs_dec, cs_not, cs_and, cs_or, cs_valid, eq_self, ↓wp_cond, ↓wp_loop, ↓reduceIte, reduceCtorEq, Nat.reduceEqDiff, Nat.reduceLT, Nat.reduceAdd, Nat.reduceMul, Int.ofNat_lt, Int.ofNat_le, exists_const, ae_app, ap_slc, Option.map_none, mkR_none, mkR_some, ar_look, ae_mset, ae_rng, ae_mkmap0, ar_ent, lookV_push, lookV_lowed, msetV_push, msetV_lowed, lt_put, same_put, sto_over, sto_lowed, cs_dead, Option.map_some]
            exact ⟨by simp (config := {maxDischargeDepth := 12}) only [kt_push, kt_lowed, hK], _, rfl, .nil _ _ _⟩
          · have hg1 : mergeV x0 x = .tup [.agg (Nd.av (x0.merge x)), .int .i64 0] := by simp [mergeV, v0, vx, hc1]
            rw [if_neg hc1] at hfold
            by_cases hd : x.x = 0
            · have tAe : ∃ tA, tA = t := ⟨_, rfl⟩
              obtain ⟨tA, htA⟩ := tAe
              have hx0 : (x.x = 0) = True := eq_true hd
              have gMA : tA.get mM = some (mapN M) := by rw [htA]; exact gM
              have gAA : tA.get mA = some (mapN A) := by rw [htA]; exact gA
              have hKA : Keep s tA := by rw [htA]; exact hK
              have hs1 : sameN t.next tA := by rw [htA]; rfl
              have hvA2 := hvA
              rw [if_pos hd] at hfold
              have lMA := lt_of_get gMA
              cases hm : lookN M x.d with
              | none =>
                have lkM := look_miss gMA hm (.agg [.int .i64 0, .int .i64 0, .int .i64 0, .int .i64 0, .int .i64 0, .int .i32 0])
                have mM2 := mset_map gMA x
                rw [hm] at hfold
                simp only at hfold
                obtain ⟨tB, htB⟩ : ∃ tB, tB = tA.put mM (mapN (updN M x)) := ⟨_, rfl⟩
                rw [← htB] at mM2
                have gMB : tB.get mM = some (mapN (updN M x)) := by rw [htB]; exact St.get_put_same gMA
                have gAB : tB.get mA = some (mapN A) := by rw [htB, St.get_put_ne _ _ lMA (Ne.symm hne)]; exact gAA
                have hKB : Keep s tB := by rw [htB]; exact hKA.put _ hmM' lMA
                have lMB := lt_of_get gMB
                have lAB := lt_of_get gAB
                have hs2 : sameN t.next tB := by rw [htB]; exact hs1
                subst htA
                simp (config := {contextual := true, maxDischargeDepth := 12}) only [tb, q_Merge, q_Dead, e23, e24, e25, e4, e5, he, hlt, hw2, a1, i1, lM, lA, lkA, hg1, hx0, lkM, mM2, hs1, hs2, lMA, lMB, lAB, ↓bD, bU, forall_const, List.all_cons, List.all_nil, Option.map_some, List.map_cons, List.map_nil, ne_eq, implies_true, isNx, cs_dec, cs_not, cs_and, cs_or, cs_valid, eq_self, ↓wp_cond, ↓wp_loop, ↓reduceIte, reduceCtorEq, Nat.reduceEqDiff, Nat.reduceLT, Nat.reduceAdd, Nat.reduceMul, Int.ofNat_lt, Int.ofNat_le, exists_const, ae_app, ap_slc, Option.map_none, mkR_none, mkR_some, ar_look, ae_mset, ae_rng, ae_mkmap0, ar_ent, lookV_push, lookV_lowed, msetV_push, msetV_lowed, lt_put, same_put, sto_over, sto_lowed, cs_dead, Option.map_some]
                refine ⟨n - 1, by omega, ?_⟩
                rw [hI]
                refine ⟨by simp (config := {maxDischargeDepth := 12}) only [kt_push, kt_lowed, hKB], i + 1, updN M x, A, by omega, by simp only [E_pne, E_psame, elen_put, Nat.reduceEqDiff, ne_eq, not_false_eq_true, Nat.reduceLT, he], by simp only [E_pne, E_psame, elen_put, Nat.reduceEqDiff, ne_eq, not_false_eq_true, Nat.reduceLT, e23], by simp only [E_pne, E_psame, elen_put, Nat.reduceEqDiff, ne_eq, not_false_eq_true, Nat.reduceLT, e24], by simp only [E_pne, E_psame, elen_put, Nat.reduceEqDiff, ne_eq, not_false_eq_true, Nat.reduceLT, he], by simp only [E_pne, E_psame, elen_put, Nat.reduceEqDiff, ne_eq, not_false_eq_true, Nat.reduceLT, e4], by simp only [E_pne, E_psame, elen_put, Nat.reduceEqDiff, ne_eq, not_false_eq_true, Nat.reduceLT, e5], ?_, ?_, hfold, fun y hy => ?_, hvA2, by have := updN_len M x; omega, updN_nodup hnd⟩
                · simp (config := {maxDischargeDepth := 12}) only [gt_push, lt_push, lt_lowed, lowed_get, lMB, gMB]
                · simp (config := {maxDischargeDepth := 12}) only [gt_push, lt_push, lt_lowed, lowed_get, lAB, gAB]
                · rcases updN_mem hy with rfl | hy
                  · exact vx
                  · exact hvM y hy
              | some p =>
                obtain ⟨jj, old⟩ := p
                obtain ⟨ho1, ho2⟩ := lookN_some hm
                have vo := hvM old (List.mem_of_getElem? ho1)
                have lkM := look_hit gMA hm (.agg [.int .i64 0, .int .i64 0, .int .i64 0, .int .i64 0, .int .i64 0, .int .i32 0])
                rw [hm] at hfold
                simp only at hfold
                by_cases hc2 : old.clash x = true
                · have hg2 : mergeV old x = .tup [.agg (Nd.av nd0), .int .i64 15] := by simp [mergeV, vo, vx, hc2]
                  rw [if_pos hc2] at hfold
                  simp only at hfold
                  rw [hfold] at hp
                  injection hp with hp
                  obtain ⟨rfl, rfl⟩ := Prod.mk.inj hp
                  subst htA
                  simp (config := {contextual := true, maxDischargeDepth := 12}) only [tb, q_Merge, q_Dead, e23, e24, e25, e4, e5, he, hlt, hw2, a1, i1, lM, lA, lkA, hg1, hx0, lkM, hg2, h15, hs1, lMA, ↓bD, bU, forall_const, List.all_cons, List.all_nil, Option.map_some, List.map_cons, List.map_nil, ne_eq, implies_true, isNx, cs_dec, cs_not, cs_and, cs_or, cs_valid, eq_self, ↓wp_cond, ↓wp_loop, ↓reduceIte, reduceCtorEq, Nat.reduceEqDiff, Nat.reduceLT, Nat.reduceAdd, Nat.reduceMul, Int.ofNat_lt, Int.ofNat_le, exists_const, ae_app, ap_slc, Option.map_none, mkR_none, mkR_some, ar_look, ae_mset, ae_rng, ae_mkmap0, ar_ent, lookV_push, lookV_lowed, msetV_push, msetV_lowed, lt_put, same_put, sto_over, sto_lowed, cs_dead, Option.map_some]
                  exact ⟨by simp (config := {maxDischargeDepth := 12}) only [kt_push, kt_lowed, hKA], _, rfl, .nil _ _ _⟩
                · have hg2 : mergeV old x = .tup [.agg (Nd.av (old.merge x)), .int .i64 0] := by simp [mergeV, vo, vx, hc2]
                  rw [if_neg hc2] at hfold
                  simp only at hfold
                  have mM2 := mset_map gMA (old.merge x)
                  obtain ⟨tB, htB⟩ : ∃ tB, tB = tA.put mM (mapN (updN M (old.merge x))) := ⟨_, rfl⟩
                  rw [← htB] at mM2
                  have gMB : tB.get mM = some (mapN (updN M (old.merge x))) := by rw [htB]; exact St.get_put_same gMA
                  have gAB : tB.get mA = some (mapN A) := by rw [htB, St.get_put_ne _ _ lMA (Ne.symm hne)]; exact gAA
                  have hKB : Keep s tB := by rw [htB]; exact hKA.put _ hmM' lMA
                  have lMB := lt_of_get gMB
                  have lAB := lt_of_get gAB
                  have hs2 : sameN t.next tB := by rw [htB]; exact hs1
                  subst htA
                  simp (config := {contextual := true, maxDischargeDepth := 12}) only [tb, q_Merge, q_Dead, e23, e24, e25, e4, e5, he, hlt, hw2, a1, i1, lM, lA, lkA, hg1, hx0, hg2, lkM, mM2, hs1, hs2, lMA, lMB, lAB, ↓bD, bU, forall_const, List.all_cons, List.all_nil, Option.map_some, List.map_cons, List.map_nil, ne_eq, implies_true, isNx, cs_dec, cs_not, cs_and, cs_or, cs_valid, eq_self, ↓wp_cond, ↓wp_loop, ↓reduceIte, reduceCtorEq, Nat.reduceEqDiff, Nat.reduceLT, Nat.reduceAdd, Nat.reduceMul, Int.ofNat_lt, Int.ofNat_le, exists_const, ae_app, ap_slc, Option.map_none, mkR_none, mkR_some, ar_look, ae_mset, ae_rng, ae_mkmap0, ar_ent, lookV_push, lookV_lowed, msetV_push, msetV_lowed, lt_put, same_put, sto_over, sto_lowed, cs_dead, Option.map_some]
                  refine ⟨n - 1, by omega, ?_⟩
                  rw [hI]
                  refine ⟨by simp (config := {maxDischargeDepth := 12}) only [kt_push, kt_lowed, hKB], i + 1, updN M (old.merge x), A, by omega, by simp only [E_pne, E_psame, elen_put, Nat.reduceEqDiff, ne_eq, not_false_eq_true, Nat.reduceLT, he], by simp only [E_pne, E_psame, elen_put, Nat.reduceEqDiff, ne_eq, not_false_eq_true, Nat.reduceLT, e23], by simp only [E_pne, E_psame, elen_put, Nat.reduceEqDiff, ne_eq, not_false_eq_true, Nat.reduceLT, e24], by simp only [E_pne, E_psame, elen_put, Nat.reduceEqDiff, ne_eq, not_false_eq_true, Nat.reduceLT, he], by simp only [E_pne, E_psame, elen_put, Nat.reduceEqDiff, ne_eq, not_false_eq_true, Nat.reduceLT, e4], by simp only [E_pne, E_psame, elen_put, Nat.reduceEqDiff, ne_eq, not_false_eq_true, Nat.reduceLT, e5], ?_, ?_, hfold, fun y hy => ?_, hvA2, by have := updN_len M (old.merge x); omega, updN_nodup hnd⟩
                  · simp (config := {maxDischargeDepth := 12}) only [gt_push, lt_push, lt_lowed, lowed_get, lMB, gMB]
                  · simp (config := {maxDischargeDepth := 12}) only [gt_push, lt_push, lt_lowed, lowed_get, lAB, gAB]
                  · rcases updN_mem hy with rfl | hy
                    · exact (merge_valid vo vx)
                    · exact hvM y hy
            · have tAe : ∃ tA, tA = t.put mA (mapN (updN A x)) := ⟨_, rfl⟩
              obtain ⟨tA, htA⟩ := tAe
              have hx0 : (x.x = 0) = False := eq_false hd
              have gMA : tA.get mM = some (mapN M) := by rw [htA, St.get_put_ne _ _ lA hne]; exact gM
              have gAA : tA.get mA = some (mapN (updN A x)) := by rw [htA]; exact St.get_put_same gA
              have hKA : Keep s tA := by rw [htA]; exact hK.put _ hmA' lA
              have hs1 : sameN t.next tA := by rw [htA]; rfl
              have mS := mset_map gA x
              rw [← htA] at mS
              have hvA2 : ∀ y ∈ updN A x, y.valid = true := fun y hy => by
                rcases updN_mem hy with rfl | hy
                · exact vx
                · exact hvA y hy
              rw [if_neg hd] at hfold
              have lMA := lt_of_get gMA
              cases hm : lookN M x.d with
              | none =>
                have lkM := look_miss gMA hm (.agg [.int .i64 0, .int .i64 0, .int .i64 0, .int .i64 0, .int .i64 0, .int .i32 0])
                have mM2 := mset_map gMA x
                rw [hm] at hfold
                simp only at hfold
                obtain ⟨tB, htB⟩ : ∃ tB, tB = tA.put mM (mapN (updN M x)) := ⟨_, rfl⟩
                rw [← htB] at mM2
                have gMB : tB.get mM = some (mapN (updN M x)) := by rw [htB]; exact St.get_put_same gMA
                have gAB : tB.get mA = some (mapN (updN A x)) := by rw [htB, St.get_put_ne _ _ lMA (Ne.symm hne)]; exact gAA
                have hKB : Keep s tB := by rw [htB]; exact hKA.put _ hmM' lMA
                have lMB := lt_of_get gMB
                have lAB := lt_of_get gAB
                have hs2 : sameN t.next tB := by rw [htB]; exact hs1
                simp (config := {contextual := true, maxDischargeDepth := 12}) only [tb, q_Merge, q_Dead, e23, e24, e25, e4, e5, he, hlt, hw2, a1, i1, lM, lA, lkA, hg1, hx0, mS, lkM, mM2, hs1, hs2, lMA, lMB, lAB, ↓bD, bU, forall_const, List.all_cons, List.all_nil, Option.map_some, List.map_cons, List.map_nil, ne_eq, implies_true, isNx, cs_dec, cs_not, cs_and, cs_or, cs_valid, eq_self, ↓wp_cond, ↓wp_loop, ↓reduceIte, reduceCtorEq, Nat.reduceEqDiff, Nat.reduceLT, Nat.reduceAdd, Nat.reduceMul, Int.ofNat_lt, Int.ofNat_le, exists_const, ae_app, ap_slc, Option.map_none, mkR_none, mkR_some, ar_look, ae_mset, ae_rng, ae_mkmap0, ar_ent, lookV_push, lookV_lowed, msetV_push, msetV_lowed, lt_put, same_put, sto_over, sto_lowed, cs_dead, Option.map_some]
                refine ⟨n - 1, by omega, ?_⟩
                rw [hI]
                refine ⟨by simp (config := {maxDischargeDepth := 12}) only [kt_push, kt_lowed, hKB], i + 1, updN M x, (updN A x), by omega, by simp only [E_pne, E_psame, elen_put, Nat.reduceEqDiff, ne_eq, not_false_eq_true, Nat.reduceLT, he], by simp only [E_pne, E_psame, elen_put, Nat.reduceEqDiff, ne_eq, not_false_eq_true, Nat.reduceLT, e23], by simp only [E_pne, E_psame, elen_put, Nat.reduceEqDiff, ne_eq, not_false_eq_true, Nat.reduceLT, e24], by simp only [E_pne, E_psame, elen_put, Nat.reduceEqDiff, ne_eq, not_false_eq_true, Nat.reduceLT, he], by simp only [E_pne, E_psame, elen_put, Nat.reduceEqDiff, ne_eq, not_false_eq_true, Nat.reduceLT, e4], by simp only [E_pne, E_psame, elen_put, Nat.reduceEqDiff, ne_eq, not_false_eq_true, Nat.reduceLT, e5], ?_, ?_, hfold, fun y hy => ?_, hvA2, by have := updN_len M x; omega, updN_nodup hnd⟩
                · simp (config := {maxDischargeDepth := 12}) only [gt_push, lt_push, lt_lowed, lowed_get, lMB, gMB]
                · simp (config := {maxDischargeDepth := 12}) only [gt_push, lt_push, lt_lowed, lowed_get, lAB, gAB]
                · rcases updN_mem hy with rfl | hy
                  · exact vx
                  · exact hvM y hy
              | some p =>
                obtain ⟨jj, old⟩ := p
                obtain ⟨ho1, ho2⟩ := lookN_some hm
                have vo := hvM old (List.mem_of_getElem? ho1)
                have lkM := look_hit gMA hm (.agg [.int .i64 0, .int .i64 0, .int .i64 0, .int .i64 0, .int .i64 0, .int .i32 0])
                rw [hm] at hfold
                simp only at hfold
                by_cases hc2 : old.clash x = true
                · have hg2 : mergeV old x = .tup [.agg (Nd.av nd0), .int .i64 15] := by simp [mergeV, vo, vx, hc2]
                  rw [if_pos hc2] at hfold
                  simp only at hfold
                  rw [hfold] at hp
                  injection hp with hp
                  obtain ⟨rfl, rfl⟩ := Prod.mk.inj hp
                  simp (config := {contextual := true, maxDischargeDepth := 12}) only [tb, q_Merge, q_Dead, e23, e24, e25, e4, e5, he, hlt, hw2, a1, i1, lM, lA, lkA, hg1, hx0, mS, lkM, hg2, h15, hs1, lMA, ↓bD, bU, forall_const, List.all_cons, List.all_nil, Option.map_some, List.map_cons, List.map_nil, ne_eq, implies_true, isNx, cs_dec, cs_not, cs_and, cs_or, cs_valid, eq_self, ↓wp_cond, ↓wp_loop, ↓reduceIte, reduceCtorEq, Nat.reduceEqDiff, Nat.reduceLT, Nat.reduceAdd, Nat.reduceMul, Int.ofNat_lt, Int.ofNat_le, exists_const, ae_app, ap_slc, Option.map_none, mkR_none, mkR_some, ar_look, ae_mset, ae_rng, ae_mkmap0, ar_ent, lookV_push, lookV_lowed, msetV_push, msetV_lowed, lt_put, same_put, sto_over, sto_lowed, cs_dead, Option.map_some]
                  exact ⟨by simp (config := {maxDischargeDepth := 12}) only [kt_push, kt_lowed, hKA], _, rfl, .nil _ _ _⟩
                · have hg2 : mergeV old x = .tup [.agg (Nd.av (old.merge x)), .int .i64 0] := by simp [mergeV, vo, vx, hc2]
                  rw [if_neg hc2] at hfold
                  simp only at hfold
                  have mM2 := mset_map gMA (old.merge x)
                  obtain ⟨tB, htB⟩ : ∃ tB, tB = tA.put mM (mapN (updN M (old.merge x))) := ⟨_, rfl⟩
                  rw [← htB] at mM2
                  have gMB : tB.get mM = some (mapN (updN M (old.merge x))) := by rw [htB]; exact St.get_put_same gMA
                  have gAB : tB.get mA = some (mapN (updN A x)) := by rw [htB, St.get_put_ne _ _ lMA (Ne.symm hne)]; exact gAA
                  have hKB : Keep s tB := by rw [htB]; exact hKA.put _ hmM' lMA
                  have lMB := lt_of_get gMB
                  have lAB := lt_of_get gAB
                  have hs2 : sameN t.next tB := by rw [htB]; exact hs1
                  simp (config := {contextual := true, maxDischargeDepth := 12}) only [tb, q_Merge, q_Dead, e23, e24, e25, e4, e5, he, hlt, hw2, a1, i1, lM, lA, lkA, hg1, hx0, mS, hg2, lkM, mM2, hs1, hs2, lMA, lMB, lAB, ↓bD, bU, forall_const, List.all_cons, List.all_nil, Option.map_some, List.map_cons, List.map_nil, ne_eq, implies_true, isNx, cs_dec, cs_not, cs_and, cs_or, cs_valid, eq_self, ↓wp_cond, ↓wp_loop, ↓reduceIte, reduceCtorEq, Nat.reduceEqDiff, Nat.reduceLT, Nat.reduceAdd, Nat.reduceMul, Int.ofNat_lt, Int.ofNat_le, exists_const, ae_app, ap_slc, Option.map_none, mkR_none, mkR_some, ar_look, ae_mset, ae_rng, ae_mkmap0, ar_ent, lookV_push, lookV_lowed, msetV_push, msetV_lowed, lt_put, same_put, sto_over, sto_lowed, cs_dead, Option.map_some]
                  refine ⟨n - 1, by omega, ?_⟩
                  rw [hI]
                  refine ⟨by simp (config := {maxDischargeDepth := 12}) only [kt_push, kt_lowed, hKB], i + 1, updN M (old.merge x), (updN A x), by omega, by simp only [E_pne, E_psame, elen_put, Nat.reduceEqDiff, ne_eq, not_false_eq_true, Nat.reduceLT, he], by simp only [E_pne, E_psame, elen_put, Nat.reduceEqDiff, ne_eq, not_false_eq_true, Nat.reduceLT, e23], by simp only [E_pne, E_psame, elen_put, Nat.reduceEqDiff, ne_eq, not_false_eq_true, Nat.reduceLT, e24], by simp only [E_pne, E_psame, elen_put, Nat.reduceEqDiff, ne_eq, not_false_eq_true, Nat.reduceLT, he], by simp only [E_pne, E_psame, elen_put, Nat.reduceEqDiff, ne_eq, not_false_eq_true, Nat.reduceLT, e4], by simp only [E_pne, E_psame, elen_put, Nat.reduceEqDiff, ne_eq, not_false_eq_true, Nat.reduceLT, e5], ?_, ?_, hfold, fun y hy => ?_, hvA2, by have := updN_len M (old.merge x); omega, updN_nodup hnd⟩
                  · simp (config := {maxDischargeDepth := 12}) only [gt_push, lt_push, lt_lowed, lowed_get, lMB, gMB]
                  · simp (config := {maxDischargeDepth := 12}) only [gt_push, lt_push, lt_lowed, lowed_get, lAB, gAB]
                  · rcases updN_mem hy with rfl | hy
                    · exact (merge_valid vo vx)
                    · exact hvM y hy
      · obtain rfl : i = l.length := by omega
        rw [List.drop_length, ofFold] at hfold
        rw [hfold] at hp
        simp only at hp
        injection hp with hp
        obtain ⟨rfl, rfl⟩ := Prod.mk.inj hp
        have hrg := rng_map gM
        simp (config := {contextual := true, maxDischargeDepth := 12}) only [tb, e23, e24, e25, e4, e5, he, hlt, lM, lA, hrg, ↓st_nxt, ↓bD, bU, forall_const, List.all_cons, List.all_nil, Option.map_some, List.map_cons, List.map_nil, ne_eq, implies_true, isNx, cs_dec, cs_not, cs_and, cs_or, cs_valid, eq_self, ↓wp_cond, ↓wp_loop, ↓reduceIte, reduceCtorEq, Nat.reduceEqDiff, Nat.reduceLT, Nat.reduceAdd, Nat.reduceMul, Int.ofNat_lt, Int.ofNat_le, exists_const, ae_app, ap_slc, Option.map_none, mkR_none, mkR_some, ar_look, ae_mset, ae_rng, ae_mkmap0, ar_ent, lookV_push, lookV_lowed, msetV_push, msetV_lowed, lt_put, same_put, sto_over, sto_lowed, cs_dead, Option.map_some]
        obtain ⟨pI, hpI⟩ : ∃ pI, pI = t.next := ⟨_, rfl⟩
        obtain ⟨I2, hI2⟩ : ∃ I : Nat → Env → St → Prop, ∀ n e t, I n e t = (Keep s t ∧ ∃ (seen : List Nat) (acc : List Nd), n + seen.length = M.length ∧ elen e = 89 ∧ E e 77 = .ptr pI 0 ∧ t.get mM = some (mapN M) ∧ t.get pI = some (.iter (some mM) M.length seen M.length) ∧ Own ndC s t (E e 16) acc ∧ seen.Nodup ∧ (∀ i ∈ seen, i < M.length) ∧ acc.map some = seen.map fun i => M[i]?) := ⟨fun n e t => (Keep s t ∧ ∃ (seen : List Nat) (acc : List Nd), n + seen.length = M.length ∧ elen e = 89 ∧ E e 77 = .ptr pI 0 ∧ t.get mM = some (mapN M) ∧ t.get pI = some (.iter (some mM) M.length seen M.length) ∧ Own ndC s t (E e 16) acc ∧ seen.Nodup ∧ (∀ i ∈ seen, i < M.length) ∧ acc.map some = seen.map fun i => M[i]?), fun _ _ _ => rfl⟩
        refine lwp_inv I2 (n := M.length) ?_ ?_
        · rw [hI2]
          refine ⟨hK.push _, [], [], by simp, by simp only [E_pne, E_psame, elen_put, Nat.reduceEqDiff, ne_eq, not_false_eq_true, Nat.reduceLT, he], by rw [hpI]; simp only [E_pne, E_psame, elen_put, Nat.reduceEqDiff, ne_eq, not_false_eq_true, Nat.reduceLT, he], ?_, ?_, ?_, by simp, by simp, rfl⟩
          · rw [gt_push lM]; exact gM
          · rw [hpI]; exact St.get_push_new _ _
          · simp only [E_pne, E_psame, elen_put, Nat.reduceEqDiff, ne_eq, not_false_eq_true, Nat.reduceLT, he]; exact .nil _ _ _
        clear e23 e24 e25 e4 e5 he gM gA lM lA
        intro n2 e2 t2 hi2
        rw [hI2] at hi2
        obtain ⟨hK2, seen, acc, hn2, he2, e77, gM2, gI2, hO2, hsd, hsl, hac⟩ := hi2
        have hpI' : s.next ≤ pI := by rw [hpI]; exact hK.next
        have lI2 := lt_of_get gI2
        have lM2 := lt_of_get gM2
        have hMp : mM ≠ pI := by
          intro e
          rw [e, gI2] at gM2
          cases gM2
        simp only [↓wp_seq, ↓wp_reg, ↓st_nxt, aev_t, e77]
        refine next_map gM2 gI2 (fun hall => ?_) (fun i x hx hns => ?_)
        · have hpm := seen_perm hsd hsl hac hall
          have hal : acc.length ≤ lim := by rw [hpm.length_eq]; omega
          have hnd2 : (acc.map Nd.d).Nodup := (hpm.map Nd.d).nodup_iff.2 hnd
          obtain ⟨t3, hsrt, hK3, hO3⟩ := sort_own hK2 hO2 hnd2 hal 61
          have hsm : sortN acc = sortN M := sorted_unique _ _ ((sortN_perm acc).trans (hpm.trans (sortN_perm M).symm)) (sortN_sorted acc hnd2) (sortN_sorted M hnd)
          rw [hsm] at hO3
          simp (config := {contextual := true, maxDischargeDepth := 12}) only [tb, he2, e77, hsrt, ↓bD, bU, forall_const, List.all_cons, List.all_nil, Option.map_some, List.map_cons, List.map_nil, ne_eq, implies_true, isNx, cs_dec, cs_not, cs_and, cs_or, cs_valid, eq_self, ↓wp_cond, ↓wp_loop, ↓reduceIte, reduceCtorEq, Nat.reduceEqDiff, Nat.reduceLT, Nat.reduceAdd, Nat.reduceMul, Int.ofNat_lt, Int.ofNat_le, exists_const, ae_app, ap_slc, Option.map_none, mkR_none, mkR_some, ar_look, ae_mset, ae_rng, ae_mkmap0, ar_ent, lookV_push, lookV_lowed, msetV_push, msetV_lowed, lt_put, same_put, sto_over, sto_lowed, cs_dead, Option.map_some]
          exact ⟨hK3, _, rfl, hO3⟩
        · obtain ⟨t4, ht4⟩ : ∃ t4, t4 = t2.put pI (.iter (some mM) M.length (seen ++ [i]) M.length) := ⟨_, rfl⟩
          rw [← ht4]
          have gM4 : t4.get mM = some (mapN M) := by rw [ht4, St.get_put_ne _ _ lI2 hMp]; exact gM2
          have gI4 : t4.get pI = some (.iter (some mM) M.length (seen ++ [i]) M.length) := by rw [ht4]; exact St.get_put_same gI2
          have hK4 : Keep s t4 := by rw [ht4]; exact hK2.put _ hpI' lI2
          have hO4 : Own ndC s t4 (E e2 16) acc := by
            rcases hO2 with q | ⟨j, q1, q2, q3, q4⟩
            · exact .inl q
            · refine .inr ⟨j, q1, q2, q3, ?_⟩
              have : j ≠ pI := by
                intro e
                rw [e, gI2] at q4
                cases q4
              rw [ht4, St.get_put_ne _ _ lI2 this]
              exact q4
          have lI4 := lt_of_get gI4
          have lM4 := lt_of_get gM4
          have hen := ent_map gM4 gI4 hx
          obtain ⟨u, t5, hap, hK5, hO5⟩ := appV_one (C := ndC) (hK4.lowed.push (.row (Nd.av x) true)) (hO4.lowed.push _) x 48 (by
            have : acc.length = seen.length := by have := congrArg List.length hac; simpa using this
            unfold lim at *
            simp [roomBytes]
            omega)
          have hap : appV ((t4.lowed.push (.row (Nd.av x) true)).push (.row (Nd.av x) true)) 6 48 (E e2 16) (.sl (t4.lowed.push (.row (Nd.av x) true)).next 0 1 (some 1) 6) = some (u, t5) := hap
          simp (config := {contextual := true, maxDischargeDepth := 12}) only [tb, he2, e77, hen, hap, ↓bD, bU, forall_const, List.all_cons, List.all_nil, Option.map_some, List.map_cons, List.map_nil, ne_eq, implies_true, isNx, cs_dec, cs_not, cs_and, cs_or, cs_valid, eq_self, ↓wp_cond, ↓wp_loop, ↓reduceIte, reduceCtorEq, Nat.reduceEqDiff, Nat.reduceLT, Nat.reduceAdd, Nat.reduceMul, Int.ofNat_lt, Int.ofNat_le, exists_const, ae_app, ap_slc, Option.map_none, mkR_none, mkR_some, ar_look, ae_mset, ae_rng, ae_mkmap0, ar_ent, lookV_push, lookV_lowed, msetV_push, msetV_lowed, lt_put, same_put, sto_over, sto_lowed, cs_dead, Option.map_some]
          have hne1 : ∀ o n c z, E e2 16 ≠ .sl mM o n c z := by
            intro o n c z e
            rcases hO4 with ⟨q, _⟩ | ⟨j, q1, q2, q3, q4⟩
            · rw [q] at e; cases e
            · rw [q1] at e
              injection e with e
              rw [e, gM4] at q4
              cases q4
          have hne2 : ∀ o n c z, E e2 16 ≠ .sl pI o n c z := by
            intro o n c z e
            rcases hO4 with ⟨q, _⟩ | ⟨j, q1, q2, q3, q4⟩
            · rw [q] at e; cases e
            · rw [q1] at e
              injection e with e
              rw [e, gI4] at q4
              cases q4
          have hil := getlt hx
          refine ⟨n2 - 1, by
            have := room_left hsd hsl hil hns
            omega, ?_⟩
          rw [hI2]
          refine ⟨hK5, seen ++ [i], acc ++ [x], ?_, by simp only [E_pne, E_psame, elen_put, Nat.reduceEqDiff, ne_eq, not_false_eq_true, Nat.reduceLT, he2], by simp only [E_pne, E_psame, elen_put, Nat.reduceEqDiff, ne_eq, not_false_eq_true, Nat.reduceLT, e77], ?_, ?_, by simp only [E_pne, E_psame, elen_put, Nat.reduceEqDiff, ne_eq, not_false_eq_true, Nat.reduceLT, he2]; exact hO5, ?_, ?_, ?_⟩
          · have := room_left hsd hsl hil hns
            simp
            omega
          · exact appV_frame hap hne1 (get_push_some _ (get_push_some _ gM4))
          · exact appV_frame hap hne2 (get_push_some _ (get_push_some _ gI4))
          · rw [List.nodup_append]
            exact ⟨hsd, by simp, fun a ha b hb e => by simp at hb; subst hb; subst e; exact hns ha⟩
          · intro k hk
            rcases List.mem_append.1 hk with hk | hk
            · exact hsl k hk
            · simp at hk; omega
          · rw [List.map_append, List.map_append, hac]
            simp [hx]

end Go.AM
end
/-
  Clone, Copy, Stain; the statement JoinValid in the abstract machine. Own work of this project; in part printed by a program of it.
-/
section
set_option linter.unusedVariables false
set_option linter.unusedSimpArgs false
set_option maxRecDepth 100000
set_option maxHeartbeats 8000000
namespace Go.AM
open Go Go.Proofs

/-! ### Stain -/
theorem setAt_set {cs : List AV} {o : Nat} {v : AV} (h : o < cs.length) : setAt cs o [v] = cs.set o v := by
  simp only [setAt, List.length_singleton]
  rw [List.set_eq_take_append_cons_drop, if_pos h]
  simp
theorem cells_set {l : List Nd} {i k : Nat} {x y : Nd} {v : AV} (hx : l[i]? = some x) (hk : k < 6) (hy : Nd.av y = (Nd.av x).set k v) : (ndC.cells l).set (i * 6 + k) v = ndC.cells (l.set i y) := by
  have hil := getlt hx
  have hcl : (ndC.cells l).length = l.length * 6 := cells_len ndC l
  apply List.ext_getElem?
  intro t
  rw [List.getElem?_set, cells_get, cells_get, List.getElem?_set]
  by_cases ht : i * 6 + k = t
  · subst ht
    have e1 : (i * 6 + k) / 6 = i := by omega
    have e2 : (i * 6 + k) % 6 = k := by omega
    have h6 : (Nd.av x).length = 6 := rfl
    rw [if_pos rfl, if_pos (by rw [hcl]; omega), e1, e2, if_pos rfl, if_pos hil, Option.bind_some, hy, List.getElem?_set_self (by omega)]
  · rw [if_neg ht]
    by_cases hti : i = t / 6
    · subst hti
      have hne : k ≠ t % 6 := by omega
      rw [if_pos rfl, if_pos hil, hx, Option.bind_some, Option.bind_some, hy, List.getElem?_set_ne hne]
    · rw [if_neg hti]
theorem sto_field {t : St} {j i k : Nat} {l : List Nd} {x y : Nd} {v : AV} (hg : t.get j = some (.row (ndC.cells l) true)) (hx : l[i]? = some x) (hk : k < 6) (hy : Nd.av y = (Nd.av x).set k v) (hv : v.one = true) (hc : v.cells = [v]) :
    sto t 1 (.ptr j (i * 6 + k)) v = some (.und, t.put j (.row (ndC.cells (l.set i y)) true)) := by
  have hil := getlt hx
  have hcl : (ndC.cells l).length = l.length * 6 := cells_len ndC l
  simp only [sto, hg, hc, List.length_singleton, List.all_cons, hv, List.all_nil, Bool.and_self, true_and]
  rw [if_pos (by omega), setAt_set (by omega), cells_set hx hk hy]
end Go.AM
end
/-
  The reference's Agree, put, Join; the program's Agree and Within; the helpers of the statements. Own work of this project; in part printed by a program of it.
-/
section
set_option linter.unusedVariables false
set_option linter.unusedSimpArgs false
set_option maxRecDepth 100000
set_option maxHeartbeats 8000000
namespace Go.AM
open Go Go.Proofs

theorem q_known (cl : Bool) (s : St) : acall (closed [] (.bool true)) cl [] s = some (.bool true, s) := acall_ro (by simp [closed]) rfl
def agreeL (l m : List Nd) : Bool := l.all fun x => match lookN m x.d with
  | some (_, y) => !x.clash y
  | none => true
end Go.AM
end
/-
  The reference's put and Join. Own work of this project; in part printed by a program of it.
-/
section
set_option linter.unusedVariables false
set_option linter.unusedSimpArgs false
set_option maxRecDepth 100000
set_option maxHeartbeats 8000000
namespace Go.AM
open Go Go.Proofs

/-- Where a node goes: behind all that come before it, from the start on. -/
def posL (x : Nd) : List Nd → Nat
  | [] => 0
  | y :: r => if y.d.before x.d = true then posL x r + 1 else 0
def putL (l : List Nd) (x : Nd) : List Nd := l.take (posL x l) ++ x :: l.drop (posL x l)
/-! ### The reference's Join -/
def rmerge (x y : Nd) : Nd := if x.clash y = true then nd0 else x.merge y
def jstep (out : List Nd) (y : Nd) : List Nd := match lookN out y.d with
  | some (k, x) => out.set k (rmerge x y)
  | none => putL out y
def refJ (l m : List Nd) : List Nd := m.foldl jstep l
end Go.AM
end
/-
  Plain laws: the program's join is the reference's. Own work of this project.
-/
section
set_option linter.unusedVariables false
set_option linter.unusedSimpArgs false
namespace Go.AM
open Go Go.Proofs

theorem chain_pairwise : ∀ {l : List Nd}, chain ndLt l = true → l.Pairwise ltP
  | [], _ => .nil
  | [x], _ => by simp
  | x :: y :: r, h => by
    rw [chain, Bool.and_eq_true] at h
    have ih := chain_pairwise (l := y :: r) h.2
    have hxy : ltP x y := h.1
    rw [List.pairwise_cons]
    refine ⟨fun z hz => ?_, ih⟩
    rcases List.mem_cons.1 hz with rfl | hz
    · exact hxy
    · exact ltP_trans hxy ((List.pairwise_cons.1 ih).1 z hz)
theorem pairwise_chain : ∀ {l : List Nd}, l.Pairwise ltP → chain ndLt l = true
  | [], _ => rfl
  | [x], _ => rfl
  | x :: y :: r, h => by
    rw [List.pairwise_cons] at h
    rw [chain, Bool.and_eq_true]
    exact ⟨h.1 y (by simp), pairwise_chain h.2⟩
theorem ltP_ne {x y : Nd} (h : ltP x y) : x.d ≠ y.d := by
  intro e
  unfold ltP at h
  rw [e, before_irr] at h
  cases h
theorem look_cons_ne {x : Nd} {r : List Nd} {d : Dot} (h : x.d ≠ d) : lookN (x :: r) d = (lookN r d).map fun p => (p.1 + 1, p.2) := by
  simp [lookN, h]
theorem look_cons_eq {x : Nd} {r : List Nd} {d : Dot} (h : x.d = d) : lookN (x :: r) d = some (0, x) := by
  simp [lookN, h]
theorem store_sorted {l : List Nd} (h : storeL l = true) : l.Pairwise ltP := by
  simp only [storeL, Bool.and_eq_true] at h
  exact chain_pairwise h.2
end Go.AM
end
/-
  Plain laws of the join: by what stands at each dot. Own work of this project.
-/
section
set_option linter.unusedVariables false
set_option linter.unusedSimpArgs false
namespace Go.AM
open Go Go.Proofs

/-- What stands at a dot. -/
def getN (l : List Nd) (d : Dot) : Option Nd := (lookN l d).map (·.2)
theorem getN_nil (d : Dot) : getN [] d = none := rfl
theorem getN_cons (x : Nd) (r : List Nd) (d : Dot) : getN (x :: r) d = if x.d = d then some x else getN r d := by
  unfold getN
  by_cases h : x.d = d
  · rw [look_cons_eq h, if_pos h]; rfl
  · rw [look_cons_ne h, if_neg h]
    cases lookN r d <;> rfl
theorem getN_some : ∀ {l : List Nd} {d : Dot} {x : Nd}, getN l d = some x → x ∈ l ∧ x.d = d
  | [], d, x, h => by simp [getN_nil] at h
  | y :: r, d, x, h => by
    rw [getN_cons] at h
    split at h
    · injection h with h
      subst h
      exact ⟨by simp, by assumption⟩
    · obtain ⟨h1, h2⟩ := getN_some h
      exact ⟨by simp [h1], h2⟩
theorem getN_mem : ∀ {l : List Nd} {x : Nd}, l.Pairwise ltP → x ∈ l → getN l x.d = some x
  | [], x, _, h => by simp at h
  | y :: r, x, hp, h => by
    rw [List.pairwise_cons] at hp
    rw [getN_cons]
    rcases List.mem_cons.1 h with rfl | h
    · rw [if_pos rfl]
    · rw [if_neg (ltP_ne (hp.1 x h)), getN_mem hp.2 h]
theorem nodup_of {l : List Nd} (h : l.Pairwise ltP) : l.Nodup := h.imp fun {a b} hab e => by
  subst e
  exact ltP_asymm hab hab
/-! ### At one dot -/
theorem clash_symm (x y : Nd) : x.clash y = y.clash x := by
  rw [Bool.eq_iff_iff, Nd.clash_true, Nd.clash_true]
  grind
theorem clash_self (x : Nd) : x.clash x = false := by
  rw [Nd.clash_false]
  exact ⟨rfl, rfl, rfl, .inr (.inr rfl)⟩
theorem merge_dead {x y : Nd} (h : x.x = 0) : (x.merge y).x = 0 := by
  unfold Nd.merge
  split <;> assumption
end Go.AM
end
/-
  The answers of join.Agree, Within and Join as plain pairs. Own work of this project; in part printed by a program of it.
-/
section
set_option linter.unusedVariables false
set_option linter.unusedSimpArgs false
set_option maxRecDepth 100000
set_option maxHeartbeats 8000000
namespace Go.AM
open Go Go.Proofs

def joinsP (l m : List Nd) : List Nd × Int := if storeL l = true ∧ storeL m = true then (if agreeL l m = true then (refJ l m, 0) else ([], 15)) else ([], 2)
end Go.AM
end
/-
  Plain laws: the join of what does not clash is determined by what is in it. Own work of this project.
-/
section
set_option linter.unusedVariables false
set_option linter.unusedSimpArgs false
namespace Go.AM
open Go Go.Proofs

/-- No two of them clash. -/
def NC (S : Nd → Prop) : Prop := ∀ x y, S x → S y → x.d = y.d → x.clash y = false
theorem NC.sub {S T : Nd → Prop} (h : NC S) (k : ∀ x, T x → S x) : NC T := fun x y hx hy e => h x y (k x hx) (k y hy) e
/-- All dots of S, each once, in order; dead where one is dead. -/
structure Res (S : Nd → Prop) (j : List Nd) : Prop where
  sorted : j.Pairwise ltP
  sub : ∀ y ∈ j, S y
  dead : ∀ y ∈ j, ∀ z, S z → z.d = y.d → z.x = 0 → y.x = 0
  cover : ∀ z, S z → ∃ y ∈ j, y.d = z.d
theorem nd_eq {x y : Nd} (hc : x.clash y = false) (h0 : x.x = 0 ↔ y.x = 0) : x = y := by
  rw [Nd.clash_false] at hc
  obtain ⟨⟨_, _⟩, ⟨_, _⟩, _, _⟩ := x
  obtain ⟨⟨_, _⟩, ⟨_, _⟩, _, _⟩ := y
  simp only at *
  grind
theorem Res.mem {S : Nd → Prop} (hS : NC S) {j k : List Nd} (h : Res S j) (g : Res S k) {y : Nd} (hy : y ∈ j) : y ∈ k := by
  obtain ⟨y', h1, h2⟩ := g.cover y (h.sub y hy)
  have hc := hS y y' (h.sub y hy) (g.sub y' h1) h2.symm
  have : y = y' := nd_eq hc ⟨fun e => g.dead y' h1 y (h.sub y hy) h2.symm e, fun e => h.dead y hy y' (g.sub y' h1) h2 e⟩
  rw [this]
  exact h1
theorem Res.uniq {S : Nd → Prop} (hS : NC S) {j k : List Nd} (h : Res S j) (g : Res S k) : j = k :=
  sorted_unique j k ((List.perm_ext_iff_of_nodup (nodup_of h.sorted) (nodup_of g.sorted)).2 fun x => ⟨fun hx => h.mem hS g hx, fun hx => g.mem hS h hx⟩) h.sorted g.sorted
theorem Res.congr {S T : Nd → Prop} {j : List Nd} (h : Res S j) (e : ∀ x, S x ↔ T x) : Res T j :=
  ⟨h.sorted, fun y hy => (e y).1 (h.sub y hy), fun y hy z hz => h.dead y hy z ((e z).2 hz), fun z hz => h.cover z ((e z).2 hz)⟩
def M2 (l m : List Nd) (x : Nd) : Prop := x ∈ l ∨ x ∈ m
/-- The join of a join. -/
theorem Res.step {S T : Nd → Prop} {j k : List Nd} (h : Res S j) (g : Res (fun x => x ∈ j ∨ T x) k) : Res (fun x => S x ∨ T x) k := by
  refine ⟨g.sorted, fun y hy => ?_, fun y hy z hz e z0 => ?_, fun z hz => ?_⟩
  · rcases g.sub y hy with q | q
    · exact .inl (h.sub y q)
    · exact .inr q
  · rcases hz with q | q
    · obtain ⟨y', h1, h2⟩ := h.cover z q
      exact g.dead y hy y' (.inl h1) (h2.trans e) (h.dead y' h1 z q h2.symm z0)
    · exact g.dead y hy z (.inr q) e z0
  · rcases hz with q | q
    · obtain ⟨y', h1, h2⟩ := h.cover z q
      obtain ⟨y, h3, h4⟩ := g.cover y' (.inl h1)
      exact ⟨y, h3, h4.trans h2⟩
    · exact g.cover z (.inr q)
theorem sorted_dot {l : List Nd} (hl : l.Pairwise ltP) {x y : Nd} (hx : x ∈ l) (hy : y ∈ l) (e : x.d = y.d) : x = y := by
  have h1 := getN_mem hl hx
  have h2 := getN_mem hl hy
  rw [e, h2] at h1
  injection h1 with h1
  exact h1.symm
/-! ### store.Of: one list with all -/
theorem updN_mem' {l : List Nd} {x y : Nd} (hn : (l.map Nd.d).Nodup) (h : y ∈ updN l x) : y = x ∨ (y ∈ l ∧ y.d ≠ x.d) := by
  unfold updN at h
  split at h
  · rename_i j old hj
    obtain ⟨h1, h2⟩ := lookN_some hj
    obtain ⟨i, hi⟩ := List.getElem?_of_mem h
    by_cases hij : j = i
    · subst hij
      rw [List.getElem?_set_self (getlt h1)] at hi
      injection hi with hi
      exact .inl hi.symm
    · rw [List.getElem?_set_ne hij] at hi
      refine .inr ⟨List.mem_of_getElem? hi, fun e => hij ?_⟩
      have hlt : j < (l.map Nd.d).length := by simpa using getlt h1
      have he : (l.map Nd.d)[j]? = (l.map Nd.d)[i]? := by
        rw [List.getElem?_map, List.getElem?_map, h1, hi]
        simp [h2, e]
      exact (List.getElem?_inj hlt hn).1 he
  · rename_i hj
    rcases List.mem_append.1 h with h | h
    · exact .inr ⟨h, lookN_none hj y h⟩
    · exact .inl (by simpa using h)
theorem updN_self (l : List Nd) (x : Nd) : x ∈ updN l x := by
  unfold updN
  split
  · rename_i j old hj
    obtain ⟨h1, _⟩ := lookN_some hj
    exact List.mem_of_getElem? (List.getElem?_set_self (getlt h1))
  · simp
theorem updN_old {l : List Nd} {x z : Nd} (h : z ∈ l) (e : z.d ≠ x.d) : z ∈ updN l x := by
  unfold updN
  split
  · rename_i j old hj
    obtain ⟨h1, h2⟩ := lookN_some hj
    obtain ⟨i, hi⟩ := List.getElem?_of_mem h
    have hij : j ≠ i := by
      rintro rfl
      rw [h1] at hi
      injection hi with hi
      subst hi
      exact e h2
    exact List.mem_of_getElem? (by rw [List.getElem?_set_ne hij]; exact hi)
  · exact List.mem_append.2 (.inl h)
theorem updN_cov {l : List Nd} {x z : Nd} (h : z ∈ l) : ∃ y ∈ updN l x, y.d = z.d := by
  by_cases e : z.d = x.d
  · exact ⟨x, updN_self l x, e.symm⟩
  · exact ⟨z, updN_old h e, rfl⟩
def clA (A : List Nd) (n : Nd) : Bool := match lookN A n.d with
  | some (_, x) => x.clash n
  | none => false
theorem ofStep_eq (M A : List Nd) (n : Nd) : ofStep M A n = if clA A n = true then none else match lookN M n.d with
    | some (_, old) => if old.clash n = true then none else some (updN M (old.merge n), if n.x = 0 then A else updN A n)
    | none => some (updN M n, if n.x = 0 then A else updN A n) := rfl
structure OInv (p M A : List Nd) : Prop where
  nc : NC (· ∈ p)
  nd : (M.map Nd.d).Nodup
  sub : ∀ y ∈ M, y ∈ p
  dead : ∀ y ∈ M, ∀ z ∈ p, z.d = y.d → z.x = 0 → y.x = 0
  cover : ∀ z ∈ p, ∃ y ∈ M, y.d = z.d
  asub : ∀ y ∈ A, y ∈ p ∧ y.x ≠ 0
  acov : ∀ z ∈ p, z.x ≠ 0 → ∃ y ∈ A, y.d = z.d
theorem OInv.nil : OInv [] [] [] := ⟨fun x y h => by simp at h, by simp, by simp, by simp, by simp, by simp, by simp⟩
theorem look_in {l : List Nd} {d : Dot} (h : ∃ y ∈ l, y.d = d) : ∃ j y, lookN l d = some (j, y) := by
  obtain ⟨y, h1, h2⟩ := h
  cases hk : lookN l d with
  | none => exact absurd h2 (lookN_none hk y h1)
  | some p => exact ⟨p.1, p.2, rfl⟩
theorem OInv.step {p M A : List Nd} (h : OInv p M A) (n : Nd) : match ofStep M A n with
    | some (M', A') => OInv (p ++ [n]) M' A'
    | none => ∃ x ∈ p, x.d = n.d ∧ x.clash n = true := by
  have hA : ∀ z ∈ p, z.x ≠ 0 → z.d = n.d → clA A n = false → z.clash n = false := by
    intro z hz z0 hd hc
    obtain ⟨j, y, hj⟩ := look_in (h.acov z hz z0)
    rw [hd] at hj
    obtain ⟨h1, h2⟩ := lookN_some hj
    obtain ⟨y1, y2⟩ := h.asub y (List.mem_of_getElem? h1)
    unfold clA at hc
    rw [hj] at hc
    simp only at hc
    have : z = y := nd_eq (h.nc z y hz y1 (hd.trans h2.symm)) ⟨fun e => absurd e z0, fun e => absurd e y2⟩
    rw [this]
    exact hc
  have mk : ∀ m : Nd, m.d = n.d → (m = n ∨ m ∈ M) → (n.x = 0 → m.x = 0) → (∀ z ∈ p, z.d = n.d → z.x = 0 → m.x = 0) → (∀ z ∈ p, z.d = n.d → z.clash n = false) → OInv (p ++ [n]) (updN M m) (if n.x = 0 then A else updN A n) := by
    intro m md hm m0 mp hnc
    have hmem : ∀ x, x ∈ p ++ [n] ↔ x ∈ p ∨ x = n := by simp
    refine ⟨fun x y hx hy e => ?_, updN_nodup h.nd, fun y hy => ?_, fun y hy z hz e z0 => ?_, fun z hz => ?_, fun y hy => ?_, fun z hz z0 => ?_⟩
    · rcases (hmem x).1 hx with kx | kx <;> rcases (hmem y).1 hy with ky | ky
      · exact h.nc x y kx ky e
      · rw [ky]; exact hnc x kx (by rw [e, ky])
      · rw [clash_symm, kx]; exact hnc y ky (by rw [← e, kx])
      · rw [kx, ky]; exact clash_self _
    · rw [hmem]
      rcases updN_mem hy with rfl | hy
      · rcases hm with rfl | hm
        · exact .inr rfl
        · exact .inl (h.sub _ hm)
      · exact .inl (h.sub y hy)
    · rw [hmem] at hz
      rcases updN_mem' h.nd hy with rfl | ⟨hy, hyd⟩
      · rcases hz with hz | rfl
        · exact mp z hz (e.trans md) z0
        · exact m0 z0
      · rcases hz with hz | rfl
        · exact h.dead y hy z hz e z0
        · exact absurd (e.symm.trans md.symm) hyd
    · rw [hmem] at hz
      rcases hz with hz | rfl
      · obtain ⟨y, h1, h2⟩ := h.cover z hz
        obtain ⟨y', h3, h4⟩ := updN_cov (x := m) h1
        exact ⟨y', h3, h4.trans h2⟩
      · exact ⟨m, updN_self M m, md⟩
    · split at hy
      · exact ⟨(hmem y).2 (.inl (h.asub y hy).1), (h.asub y hy).2⟩
      · rename_i hn0
        rcases updN_mem hy with rfl | hy
        · exact ⟨(hmem _).2 (.inr rfl), hn0⟩
        · exact ⟨(hmem y).2 (.inl (h.asub y hy).1), (h.asub y hy).2⟩
    · rw [hmem] at hz
      rcases hz with hz | rfl
      · obtain ⟨y, h1, h2⟩ := h.acov z hz z0
        split
        · exact ⟨y, h1, h2⟩
        · obtain ⟨y', h3, h4⟩ := updN_cov (x := n) h1
          exact ⟨y', h3, h4.trans h2⟩
      · rw [if_neg z0]
        exact ⟨z, updN_self A z, rfl⟩
  rw [ofStep_eq]
  by_cases hc : clA A n = true
  · rw [if_pos hc]
    unfold clA at hc
    cases hk : lookN A n.d with
    | none => rw [hk] at hc; cases hc
    | some q =>
      obtain ⟨j, y⟩ := q
      rw [hk] at hc
      obtain ⟨h1, h2⟩ := lookN_some hk
      exact ⟨y, (h.asub y (List.mem_of_getElem? h1)).1, h2, hc⟩
  · rw [if_neg hc]
    have hc' : clA A n = false := by simpa using hc
    cases hm : lookN M n.d with
    | none =>
      have hno : ∀ z ∈ p, z.d ≠ n.d := fun z hz e => by
        obtain ⟨y, h1, h2⟩ := h.cover z hz
        exact lookN_none hm y h1 (h2.trans e)
      exact mk n rfl (.inl rfl) (fun e => e) (fun z hz e => absurd e (hno z hz)) fun z hz e => absurd e (hno z hz)
    | some q =>
      obtain ⟨j, old⟩ := q
      obtain ⟨h1, h2⟩ := lookN_some hm
      have ho := List.mem_of_getElem? h1
      simp only
      by_cases hco : old.clash n = true
      · rw [if_pos hco]
        exact ⟨old, h.sub old ho, h2, hco⟩
      · rw [if_neg hco]
        have hco' : old.clash n = false := by simpa using hco
        refine mk (old.merge n) (merge_d h2) ?_ (fun e => ?_) (fun z hz e z0 => ?_) fun z hz e => ?_
        · unfold Nd.merge
          split
          · exact .inl rfl
          · exact .inr ho
        · unfold Nd.merge
          rw [if_pos e]
          exact e
        · exact merge_dead (h.dead old ho z hz (e.trans h2.symm) z0)
        · by_cases z0 : z.x = 0
          · have hzo := h.nc z old hz (h.sub old ho) (e.trans h2.symm)
            rw [Nd.clash_false] at hzo hco' ⊢
            grind
          · exact hA z hz z0 e hc'
theorem of_fold : ∀ (r p M A : List Nd), OInv p M A → match ofFold r M A with
    | some M' => ∃ A', OInv (p ++ r) M' A'
    | none => ¬ NC (· ∈ p ++ r)
  | [], p, M, A, h => by
    rw [List.append_nil]
    exact ⟨A, h⟩
  | n :: r, p, M, A, h => by
    have hs := h.step n
    rw [ofFold]
    cases hk : ofStep M A n with
    | none =>
      rw [hk] at hs
      obtain ⟨x, h1, h2, h3⟩ := hs
      intro hn
      have := hn x n (List.mem_append.2 (.inl h1)) (by simp) h2
      rw [this] at h3
      cases h3
    | some q =>
      obtain ⟨M', A'⟩ := q
      rw [hk] at hs
      have := of_fold r (p ++ [n]) M' A' hs
      rw [List.append_assoc, List.singleton_append] at this
      exact this
theorem gof_res {l : List Nd} (hv : l.all Nd.valid = true) : (NC (· ∈ l) ∧ ∃ j, gOf l = some (j, some (.int .i64 0)) ∧ Res (· ∈ l) j) ∨ (¬ NC (· ∈ l) ∧ gOf l = some ([], some (.int .i64 15))) := by
  have h := of_fold l [] [] [] .nil
  rw [List.nil_append] at h
  unfold gOf
  rw [if_pos hv]
  cases hk : ofFold l [] [] with
  | none =>
    rw [hk] at h
    exact .inr ⟨h, rfl⟩
  | some M =>
    rw [hk] at h
    obtain ⟨A, h⟩ := h
    have hp := sortN_perm M
    refine .inl ⟨h.nc, sortN M, rfl, sortN_sorted M h.nd, fun y hy => h.sub y (hp.mem_iff.1 hy), fun y hy z hz e z0 => h.dead y (hp.mem_iff.1 hy) z hz e z0, fun z hz => ?_⟩
    obtain ⟨y, h1, h2⟩ := h.cover z hz
    exact ⟨y, hp.mem_iff.2 h1, h2⟩

/-! ### join.All -/
def ofP (l : List Nd) : List Nd × Int := match gOf l with
  | some (j, some (.int _ e)) => (j, e)
  | _ => ([], 2)
def allP (ls : List (List Nd)) : List Nd × Int := if ls.all storeL = true then ofP ls.flatten else ([], 2)
theorem gOf_P (l : List Nd) : gOf l = some ((ofP l).1, some (.int .i64 (ofP l).2)) := by
  unfold ofP gOf
  split
  · split <;> rfl
  · rfl
theorem store_valid {l : List Nd} (h : storeL l = true) : l.all Nd.valid = true := by
  simp only [storeL, Bool.and_eq_true] at h
  exact h.1
/-! ### What JoinHolds asks -/
theorem store_of_res {S : Nd → Prop} {j : List Nd} (h : Res S j) (hv : ∀ x, S x → x.valid = true) : storeL j = true := by
  simp only [storeL, Bool.and_eq_true]
  exact ⟨List.all_eq_true.2 fun x hx => hv x (h.sub x hx), pairwise_chain h.sorted⟩
structure Holds3 (a b c : List Nd) (bc all : List Nd) : Prop where
  s : storeL bc = true
  j1 : joinsP b c = (bc, 0)
  j2 : joinsP a bc = (all, 0)
  j3 : joinsP (refJ a b) c = (all, 0)
  a1 : allP [a, b, c] = (all, 0)
  a2 : allP [c, b, b, a, c] = (all, 0)
end Go.AM
end
/-
  Plain laws of stores: putting a node, finding and killing by dots. Own work of this project.
-/
section
set_option linter.unusedVariables false
set_option linter.unusedSimpArgs false
namespace Go.AM
open Go Go.Proofs

/-- The number of nodes before a dot's place. -/
def kOf (l : List Nd) (d : Dot) : Nat := (l.takeWhile fun x => x.d.before d).length
theorem kOf_cons (x : Nd) (l : List Nd) (d : Dot) : kOf (x :: l) d = if x.d.before d = true then kOf l d + 1 else 0 := by
  unfold kOf
  rw [List.takeWhile_cons]
  split <;> rfl
theorem kOf_pre : ∀ (l : List Nd) (d : Dot), ∀ y ∈ l.take (kOf l d), y.d.before d = true
  | [], d => by simp [kOf]
  | x :: l, d => by
    rw [kOf_cons]
    split
    · rename_i h
      intro y hy
      rw [List.take_succ_cons] at hy
      rcases List.mem_cons.1 hy with rfl | hy
      · exact h
      · exact kOf_pre l d y hy
    · simp
theorem kOf_stop : ∀ (l : List Nd) (d : Dot) (y : Nd) (r : List Nd), l.drop (kOf l d) = y :: r → y.d.before d = false
  | [], d, y, r, h => by simp at h
  | x :: l, d, y, r, h => by
    rw [kOf_cons] at h
    split at h
    · rw [List.drop_succ_cons] at h
      exact kOf_stop l d y r h
    · rename_i hb
      simp only [List.drop_zero] at h
      injection h with h1 h2
      rw [← h1]
      simpa using hb
theorem kOf_eq : ∀ {l : List Nd} {d : Dot} {i : Nat}, i ≤ l.length → (∀ k y, k < i → l[k]? = some y → y.d.before d = true) → (∀ y, l[i]? = some y → y.d.before d = false) → kOf l d = i
  | [], d, i, hi, _, _ => by
    have : i = 0 := by simpa using hi
    subst this
    rfl
  | x :: l, d, 0, _, _, hs => by
    rw [kOf_cons, hs x rfl]
    rfl
  | x :: l, d, i + 1, hi, h, hs => by
    rw [kOf_cons, h 0 x (by omega) rfl, if_pos rfl, kOf_eq (i := i) (by simpa using hi) (fun k y hk hy => h (k + 1) y (by omega) (by simpa using hy)) (fun y hy => hs y (by simpa using hy))]

/-! ### Putting a node -/
def pmerge (a b : Nd) : Nd := if a.x = 0 then a else b
def rput (l : List Nd) (n : Nd) : List Nd × Int := match l.drop (kOf l n.d) with
  | [] => (l.take (kOf l n.d) ++ [n], 0)
  | x :: r => if x.d = n.d then (if x.clash n = true then ([], 15) else (l.take (kOf l n.d) ++ pmerge x n :: r, 0)) else (l.take (kOf l n.d) ++ n :: x :: r, 0)
theorem rput_len (l : List Nd) (n : Nd) : (rput l n).1.length ≤ l.length + 1 := by
  have h : l.length = (l.take (kOf l n.d)).length + (l.drop (kOf l n.d)).length := by rw [← List.length_append, List.take_append_drop]
  unfold rput
  split
  · rename_i e
    rw [e] at h
    simp only [List.length_append, List.length_cons, List.length_nil] at h ⊢
    omega
  · rename_i x r e
    rw [e] at h
    simp only [List.length_cons] at h
    split
    · split
      · simp
      · simp only [List.length_append, List.length_cons]
        omega
    · simp only [List.length_append, List.length_cons]
      omega
theorem pmerge_or (x n : Nd) : pmerge x n = x ∨ pmerge x n = n := by
  unfold pmerge
  split
  · exact .inl rfl
  · exact .inr rfl
theorem rput_ok {l : List Nd} (hl : l.Pairwise ltP) (n : Nd) (hc : ∀ x ∈ l, x.d = n.d → x.clash n = false) : ∃ j, rput l n = (j, 0) ∧ Res (fun x => x ∈ l ∨ x = n) j := by
  have hpre := kOf_pre l n.d
  have hstop := kOf_stop l n.d
  have hsplit : l = l.take (kOf l n.d) ++ l.drop (kOf l n.d) := (List.take_append_drop _ _).symm
  unfold rput
  generalize hA : l.take (kOf l n.d) = A at *
  generalize hB : l.drop (kOf l n.d) = B at *
  subst hsplit
  obtain ⟨hlA, hlB, hlAB⟩ := List.pairwise_append.1 hl
  have nA : ∀ a ∈ A, a.d ≠ n.d := fun a ha e => by
    have := hpre a ha
    rw [e, before_irr] at this
    cases this
  cases B with
  | nil =>
    refine ⟨_, rfl, ?_, ?_, ?_, ?_⟩
    · rw [List.pairwise_append]
      exact ⟨hlA, List.pairwise_singleton _ _, fun a ha b hb => by
        rw [List.mem_singleton.1 hb]
        exact hpre a ha⟩
    · intro y hy
      rcases List.mem_append.1 hy with h | h
      · exact .inl (by simpa using h)
      · exact .inr (List.mem_singleton.1 h)
    · intro y hy z hz e z0
      rcases List.mem_append.1 hy with h | h
      · rcases hz with q | rfl
        · have : z = y := sorted_dot hl q (by simpa using h) e
          rw [← this]; exact z0
        · exact absurd e.symm (nA y h)
      · rw [List.mem_singleton.1 h] at e ⊢
        rcases hz with q | rfl
        · exact absurd e (nA z (by simpa using q))
        · exact z0
    · intro z hz
      rcases hz with q | rfl
      · exact ⟨z, List.mem_append.2 (.inl (by simpa using q)), rfl⟩
      · exact ⟨z, by simp, rfl⟩
  | cons x r =>
    have hx0 := hstop x r rfl
    obtain ⟨hxr, hrr⟩ := List.pairwise_cons.1 hlB
    by_cases hd : x.d = n.d
    · have hcx := hc x (by simp) hd
      simp only [if_pos hd, hcx, Bool.false_eq_true, if_false]
      have hmd : (pmerge x n).d = n.d := by
        rcases pmerge_or x n with h | h
        · rw [h, hd]
        · rw [h]
      refine ⟨_, rfl, ?_, ?_, ?_, ?_⟩
      · rw [List.pairwise_append, List.pairwise_cons]
        refine ⟨hlA, ⟨fun b hb => ?_, hrr⟩, fun a ha b hb => ?_⟩
        · have := hxr b hb
          unfold ltP at this ⊢
          rw [hmd, ← hd]; exact this
        · rcases List.mem_cons.1 hb with rfl | hb
          · unfold ltP
            rw [hmd]
            exact hpre a ha
          · exact hlAB a ha b (by simp [hb])
      · intro y hy
        rcases List.mem_append.1 hy with h | h
        · exact .inl (by simp [h])
        · rcases List.mem_cons.1 h with rfl | h
          · rcases pmerge_or x n with h | h
            · rw [h]; exact .inl (by simp)
            · rw [h]; exact .inr rfl
          · exact .inl (by simp [h])
      · intro y hy z hz e z0
        have key : y = pmerge x n ∨ (y ∈ A ++ x :: r ∧ y.d ≠ n.d) := by
          rcases List.mem_append.1 hy with h | h
          · exact .inr ⟨by simp [h], nA y h⟩
          · rcases List.mem_cons.1 h with rfl | h
            · exact .inl rfl
            · refine .inr ⟨by simp [h], fun q => ?_⟩
              have := hxr y h
              unfold ltP at this
              rw [q, hd, before_irr] at this
              cases this
        rcases key with rfl | ⟨hm, hne⟩
        · rw [hmd] at e
          rcases hz with q | rfl
          · have : z = x := sorted_dot hl q (by simp) (e.trans hd.symm)
            subst this
            unfold pmerge
            rw [if_pos z0]; exact z0
          · unfold pmerge
            split
            · assumption
            · exact z0
        · rcases hz with q | rfl
          · have : z = y := sorted_dot hl q hm e
            rw [← this]; exact z0
          · exact absurd e.symm hne
      · intro z hz
        have here : ∃ y ∈ A ++ pmerge x n :: r, y.d = n.d := ⟨_, by simp, hmd⟩
        rcases hz with q | rfl
        · rcases List.mem_append.1 q with h | h
          · exact ⟨z, by simp [h], rfl⟩
          · rcases List.mem_cons.1 h with rfl | h
            · rw [hd]; exact here
            · exact ⟨z, by simp [h], rfl⟩
        · exact here
    · simp only [if_neg hd]
      have hnx : ltP n x := by
        rcases ltP_tri n x (Ne.symm hd) with h | h
        · exact h
        · unfold ltP at h
          rw [hx0] at h
          cases h
      refine ⟨_, rfl, ?_, ?_, ?_, ?_⟩
      · rw [List.pairwise_append, List.pairwise_cons]
        refine ⟨hlA, ⟨fun b hb => ?_, hlB⟩, fun a ha b hb => ?_⟩
        · rcases List.mem_cons.1 hb with rfl | hb
          · exact hnx
          · exact ltP_trans hnx (hxr b hb)
        · rcases List.mem_cons.1 hb with rfl | hb
          · exact hpre a ha
          · exact hlAB a ha b hb
      · intro y hy
        rcases List.mem_append.1 hy with h | h
        · exact .inl (by simp [h])
        · rcases List.mem_cons.1 h with rfl | h
          · exact .inr rfl
          · exact .inl (List.mem_append.2 (.inr h))
      · have nB : ∀ b ∈ x :: r, b.d ≠ n.d := by
          intro b hb e
          rcases List.mem_cons.1 hb with rfl | hb
          · exact hd e
          · have := ltP_trans hnx (hxr b hb)
            unfold ltP at this
            rw [e, before_irr] at this
            cases this
        intro y hy z hz e z0
        have key : y = n ∨ (y ∈ A ++ x :: r ∧ y.d ≠ n.d) := by
          rcases List.mem_append.1 hy with h | h
          · exact .inr ⟨by simp [h], nA y h⟩
          · rcases List.mem_cons.1 h with rfl | h
            · exact .inl rfl
            · exact .inr ⟨List.mem_append.2 (.inr h), nB y h⟩
        rcases key with rfl | ⟨hm, hne⟩
        · rcases hz with q | rfl
          · rcases List.mem_append.1 q with h | h
            · exact absurd e (nA z h)
            · exact absurd e (nB z h)
          · exact z0
        · rcases hz with q | rfl
          · have : z = y := sorted_dot hl q hm e
            rw [← this]; exact z0
          · exact absurd e.symm hne
      · intro z hz
        rcases hz with q | rfl
        · refine ⟨z, ?_, rfl⟩
          rcases List.mem_append.1 q with h | h
          · simp [h]
          · exact List.mem_append.2 (.inr (List.mem_cons_of_mem _ h))
        · exact ⟨z, by simp, rfl⟩
theorem at_kOf {l : List Nd} (hl : l.Pairwise ltP) {x : Nd} (hx : x ∈ l) : ∃ r, l.drop (kOf l x.d) = x :: r := by
  have hpre := kOf_pre l x.d
  have hstop := kOf_stop l x.d
  have hsplit : l = l.take (kOf l x.d) ++ l.drop (kOf l x.d) := (List.take_append_drop _ _).symm
  generalize hA : l.take (kOf l x.d) = A at *
  generalize hB : l.drop (kOf l x.d) = B at *
  subst hsplit
  rcases List.mem_append.1 hx with h | h
  · have := hpre x h
    rw [before_irr] at this
    cases this
  · cases B with
    | nil => simp at h
    | cons y r =>
      obtain ⟨_, hlB, _⟩ := List.pairwise_append.1 hl
      obtain ⟨hyr, _⟩ := List.pairwise_cons.1 hlB
      rcases List.mem_cons.1 h with rfl | h
      · exact ⟨r, rfl⟩
      · have h1 := hyr x h
        have h2 := hstop y r rfl
        unfold ltP at h1
        rw [h2] at h1
        cases h1
theorem rput_bad {l : List Nd} (hl : l.Pairwise ltP) {n x : Nd} (hx : x ∈ l) (hd : x.d = n.d) (hc : x.clash n = true) : rput l n = ([], 15) := by
  obtain ⟨r, hr⟩ := at_kOf hl hx
  unfold rput
  rw [← hd, hr]
  simp [hc]
theorem nc_app {l : List Nd} (hl : l.Pairwise ltP) (n : Nd) : NC (· ∈ l ++ [n]) ↔ ∀ x ∈ l, x.d = n.d → x.clash n = false := by
  constructor
  · intro h x hx e
    exact h x n (by simp [hx]) (by simp) e
  · intro h x y hx hy e
    simp only [List.mem_append, List.mem_singleton] at hx hy
    rcases hx with hx | rfl <;> rcases hy with hy | rfl
    · rw [sorted_dot hl hx hy e]
      exact clash_self y
    · exact h x hx e
    · rw [clash_symm]
      exact h y hy e.symm
    · exact clash_self _
theorem ofP_res {l : List Nd} (hv : l.all Nd.valid = true) (hn : NC (· ∈ l)) : ∃ j, ofP l = (j, 0) ∧ Res (· ∈ l) j := by
  rcases gof_res hv with ⟨_, j, h1, h2⟩ | ⟨h, _⟩
  · exact ⟨j, by unfold ofP; rw [h1], h2⟩
  · exact absurd hn h
theorem ofP_clash {l : List Nd} (hv : l.all Nd.valid = true) (hn : ¬ NC (· ∈ l)) : ofP l = ([], 15) := by
  rcases gof_res hv with ⟨h, _⟩ | ⟨_, h⟩
  · exact absurd h hn
  · unfold ofP; rw [h]
theorem ofP_bad {l : List Nd} (hv : l.all Nd.valid = false) : ofP l = ([], 2) := by
  unfold ofP gOf
  rw [hv]
  rfl
theorem put_eq {l : List Nd} (hl : storeL l = true) {n : Nd} (hn : n.valid = true) : ofP (l ++ [n]) = rput l n := by
  have hs := store_sorted hl
  have hv : (l ++ [n]).all Nd.valid = true := by rw [List.all_append, store_valid hl]; simp [hn]
  by_cases hc : ∀ x ∈ l, x.d = n.d → x.clash n = false
  · obtain ⟨j, h1, h2⟩ := rput_ok hs n hc
    obtain ⟨k, h3, h4⟩ := ofP_res hv ((nc_app hs n).2 hc)
    rw [h1, h3, h4.uniq ((nc_app hs n).2 hc) (h2.congr fun x => by simp)]
  · rw [ofP_clash hv fun h => hc ((nc_app hs n).1 h)]
    simp only [Classical.not_forall] at hc
    obtain ⟨x, hx, hd, hcl⟩ := hc
    rw [rput_bad hs hx hd (by simpa using hcl)]
theorem of_self {l : List Nd} (hl : storeL l = true) : ofP l = (l, 0) := by
  have hs := store_sorted hl
  have hn : NC (· ∈ l) := fun x y hx hy e => by
    rw [sorted_dot hs hx hy e]
    exact clash_self y
  obtain ⟨j, h1, h2⟩ := ofP_res (store_valid hl) hn
  have : Res (· ∈ l) l := ⟨hs, fun y hy => hy, fun y hy z hz e z0 => by rw [← sorted_dot hs hz hy e]; exact z0, fun z hz => ⟨z, hz, rfl⟩⟩
  rw [h1, h2.uniq hn this]
theorem ofP_store {l : List Nd} (h : (ofP l).2 = 0) : storeL (ofP l).1 = true ∧ NC (· ∈ l) ∧ l.all Nd.valid = true := by
  cases hv : l.all Nd.valid
  · rw [ofP_bad hv] at h
    cases h
  · by_cases hn : NC (· ∈ l)
    · obtain ⟨j, h1, h2⟩ := ofP_res hv hn
      rw [h1]
      exact ⟨store_of_res h2 fun x hx => List.all_eq_true.1 hv x hx, hn, rfl⟩
    · rw [ofP_clash hv hn] at h
      cases h
/-- Only what nodes there are matters. -/
theorem ofP_congr {l m : List Nd} (h : ∀ x, x ∈ l ↔ x ∈ m) : ofP l = ofP m := by
  have hv : l.all Nd.valid = m.all Nd.valid := by
    rw [Bool.eq_iff_iff, List.all_eq_true, List.all_eq_true]
    exact ⟨fun q x hx => q x ((h x).2 hx), fun q x hx => q x ((h x).1 hx)⟩
  cases hm : m.all Nd.valid
  · rw [ofP_bad hm, ofP_bad (hv.trans hm)]
  · have hl := hv.trans hm
    have e : NC (· ∈ l) ↔ NC (· ∈ m) := ⟨fun q => q.sub fun x hx => (h x).2 hx, fun q => q.sub fun x hx => (h x).1 hx⟩
    by_cases hn : NC (· ∈ m)
    · obtain ⟨j, h1, h2⟩ := ofP_res hl (e.2 hn)
      obtain ⟨k, h3, h4⟩ := ofP_res hm hn
      rw [h1, h3, (h2.congr h).uniq hn h4]
    · rw [ofP_clash hm hn, ofP_clash hl fun q => hn (e.1 q)]
/-- Putting the nodes one after the other. -/
theorem put_step {p : List Nd} {n : Nd} (hv : (p ++ [n]).all Nd.valid = true) (hn : NC (· ∈ p ++ [n])) : ofP ((ofP p).1 ++ [n]) = ofP (p ++ [n]) ∧ (ofP (p ++ [n])).2 = 0 ∧ storeL (ofP p).1 = true := by
  have hv1 : p.all Nd.valid = true := by
    rw [List.all_append, Bool.and_eq_true] at hv
    exact hv.1
  obtain ⟨j, h1, h2⟩ := ofP_res hv1 (hn.sub fun x hx => by simp [hx])
  have hsj : storeL j = true := store_of_res h2 fun x hx => List.all_eq_true.1 hv1 x hx
  rw [h1]
  have hnj : NC (· ∈ j ++ [n]) := hn.sub fun x hx => by
    simp only [List.mem_append, List.mem_singleton] at hx ⊢
    exact hx.imp (h2.sub x) id
  have hvj : (j ++ [n]).all Nd.valid = true := by
    rw [List.all_append, store_valid hsj]
    rw [List.all_append, Bool.and_eq_true] at hv
    exact hv.2
  obtain ⟨k, h3, h4⟩ := ofP_res hvj hnj
  obtain ⟨m, h5, h6⟩ := ofP_res hv hn
  have h7 : Res (fun x => x ∈ p ∨ x = n) k := h2.step (h4.congr fun x => by simp)
  simp only
  rw [h3, h5, (h7.congr fun x => by simp).uniq hn h6]
  exact ⟨rfl, rfl, hsj⟩

/-! ### Finding and killing -/
def hasN (l : List Nd) (d : Dot) : Bool := l.any fun x => decide (x.d = d)
theorem hasN_iff {l : List Nd} {d : Dot} : hasN l d = true ↔ ∃ x ∈ l, x.d = d := by simp [hasN]
theorem at_found {l : List Nd} (hl : l.Pairwise ltP) (d : Dot) : (match l[kOf l d]? with
    | some x => decide (x.d = d)
    | none => false) = hasN l d := by
  rw [Bool.eq_iff_iff, hasN_iff]
  constructor
  · intro h
    split at h
    · rename_i x hx
      exact ⟨x, List.mem_of_getElem? hx, by simpa using h⟩
    · cases h
  · rintro ⟨x, hx, rfl⟩
    obtain ⟨r, hr⟩ := at_kOf hl hx
    have : l[kOf l x.d]? = some x := by
      have h := congrArg (·[0]?) hr
      simpa using h
    rw [this]
    simp
def kill1 (n : Nd) : Nd := { n with x := 0 }
def killL (l : List Nd) (ds : List Dot) : List Nd := l.map fun n => if n.d ∈ ds then kill1 n else n
theorem killL_len (l : List Nd) (ds : List Dot) : (killL l ds).length = l.length := List.length_map _
theorem killL_nil (l : List Nd) : killL l [] = l := by
  unfold killL
  simp
theorem killL_dots (l : List Nd) (ds : List Dot) : (killL l ds).map Nd.d = l.map Nd.d := by
  unfold killL
  rw [List.map_map]
  apply List.map_congr_left
  intro n _
  simp only [Function.comp]
  split <;> rfl
theorem killL_at (l : List Nd) (ds : List Dot) (i : Nat) : (killL l ds)[i]? = (l[i]?).map fun n => if n.d ∈ ds then kill1 n else n := List.getElem?_map ..
theorem sorted_dots {l m : List Nd} (h : l.map Nd.d = m.map Nd.d) (hl : l.Pairwise ltP) : m.Pairwise ltP := by
  have h1 : (l.map Nd.d).Pairwise (fun a b : Dot => a.before b = true) := List.pairwise_map.2 hl
  rw [h] at h1
  have h2 := List.pairwise_map.1 h1
  exact h2
theorem killL_sorted {l : List Nd} (hl : l.Pairwise ltP) (ds : List Dot) : (killL l ds).Pairwise ltP := sorted_dots (killL_dots l ds).symm hl
theorem kOf_dots : ∀ {l m : List Nd} (_ : l.map Nd.d = m.map Nd.d) (d : Dot), kOf l d = kOf m d
  | [], [], _, _ => rfl
  | [], _ :: _, h, _ => by simp at h
  | _ :: _, [], h, _ => by simp at h
  | x :: l, y :: m, h, d => by
    simp only [List.map_cons, List.cons.injEq] at h
    rw [kOf_cons, kOf_cons, h.1, kOf_dots h.2]
theorem hasN_dots {l m : List Nd} (h : l.map Nd.d = m.map Nd.d) (d : Dot) : hasN l d = hasN m d := by
  have e : ∀ k : List Nd, hasN k d = (k.map Nd.d).any fun a => decide (a = d) := fun k => by
    unfold hasN
    rw [List.any_map]
    rfl
  rw [e, e, h]
theorem kill_step {l : List Nd} (hl : l.Pairwise ltP) (ds : List Dot) {d : Dot} {x : Nd} (hx : (killL l ds)[kOf l d]? = some x) (hd : x.d = d) : (killL l ds).set (kOf l d) (kill1 x) = killL l (ds ++ [d]) := by
  apply List.ext_getElem?
  intro i
  rw [List.getElem?_set, killL_at]
  rw [killL_at] at hx
  obtain ⟨y, hy, hyx⟩ := Option.map_eq_some_iff.1 hx
  have hyd : y.d = d := by
    rw [← hd, ← hyx]
    split <;> rfl
  split
  · rename_i e
    subst e
    have hlt : kOf l d < (killL l ds).length := by rw [killL_len]; exact (List.getElem?_eq_some_iff.1 hy).1
    rw [if_pos hlt, killL_at, hy]
    simp only [Option.map_some, Option.some.injEq]
    rw [if_pos (by simp [hyd]), ← hyx]
    split <;> rfl
  · rename_i hne
    rw [killL_at]
    cases hi : l[i]? with
    | none => rfl
    | some z =>
      simp only [Option.map_some, Option.some.injEq]
      have : z.d ≠ d := by
        intro e
        have hzm := List.mem_of_getElem? hi
        have : z = y := sorted_dot hl hzm (List.mem_of_getElem? hy) (e.trans hyd.symm)
        subst this
        have h1 := (List.getElem?_eq_some_iff.1 hi)
        have h2 := (List.getElem?_eq_some_iff.1 hy)
        obtain ⟨p1, q1⟩ := h1
        obtain ⟨p2, q2⟩ := h2
        exact hne ((List.getElem_inj (nodup_of hl)).1 (q2.trans q1.symm))
      by_cases hm : z.d ∈ ds
      · rw [if_pos hm, if_pos (by simp [hm])]
      · rw [if_neg hm, if_neg (by simp [hm, this])]
def killP (l : List Nd) (ds : List Dot) : List Nd × Int := if ds.all (hasN l) = true then (killL l ds, 0) else ([], 9)

end Go.AM
end
/-
  Nodes: the reference of layer 9. Own work of this project; in part printed by a program of it.
-/
section
set_option linter.unusedVariables false
set_option linter.unusedSimpArgs false
set_option maxRecDepth 100000
set_option maxHeartbeats 8000000
namespace Go.AM
open Go Go.Proofs

variable {s t u : St}

theorem box_nd (s : St) (n : Nd) (hK : Keep (s.push (.row (Nd.av n) true)) t) : lod t 6 (.ptr s.next 0) = some (.agg (Nd.av n)) ∧ lod t 2 (.ptr s.next 0) = some (.agg (Dot.av n.d)) ∧ lod t 2 (.ptr s.next 2) = some (.agg (Dot.av n.p)) ∧ lod1 t (.ptr s.next 4) = some (.int .i64 n.t) ∧ lod1 t (.ptr s.next 5) = some (.int .i32 n.x) ∧ ltN s.next t := by
  have h := hK.blk (St.get_push_new s (.row (Nd.av n) true))
  refine ⟨by simp [lod, h, Nd.av], by simp [lod, h, Nd.av, Dot.av], by simp [lod, h, Nd.av, Dot.av], ?_, ?_, St.get_lt h⟩ <;> simp [lod1, h, Nd.av]
/-- What a rune can be at all. -/
def okR (x : Int) : Prop := -2147483648 ≤ x ∧ x ≤ 2147483647
def okL (l : List Nd) : Prop := ∀ n ∈ l, okR n.x
theorem fstep_kill (n : Nd) (K : List AV → Option (List AV)) : (fstep [.int .i64 0, .int .i64 0, .int .i64 0, .int .i64 0, .int .i64 0, .int .i32 0] 0 2 (.agg n.d.av) fun cs => fstep cs 2 2 (.agg n.p.av) fun cs => fstep cs 4 1 (.int .i64 n.t) K) = K (Nd.av (kill1 n)) := nrfl rfl
def scal (n : Int) : Bool := (decide (0 ≤ n) && decide (n ≤ 1114111)) && (decide (n < 55296) || decide (57343 < n))
theorem wrap_r {x : Int} (h : okR x) : IntKind.i64.wrap x = x := by
  obtain ⟨h1, h2⟩ := h
  have e : (2 : Int) ^ IntKind.i64.bits = 18446744073709551616 := by decide
  simp only [IntKind.wrap, e]
  have e2 : IntKind.i64.signed = true := rfl
  have e3 : (2 : Int) ^ (IntKind.i64.bits - 1) = 9223372036854775808 := by decide
  simp only [e2, e3]
  simp
  omega
theorem good_scal (x : Int) : (!decide (x = 0) && scal x) = goodRune x := by
  rw [Bool.eq_iff_iff]
  simp [goodRune, validRune, scal]
  omega
noncomputable def R_RScal : Con := runFn (tb []) a81
theorem s_RScal : SoundAt Tryz.prog 81 R_RScal := run_sound (tb_sound (l := []) (by simp)) mixed Tryz.func81 k81 c81
theorem n_RScal : noNxtC a81.body = true := by kernel_rfl
theorem w_RScal {s : St} (n : Int) : ∀ env : Env, elen env = a81.ntmps → (∀ i x_, [.int .i64 n][i]? = some x_ → E env i = x_) → awp (tb []) a81.body (fun x e t => (∀ i, x ≠ .exit i) ∧ aresults e t a81.results = some (.bool (scal n)) ∧ Keep s t) env s := by
  intro env hlen ha
  have h0 : E env 0 = _ := ha 0 _ rfl
  have hlen : elen env = _ := hlen
  simp only [a81] at hlen
  unfold a81
  try dsimp only [oO, oG]
  have hS : ((decide (0 ≤ n) && decide (n ≤ 1114111)) && (decide (n < 55296) || decide (57343 < n))) = scal n := rfl
  simp (config := {contextual := true, maxDischargeDepth := 12}) only [tb_at, h0, hlen, hS, ↓bD, bU, forall_const, List.all_cons, List.all_nil, Option.map_some, List.map_cons, List.map_nil, ne_eq, implies_true, isNx, eq_self, ↓wp_cond, ↓wp_loop, ↓reduceIte, reduceCtorEq, Nat.reduceEqDiff, Nat.reduceLT, Nat.reduceAdd, Nat.reduceMul, Int.ofNat_lt, Int.ofNat_le, exists_const, Option.map_none, beq_self_eq_true, decide_true, ↓sg_bsl, ↓st_callf, bX, ap_mkfn, ae_callvV, callvV_fn, List.cons_append, List.nil_append, boxV_i, boxV_dot, sto_dot, ap_conv, convV_int, bslV_0, fstep_d0, fstep_d1, bsl_dot, ae_appz, ap_cap, capV_nils, slcV_nils0, slcV_sl0, wrap_0, ae_clr, boxV_f, fstep_f, lod_new2, ↓st_appf]
  all_goals exact .refl s
theorem q_RScal (cl : Bool) {s : St} (n : Int) : acall R_RScal cl [.int .i64 n] s = some (.bool (scal n), s) := run_same n_RScal (by simp [a81]) rfl (w_RScal (s := lowd s) n)
noncomputable def R_R2Val : Con := runFn (tb [(81, R_RScal)]) a46
theorem s_R2Val : SoundAt Tryz.prog 46 R_R2Val := run_sound (tb_sound (l := [(81, R_RScal)]) (by simpa using s_RScal)) mixed Tryz.func46 k46 c46
theorem n_R2Val : noNxtC a46.body = true := by kernel_rfl
theorem w_R2Val {s : St} {r0 : Int} (hx : okR r0) : ∀ env : Env, elen env = a46.ntmps → (∀ i x_, [.int .i32 r0][i]? = some x_ → E env i = x_) → awp (tb [(81, R_RScal)]) a46.body (fun x e t => (∀ i, x ≠ .exit i) ∧ aresults e t a46.results = some (.bool (goodRune r0)) ∧ Keep s t) env s := by
  intro env hlen ha
  have h0 : E env 0 = _ := ha 0 _ rfl
  have hlen : elen env = _ := hlen
  simp only [a46] at hlen
  unfold a46
  try dsimp only [oO, oG]
  have hw := wrap_r hx
  have q := q_RScal false r0 (s := s)
  have hS := good_scal r0
  simp (config := {contextual := true, maxDischargeDepth := 12}) only [tb_at, h0, hlen, hw, q, hS, ↓bD, bU, forall_const, List.all_cons, List.all_nil, Option.map_some, List.map_cons, List.map_nil, ne_eq, implies_true, isNx, eq_self, ↓wp_cond, ↓wp_loop, ↓reduceIte, reduceCtorEq, Nat.reduceEqDiff, Nat.reduceLT, Nat.reduceAdd, Nat.reduceMul, Int.ofNat_lt, Int.ofNat_le, exists_const, Option.map_none, beq_self_eq_true, decide_true, ↓sg_bsl, ↓st_callf, bX, ap_mkfn, ae_callvV, callvV_fn, List.cons_append, List.nil_append, boxV_i, boxV_dot, sto_dot, ap_conv, convV_int, bslV_0, fstep_d0, fstep_d1, bsl_dot, ae_appz, ap_cap, capV_nils, slcV_nils0, slcV_sl0, wrap_0, ae_clr, boxV_f, fstep_f, lod_new2, ↓st_appf]
  all_goals exact .refl s
theorem q_R2Val (cl : Bool) {s : St} {r0 : Int} (hx : okR r0) : acall R_R2Val cl [.int .i32 r0] s = some (.bool (goodRune r0), s) := run_same n_R2Val (by simp [a46]) rfl (w_R2Val (s := lowd s) hx)
noncomputable def R_RRoot : Con := runFn (tb []) a45
theorem s_RRoot : SoundAt Tryz.prog 45 R_RRoot := run_sound (tb_sound (l := []) (by simp)) mixed Tryz.func45 k45 c45
theorem n_RRoot : noNxtC a45.body = true := by kernel_rfl
theorem w_RRoot {s : St} (d : Dot) : ∀ env : Env, elen env = a45.ntmps → (∀ i x_, [.agg (Dot.av d)][i]? = some x_ → E env i = x_) → awp (tb []) a45.body (fun x e t => (∀ i, x ≠ .exit i) ∧ aresults e t a45.results = some (.bool d.root) ∧ Keep s t) env s := by
  intro env hlen ha
  have h0 : E env 0 = _ := ha 0 _ rfl
  have hlen : elen env = _ := hlen
  simp only [a45] at hlen
  unfold a45
  try dsimp only [oO, oG]
  obtain ⟨b1, b2, b3, b4⟩ := box_dot s d (.refl _)
  have hS : (decide (d.r = 0) && decide (d.c = 0)) = d.root := by simp [Dot.root, Dot.mk_eq]
  simp (config := {contextual := true, maxDischargeDepth := 12}) only [tb_at, h0, hlen, b1, b2, b3, b4, hS, ↓bD, bU, forall_const, List.all_cons, List.all_nil, Option.map_some, List.map_cons, List.map_nil, ne_eq, implies_true, isNx, eq_self, ↓wp_cond, ↓wp_loop, ↓reduceIte, reduceCtorEq, Nat.reduceEqDiff, Nat.reduceLT, Nat.reduceAdd, Nat.reduceMul, Int.ofNat_lt, Int.ofNat_le, exists_const, Option.map_none, beq_self_eq_true, decide_true, ↓sg_bsl, ↓st_callf, bX, ap_mkfn, ae_callvV, callvV_fn, List.cons_append, List.nil_append, boxV_i, boxV_dot, sto_dot, ap_conv, convV_int, bslV_0, fstep_d0, fstep_d1, bsl_dot, ae_appz, ap_cap, capV_nils, slcV_nils0, slcV_sl0, wrap_0, ae_clr, boxV_f, fstep_f, lod_new2, ↓st_appf]
  all_goals exact (Keep.refl s).push _
theorem q_RRoot (cl : Bool) {s : St} (d : Dot) : acall R_RRoot cl [.agg (Dot.av d)] s = some (.bool d.root, s) := run_same n_RRoot (by simp [a45]) rfl (w_RRoot (s := lowd s) d)
noncomputable def R_RNVal : Con := runFn (tb [(12, R_RDVal), (45, R_RRoot), (46, R_R2Val)]) a14
theorem s_RNVal : SoundAt Tryz.prog 14 R_RNVal := run_sound (tb_sound (l := [(12, R_RDVal), (45, R_RRoot), (46, R_R2Val)]) (by simpa using ⟨s_RDVal, s_RRoot, s_R2Val⟩)) mixed Tryz.func14 k14 c14
theorem n_RNVal : noNxtC a14.body = true := by kernel_rfl
theorem w_RNVal {s : St} {n : Nd} (hx : okR n.x) : ∀ env : Env, elen env = a14.ntmps → (∀ i x_, [.agg (Nd.av n)][i]? = some x_ → E env i = x_) → awp (tb [(12, R_RDVal), (45, R_RRoot), (46, R_R2Val)]) a14.body (fun x e t => (∀ i, x ≠ .exit i) ∧ aresults e t a14.results = some (.bool n.valid) ∧ Keep s t) env s := by
  intro env hlen ha
  have h0 : E env 0 = _ := ha 0 _ rfl
  have hlen : elen env = _ := hlen
  simp only [a14] at hlen
  unfold a14
  try dsimp only [oO, oG]
  have hK : Keep s (s.push (.row (Nd.av n) true)) := (Keep.refl s).push _
  obtain ⟨b1, b2, b3, b4, b5, b6⟩ := box_nd s n (.refl _)
  have q1 := q_RDVal false n.d (s := s.push (.row (Nd.av n) true))
  have q2 := q_RDVal false n.p (s := s.push (.row (Nd.av n) true))
  have q3 := q_RRoot false n.p (s := s.push (.row (Nd.av n) true))
  have q4 := q_R2Val false hx (s := s.push (.row (Nd.av n) true))
  simp (config := {contextual := true, maxDischargeDepth := 12}) only [tb_at, h0, hlen, b1, b2, b3, b4, b5, b6, q1, q2, q3, q4, notV_bool, ↓bD, bU, forall_const, List.all_cons, List.all_nil, Option.map_some, List.map_cons, List.map_nil, ne_eq, implies_true, isNx, eq_self, ↓wp_cond, ↓wp_loop, ↓reduceIte, reduceCtorEq, Nat.reduceEqDiff, Nat.reduceLT, Nat.reduceAdd, Nat.reduceMul, Int.ofNat_lt, Int.ofNat_le, exists_const, Option.map_none, beq_self_eq_true, decide_true, ↓sg_bsl, ↓st_callf, bX, ap_mkfn, ae_callvV, callvV_fn, List.cons_append, List.nil_append, boxV_i, boxV_dot, sto_dot, ap_conv, convV_int, bslV_0, fstep_d0, fstep_d1, bsl_dot, ae_appz, ap_cap, capV_nils, slcV_nils0, slcV_sl0, wrap_0, ae_clr, boxV_f, fstep_f, lod_new2, ↓st_appf]
  refine ⟨fun h => ?_, fun h => ?_⟩
  all_goals
    simp only [Option.some.injEq, AV.bool.injEq]
    rw [Bool.eq_iff_iff]
    simp only [Nd.valid, Bool.and_eq_true, Bool.or_eq_true, Bool.not_eq_true', Bool.or_eq_false_iff, Bool.and_eq_false_imp, decide_eq_true_eq, decide_eq_false_iff_not, Bool.false_eq_true] at h ⊢
    grind
theorem q_RNVal (cl : Bool) {s : St} {n : Nd} (hx : okR n.x) : acall R_RNVal cl [.agg (Nd.av n)] s = some (.bool n.valid, s) := run_same n_RNVal (by simp [a14]) rfl (w_RNVal (s := lowd s) hx)
noncomputable def R_RNKill : Con := runFn (tb []) a48
theorem s_RNKill : SoundAt Tryz.prog 48 R_RNKill := run_sound (tb_sound (l := []) (by simp)) mixed Tryz.func48 k48 c48
theorem n_RNKill : noNxtC a48.body = true := by kernel_rfl
theorem w_RNKill {s : St} (n : Nd) : ∀ env : Env, elen env = a48.ntmps → (∀ i x_, [.agg (Nd.av n)][i]? = some x_ → E env i = x_) → awp (tb []) a48.body (fun x e t => (∀ i, x ≠ .exit i) ∧ aresults e t a48.results = some (.agg (Nd.av (kill1 n))) ∧ Keep s t) env s := by
  intro env hlen ha
  have h0 : E env 0 = _ := ha 0 _ rfl
  have hlen : elen env = _ := hlen
  simp only [a48] at hlen
  unfold a48
  try dsimp only [oO, oG]
  have hK : Keep s (s.push (.row (Nd.av n) true)) := (Keep.refl s).push _
  obtain ⟨b1, b2, b3, b4, b5, b6⟩ := box_nd s n (.refl _)
  simp (config := {contextual := true, maxDischargeDepth := 12}) only [tb_at, h0, hlen, b1, b2, b3, b4, b5, b6, fstep_kill, ↓bD, bU, forall_const, List.all_cons, List.all_nil, Option.map_some, List.map_cons, List.map_nil, ne_eq, implies_true, isNx, eq_self, ↓wp_cond, ↓wp_loop, ↓reduceIte, reduceCtorEq, Nat.reduceEqDiff, Nat.reduceLT, Nat.reduceAdd, Nat.reduceMul, Int.ofNat_lt, Int.ofNat_le, exists_const, Option.map_none, beq_self_eq_true, decide_true, ↓sg_bsl, ↓st_callf, bX, ap_mkfn, ae_callvV, callvV_fn, List.cons_append, List.nil_append, boxV_i, boxV_dot, sto_dot, ap_conv, convV_int, bslV_0, fstep_d0, fstep_d1, bsl_dot, ae_appz, ap_cap, capV_nils, slcV_nils0, slcV_sl0, wrap_0, ae_clr, boxV_f, fstep_f, lod_new2, ↓st_appf]
  all_goals first | exact ⟨rfl, hK.push _⟩ | skip
theorem q_RNKill (cl : Bool) {s : St} (n : Nd) : acall R_RNKill cl [.agg (Nd.av n)] s = some (.agg (Nd.av (kill1 n)), s) := run_same n_RNKill (by simp [a48]) rfl (w_RNKill (s := lowd s) n)
noncomputable def R_RNAgree : Con := runFn (tb []) a67
theorem s_RNAgree : SoundAt Tryz.prog 67 R_RNAgree := run_sound (tb_sound (l := []) (by simp)) mixed Tryz.func67 k67 c67
theorem n_RNAgree : noNxtC a67.body = true := by kernel_rfl
theorem w_RNAgree {s : St} (a b : Nd) : ∀ env : Env, elen env = a67.ntmps → (∀ i x_, [.agg (Nd.av a), .agg (Nd.av b)][i]? = some x_ → E env i = x_) → awp (tb []) a67.body (fun x e t => (∀ i, x ≠ .exit i) ∧ aresults e t a67.results = some (.bool (!a.clash b)) ∧ Keep s t) env s := by
  intro env hlen ha
  have h0 : E env 0 = _ := ha 0 _ rfl
  have h1 : E env 1 = _ := ha 1 _ rfl
  have hlen : elen env = _ := hlen
  simp only [a67] at hlen
  unfold a67
  try dsimp only [oO, oG]
  have hK1 : Keep s (s.push (.row (Nd.av a) true)) := (Keep.refl s).push _
  have hK2 : Keep (s.push (.row (Nd.av a) true)) ((s.push (.row (Nd.av a) true)).push (.row (Nd.av b) true)) := (Keep.refl _).push _
  obtain ⟨b1, b2, b3, b4, b5, b6⟩ := box_nd s a hK2
  obtain ⟨c1, c2, c3, c4, c5, c6⟩ := box_nd (s.push (.row (Nd.av a) true)) b (.refl _)
  have hS : (((decide (a.d = b.d) && decide (a.p = b.p)) && decide (a.t = b.t)) && ((decide (a.x = b.x) || decide (a.x = 0)) || decide (b.x = 0))) = !a.clash b := by
    rw [Bool.eq_iff_iff]
    simp only [Nd.clash, Bool.not_not, Bool.and_eq_true, Bool.or_eq_true, decide_eq_true_eq]
    grind
  simp (config := {contextual := true, maxDischargeDepth := 12}) only [tb_at, h0, h1, hlen, hS, b1, b2, b3, b4, b5, b6, c1, c2, c3, c4, c5, c6, ↓bD, bU, forall_const, List.all_cons, List.all_nil, Option.map_some, List.map_cons, List.map_nil, ne_eq, implies_true, isNx, eq_self, ↓wp_cond, ↓wp_loop, ↓reduceIte, reduceCtorEq, Nat.reduceEqDiff, Nat.reduceLT, Nat.reduceAdd, Nat.reduceMul, Int.ofNat_lt, Int.ofNat_le, exists_const, Option.map_none, beq_self_eq_true, decide_true, ↓sg_bsl, ↓st_callf, bX, ap_mkfn, ae_callvV, callvV_fn, List.cons_append, List.nil_append, boxV_i, boxV_dot, sto_dot, ap_conv, convV_int, bslV_0, fstep_d0, fstep_d1, bsl_dot, ae_appz, ap_cap, capV_nils, slcV_nils0, slcV_sl0, wrap_0, ae_clr, boxV_f, fstep_f, lod_new2, ↓st_appf]
  all_goals exact hK1.trans hK2
theorem q_RNAgree (cl : Bool) {s : St} (a b : Nd) : acall R_RNAgree cl [.agg (Nd.av a), .agg (Nd.av b)] s = some (.bool (!a.clash b), s) := run_same n_RNAgree (by simp [a67]) rfl (w_RNAgree (s := lowd s) a b)

def rmergeV (a b : Nd) : AV := if a.clash b = true then .tup [.agg (Nd.av nd0), .int .i64 15] else .tup [.agg (Nd.av (pmerge a b)), .int .i64 0]
noncomputable def R_RNMerge : Con := runFn (tb [(67, R_RNAgree)]) a47
theorem s_RNMerge : SoundAt Tryz.prog 47 R_RNMerge := run_sound (tb_sound (l := [(67, R_RNAgree)]) (by simpa using s_RNAgree)) mixed Tryz.func47 k47 c47
theorem n_RNMerge : noNxtC a47.body = true := by kernel_rfl
theorem w_RNMerge {s : St} (a b : Nd) : ∀ env : Env, elen env = a47.ntmps → (∀ i x_, [.agg (Nd.av a), .agg (Nd.av b)][i]? = some x_ → E env i = x_) → awp (tb [(67, R_RNAgree)]) a47.body (fun x e t => (∀ i, x ≠ .exit i) ∧ aresults e t a47.results = some (rmergeV a b) ∧ Keep s t) env s := by
  intro env hlen ha
  have h0 : E env 0 = _ := ha 0 _ rfl
  have h1 : E env 1 = _ := ha 1 _ rfl
  have hlen : elen env = _ := hlen
  simp only [a47] at hlen
  unfold a47
  try dsimp only [oO, oG]
  have hK1 : Keep s (s.push (.row (Nd.av a) true)) := (Keep.refl s).push _
  have hK2 : Keep (s.push (.row (Nd.av a) true)) ((s.push (.row (Nd.av a) true)).push (.row (Nd.av b) true)) := (Keep.refl _).push _
  obtain ⟨b1, b2, b3, b4, b5, b6⟩ := box_nd s a hK2
  obtain ⟨c1, c2, c3, c4, c5, c6⟩ := box_nd (s.push (.row (Nd.av a) true)) b (.refl _)
  cases hc : a.clash b
  · have hq : ∀ u : St, acall R_RNAgree false [.agg (Nd.av a), .agg (Nd.av b)] u = some (.bool true, u) := fun u => by rw [q_RNAgree, hc]; rfl
    by_cases hx : a.x = 0
    · have hz := eq_true hx
      have hS : rmergeV a b = .tup [.agg (Nd.av a), .int .i64 0] := by simp [rmergeV, hc, pmerge, hx]
      simp (config := {contextual := true, maxDischargeDepth := 12}) only [tb_at, h0, h1, hlen, hq, hz, notV_bool, Bool.not_false, Bool.not_true, b1, b2, b3, b4, b5, b6, c1, c2, c3, c4, c5, c6, ↓bD, bU, forall_const, List.all_cons, List.all_nil, Option.map_some, List.map_cons, List.map_nil, ne_eq, implies_true, isNx, eq_self, ↓wp_cond, ↓wp_loop, ↓reduceIte, reduceCtorEq, Nat.reduceEqDiff, Nat.reduceLT, Nat.reduceAdd, Nat.reduceMul, Int.ofNat_lt, Int.ofNat_le, exists_const, Option.map_none, beq_self_eq_true, decide_true, ↓sg_bsl, ↓st_callf, bX, ap_mkfn, ae_callvV, callvV_fn, List.cons_append, List.nil_append, boxV_i, boxV_dot, sto_dot, ap_conv, convV_int, bslV_0, fstep_d0, fstep_d1, bsl_dot, ae_appz, ap_cap, capV_nils, slcV_nils0, slcV_sl0, wrap_0, ae_clr, boxV_f, fstep_f, lod_new2, ↓st_appf]
      all_goals first | exact congrArg some hS.symm | skip
    · have hz := eq_false hx
      have hS : rmergeV a b = .tup [.agg (Nd.av b), .int .i64 0] := by simp [rmergeV, hc, pmerge, hx]
      simp (config := {contextual := true, maxDischargeDepth := 12}) only [tb_at, h0, h1, hlen, hq, hz, notV_bool, Bool.not_false, Bool.not_true, b1, b2, b3, b4, b5, b6, c1, c2, c3, c4, c5, c6, ↓bD, bU, forall_const, List.all_cons, List.all_nil, Option.map_some, List.map_cons, List.map_nil, ne_eq, implies_true, isNx, eq_self, ↓wp_cond, ↓wp_loop, ↓reduceIte, reduceCtorEq, Nat.reduceEqDiff, Nat.reduceLT, Nat.reduceAdd, Nat.reduceMul, Int.ofNat_lt, Int.ofNat_le, exists_const, Option.map_none, beq_self_eq_true, decide_true, ↓sg_bsl, ↓st_callf, bX, ap_mkfn, ae_callvV, callvV_fn, List.cons_append, List.nil_append, boxV_i, boxV_dot, sto_dot, ap_conv, convV_int, bslV_0, fstep_d0, fstep_d1, bsl_dot, ae_appz, ap_cap, capV_nils, slcV_nils0, slcV_sl0, wrap_0, ae_clr, boxV_f, fstep_f, lod_new2, ↓st_appf]
      all_goals first | exact congrArg some hS.symm | skip
  · have hq : ∀ u : St, acall R_RNAgree false [.agg (Nd.av a), .agg (Nd.av b)] u = some (.bool false, u) := fun u => by rw [q_RNAgree, hc]; rfl
    have hS : rmergeV a b = .tup [.agg (Nd.av nd0), .int .i64 15] := by simp [rmergeV, hc]
    simp (config := {contextual := true, maxDischargeDepth := 12}) only [tb_at, h0, h1, hlen, hq, notV_bool, Bool.not_false, Bool.not_true, b1, b2, b3, b4, b5, b6, c1, c2, c3, c4, c5, c6, ↓bD, bU, forall_const, List.all_cons, List.all_nil, Option.map_some, List.map_cons, List.map_nil, ne_eq, implies_true, isNx, eq_self, ↓wp_cond, ↓wp_loop, ↓reduceIte, reduceCtorEq, Nat.reduceEqDiff, Nat.reduceLT, Nat.reduceAdd, Nat.reduceMul, Int.ofNat_lt, Int.ofNat_le, exists_const, Option.map_none, beq_self_eq_true, decide_true, ↓sg_bsl, ↓st_callf, bX, ap_mkfn, ae_callvV, callvV_fn, List.cons_append, List.nil_append, boxV_i, boxV_dot, sto_dot, ap_conv, convV_int, bslV_0, fstep_d0, fstep_d1, bsl_dot, ae_appz, ap_cap, capV_nils, slcV_nils0, slcV_sl0, wrap_0, ae_clr, boxV_f, fstep_f, lod_new2, ↓st_appf]
    all_goals first | exact congrArg some hS.symm | skip
theorem rmergeV_ground (a b : Nd) : (rmergeV a b).ground = true := by
  unfold rmergeV
  split <;> rfl
theorem q_RNMerge (cl : Bool) {s : St} (a b : Nd) : acall R_RNMerge cl [.agg (Nd.av a), .agg (Nd.av b)] s = some (rmergeV a b, s) := run_same n_RNMerge (by simp [a47]) (rmergeV_ground a b) (w_RNMerge (s := lowd s) a b)

end Go.AM
end
/-
  Lists of nodes: Clone, Equal, IndexFunc, Grow, Concat, DeleteFunc; as for lists of dots. Own work of this project; in part printed by a program of it.
-/
section
set_option linter.unusedVariables false
set_option linter.unusedSimpArgs false
set_option maxRecDepth 100000
set_option maxHeartbeats 8000000
namespace Go.AM
open Go Go.Proofs

variable {s t u : St}
theorem read_groundN {v : AV} {l : List Nd} (h : read ndC s v = some l) (hg : v.ground = true) : v = .nils ∧ l = [] := by
  cases v <;> simp_all [read, AV.ground, AV.plains, AV.plain]
theorem bslV_0N : bslV [] 0 6 [] = some (fun id => .sl id 0 0 (some 0) 6, .row [] true) := nrfl rfl
theorem app_cloneN {v : AV} {l : List Nd} (hr : read ndC s v = some l) (hl : l.length ≤ lim) : ∃ v' t, appV (s.push (.row [] true)) 6 48 (.sl s.next 0 0 (some 0) 6) v = some (v', t) ∧ (NewX ndC s t v' l ∧ CapOK v') ∧ Keep s t := by
  have hK : Keep s (s.push (.row [] true)) := (Keep.refl s).push _
  have hr1 := hK.read hr
  have h2 : ndC.sz = 6 := rfl
  simp only [appV]
  rw [← h2, read_shown hr1, read_len hr1]
  simp only [aappend, if_true, St.get_push_new]
  by_cases h0 : l.length = 0
  · have : l = [] := List.length_eq_zero_iff.1 h0
    subst this
    exact ⟨_, _, if_pos (rfl : ([] : List Nd).length = 0), ⟨.inr ⟨s.next, some 0, rfl, Nat.le_refl _, St.get_push_new _ _⟩, fun _ _ _ _ _ h => by injection h with _ _ h; omega⟩, hK⟩
  · rw [if_neg h0, if_pos ⟨by simp, by unfold lim at hl; unfold roomBytes; omega⟩, if_neg (by omega)]
    refine ⟨_, _, rfl, ⟨.inr ⟨_, none, by rw [Nat.zero_add], hK.next, ?_⟩, fun _ _ _ _ _ h => by cases h⟩, hK.push _⟩
    rw [St.get_push_new]
    simp
noncomputable def R_SClN : Con := runFn (tb []) a72
theorem s_SClN : SoundAt Tryz.prog 72 R_SClN := run_sound (tb_sound (l := []) (by simp)) mixed Tryz.func72 k72 c72
theorem n_SClN : noNxtC a72.body = true := by kernel_rfl
theorem w_SClN {s : St} {v : AV} {l : List Nd} (hr : read ndC s v = some l) (hl : l.length ≤ lim) : ∀ env : Env, elen env = a72.ntmps → (∀ i x_, [v][i]? = some x_ → E env i = x_) → awp (tb []) a72.body (fun x e t => (∀ i, x ≠ .exit i) ∧ ∃ r, aresults e t a72.results = some r ∧ (NewX ndC s t r l ∧ CapOK r) ∧ Keep s t) env s := by
  intro env hlen ha
  have h0 : E env 0 = _ := ha 0 _ rfl
  have hlen : elen env = _ := hlen
  simp only [a72] at hlen
  unfold a72
  try dsimp only [oO, oG]
  cases v with
  | nils =>
    rw [read_nils] at hr
    injection hr with hr
    subst hr
    simp (config := {contextual := true, maxDischargeDepth := 12}) only [tb_at, h0, hlen, ↓bD, bU, forall_const, List.all_cons, List.all_nil, Option.map_some, List.map_cons, List.map_nil, ne_eq, implies_true, isNx, eq_self, ↓wp_cond, ↓wp_loop, ↓reduceIte, reduceCtorEq, Nat.reduceEqDiff, Nat.reduceLT, Nat.reduceAdd, Nat.reduceMul, Int.ofNat_lt, Int.ofNat_le, exists_const, Option.map_none, beq_self_eq_true, decide_true, ↓sg_bsl, ↓st_callf, bX, ap_mkfn, ae_callvV, callvV_fn, List.cons_append, List.nil_append, boxV_i, boxV_nd, sto_dot, ap_conv, convV_int, bslV_0N]
    first | exact ⟨_, rfl, ⟨.nil _ _ _, .nils⟩, .refl s⟩ | exact ⟨_, rfl, .nil _ _ _, .nils⟩
  | sl id off n cap z =>
    obtain ⟨v', t, hap, hN, hK⟩ := app_cloneN hr hl
    simp (config := {contextual := true, maxDischargeDepth := 12}) only [tb_at, h0, hlen, hap, ↓bD, bU, forall_const, List.all_cons, List.all_nil, Option.map_some, List.map_cons, List.map_nil, ne_eq, implies_true, isNx, eq_self, ↓wp_cond, ↓wp_loop, ↓reduceIte, reduceCtorEq, Nat.reduceEqDiff, Nat.reduceLT, Nat.reduceAdd, Nat.reduceMul, Int.ofNat_lt, Int.ofNat_le, exists_const, Option.map_none, beq_self_eq_true, decide_true, ↓sg_bsl, ↓st_callf, bX, ap_mkfn, ae_callvV, callvV_fn, List.cons_append, List.nil_append, boxV_i, boxV_nd, sto_dot, ap_conv, convV_int, bslV_0N]
    exact ⟨_, rfl, hN, hK⟩
  | _ => simp [read] at hr
theorem q_SClN {s : St} {v : AV} {l : List Nd} (hr : read ndC s v = some l) (hl : l.length ≤ lim) : ∃ v' t, acall R_SClN false [v] s = some (v', t) ∧ (NewX ndC s t v' l ∧ CapOK v') ∧ Keep s t :=
  run_any n_SClN (by simp [a72]) (fun r t t' hg hn hq => ⟨hq.1.mono fun id b hb => by rw [hg]; exact hb, hq.2⟩) (fun r t hgr hk hq => by obtain ⟨rfl, rfl⟩ := hq.1.ground hgr; exact ⟨.nil _ _ _, .nils⟩) (w_SClN (s := lowd s) (read_low' hr) hl)
def idxN (l : List Nd) (p : Nd → Bool) : Int := match l.findIdx? p with
  | some i => (i : Int)
  | none => -1
theorem idxN_hit {l : List Nd} {p : Nd → Bool} {i : Nat} {x : Nd} (hx : l[i]? = some x) (hp : p x = true) (h : ∀ k y, k < i → l[k]? = some y → p y = false) : idxN l p = (i : Int) := by
  unfold idxN
  have hlt := getlt hx
  have e : l.findIdx? p = some i := by
    rw [List.findIdx?_eq_some_iff_getElem]
    refine ⟨hlt, ?_, fun j hj => ?_⟩
    · rw [List.getElem?_eq_getElem hlt] at hx
      injection hx with hx
      rw [hx, hp]
    · have := h j l[j] hj (List.getElem?_eq_getElem (by omega))
      simp [this]
  rw [e]
theorem idxN_miss {l : List Nd} {p : Nd → Bool} (h : ∀ k y, k < l.length → l[k]? = some y → p y = false) : idxN l p = -1 := by
  unfold idxN
  have e : l.findIdx? p = none := by
    rw [List.findIdx?_eq_none_iff]
    intro x hx
    obtain ⟨k, hk⟩ := List.getElem?_of_mem hx
    exact h k x (getlt hk) hk
  rw [e]
theorem idxN_ge (l : List Nd) (p : Nd → Bool) : (0 ≤ idxN l p) = (l.any p = true) := by
  unfold idxN
  cases h : l.findIdx? p with
  | none =>
    rw [List.findIdx?_eq_none_iff] at h
    simp only [eq_iff_iff]
    constructor
    · intro q; omega
    · intro q
      obtain ⟨x, hx, hp⟩ := List.any_eq_true.1 q
      rw [h x hx] at hp
      cases hp
  | some i =>
    rw [List.findIdx?_eq_some_iff_getElem] at h
    obtain ⟨h1, h2, _⟩ := h
    simp only [eq_iff_iff]
    exact ⟨fun _ => List.any_eq_true.2 ⟨l[i], by simp, h2⟩, fun _ => by omega⟩
theorem read_oneN {v : AV} {l : List Nd} (h : read ndC s v = some l) : v.cells = [v] ∧ v.one = true := by
  cases v <;> simp_all [read, AV.cells, AV.one]
noncomputable def R_EqN : Con := runFn (tb []) a66
theorem s_EqN : SoundAt Tryz.prog 66 R_EqN := run_sound (tb_sound (l := []) (by simp)) mixed Tryz.func66 k66 c66
theorem n_EqN : noNxtC a66.body = true := by kernel_rfl
theorem w_EqN {s : St} {v : AV} {l : List Nd} (hr : read ndC s v = some l) (hl : l.length ≤ lim) {w : AV} {m : List Nd} (hrw : read ndC s w = some m) (hm : m.length ≤ lim) : ∀ env : Env, elen env = a66.ntmps → (∀ i x_, [v, w][i]? = some x_ → E env i = x_) → awp (tb []) a66.body (fun x e t => (∀ i, x ≠ .exit i) ∧ aresults e t a66.results = some (.bool (decide (l = m))) ∧ Keep s t) env s := by
  intro env hlen ha
  have h0 : E env 0 = _ := ha 0 _ rfl
  have h1 : E env 1 = _ := ha 1 _ rfl
  have hlen : elen env = _ := hlen
  simp only [a66] at hlen
  unfold a66
  try dsimp only [oO, oG]
  have hL := lenV_read hr
  have hM := lenV_read hrw
  by_cases hlm : l.length = m.length
  · have hz : ((l.length : Int) = (m.length : Int)) = True := eq_true (by omega)
    simp (config := {contextual := true, maxDischargeDepth := 12}) only [tb_at, h0, h1, hlen, hL, hM, hz, ↓bD, bU, forall_const, List.all_cons, List.all_nil, Option.map_some, List.map_cons, List.map_nil, ne_eq, implies_true, isNx, eq_self, ↓wp_cond, ↓wp_loop, ↓reduceIte, reduceCtorEq, Nat.reduceEqDiff, Nat.reduceLT, Nat.reduceAdd, Nat.reduceMul, Int.ofNat_lt, Int.ofNat_le, exists_const, Option.map_none, beq_self_eq_true, decide_true, ↓sg_bsl, ↓st_callf, bX, ap_mkfn, ae_callvV, callvV_fn, List.cons_append, List.nil_append, boxV_i]
    obtain ⟨I, hI⟩ : ∃ I : Nat → Env → St → Prop, ∀ n e t, I n e t = (t = s ∧ ∃ i : Nat, n + i = l.length ∧ elen e = 26 ∧ E e 0 = v ∧ E e 1 = w ∧ E e 12 = .int .i64 (l.length : Int) ∧ E e 13 = .int .i64 (i : Int) ∧ ∀ k y, k < i → l[k]? = some y → m[k]? = some y) := ⟨fun n e t => (t = s ∧ ∃ i : Nat, n + i = l.length ∧ elen e = 26 ∧ E e 0 = v ∧ E e 1 = w ∧ E e 12 = .int .i64 (l.length : Int) ∧ E e 13 = .int .i64 (i : Int) ∧ ∀ k y, k < i → l[k]? = some y → m[k]? = some y), fun _ _ _ => rfl⟩
    refine lwp_inv I (n := l.length) ?_ ?_
    · rw [hI]
      exact ⟨rfl, 0, by omega, (by simp only [bE, Nat.reduceEqDiff, ne_eq, not_false_eq_true, Nat.reduceLT, hlen]; try rfl), (by simp only [bE, Nat.reduceEqDiff, ne_eq, not_false_eq_true, Nat.reduceLT, hlen, h0]; try rfl), (by simp only [bE, Nat.reduceEqDiff, ne_eq, not_false_eq_true, Nat.reduceLT, hlen, h1]; try rfl), (by simp only [bE, Nat.reduceEqDiff, ne_eq, not_false_eq_true, Nat.reduceLT, hlen, hL]; try rfl), (by simp only [bE, Nat.reduceEqDiff, ne_eq, not_false_eq_true, Nat.reduceLT, hlen]; try rfl), fun k y hk => by omega⟩
    intro n e t hi
    rw [hI] at hi
    obtain ⟨hK, i, hni, he, e0, e1, e12, e13, hpre⟩ := hi
    subst hK
    by_cases hlt : i < l.length
    · obtain ⟨x, hx⟩ := getsome hlt
      obtain ⟨y, hy⟩ := getsome (l := m) (i := i) (by omega)
      have hw2 := wrap_add1 (n := i) (by unfold lim at hl; omega)
      obtain ⟨a1, a2, a3, a4x, a4y, a4⟩ := nd_lods hr (.refl _) hx
      have i1 := nd_idx hr hx .i64
      obtain ⟨b1, b2, b3, b4x, b4y, b4⟩ := nd_lods hrw (.refl _) hy
      have i2 := nd_idx hrw hy .i64
      by_cases hp : x = y
      · have hz := eq_true hp
        simp (config := {contextual := true, maxDischargeDepth := 12}) only [tb_at, he, e0, e1, e12, e13, hL, hM, hlt, hw2, a1, i1, b1, i2, hz, reserve0, ↓bD, bU, forall_const, List.all_cons, List.all_nil, Option.map_some, List.map_cons, List.map_nil, ne_eq, implies_true, isNx, eq_self, ↓wp_cond, ↓wp_loop, ↓reduceIte, reduceCtorEq, Nat.reduceEqDiff, Nat.reduceLT, Nat.reduceAdd, Nat.reduceMul, Int.ofNat_lt, Int.ofNat_le, exists_const, Option.map_none, beq_self_eq_true, decide_true, ↓sg_bsl, ↓st_callf, bX, ap_mkfn, ae_callvV, callvV_fn, List.cons_append, List.nil_append, boxV_i]
        refine ⟨n - 1, by omega, ?_⟩
        rw [hI]
        exact ⟨rfl, i + 1, by omega, (by simp only [bE, Nat.reduceEqDiff, ne_eq, not_false_eq_true, Nat.reduceLT, he, e0, e1, e12, e13]; try rfl), (by simp only [bE, Nat.reduceEqDiff, ne_eq, not_false_eq_true, Nat.reduceLT, he, e0, e1, e12, e13]; try rfl), (by simp only [bE, Nat.reduceEqDiff, ne_eq, not_false_eq_true, Nat.reduceLT, he, e0, e1, e12, e13]; try rfl), (by simp only [bE, Nat.reduceEqDiff, ne_eq, not_false_eq_true, Nat.reduceLT, he, e0, e1, e12, e13]; try rfl), (by simp only [bE, Nat.reduceEqDiff, ne_eq, not_false_eq_true, Nat.reduceLT, he, e0, e1, e12, e13]; try rfl), pre_next (P := fun k y => m[k]? = some y) hx hpre (by rw [hp]; exact hy)⟩
      · have hz := eq_false hp
        have hS : decide (l = m) = false := decide_eq_false (ne_at hx hy hp)
        simp (config := {contextual := true, maxDischargeDepth := 12}) only [tb_at, he, e0, e1, e12, e13, hL, hM, hlt, hw2, a1, i1, b1, i2, hz, hS, reserve0, ↓bD, bU, forall_const, List.all_cons, List.all_nil, Option.map_some, List.map_cons, List.map_nil, ne_eq, implies_true, isNx, eq_self, ↓wp_cond, ↓wp_loop, ↓reduceIte, reduceCtorEq, Nat.reduceEqDiff, Nat.reduceLT, Nat.reduceAdd, Nat.reduceMul, Int.ofNat_lt, Int.ofNat_le, exists_const, Option.map_none, beq_self_eq_true, decide_true, ↓sg_bsl, ↓st_callf, bX, ap_mkfn, ae_callvV, callvV_fn, List.cons_append, List.nil_append, boxV_i]
        all_goals first | exact .refl _ | skip
    · obtain rfl : i = l.length := by omega
      have hS : decide (l = m) = true := decide_eq_true (eq_of_at hlm fun k x y hx hy => by
        have := hpre k x (getlt hx) hx
        rw [hy] at this
        exact (Option.some.inj this).symm)
      simp (config := {contextual := true, maxDischargeDepth := 12}) only [tb_at, he, e0, e1, e12, e13, hL, hM, hlt, hS, ↓bD, bU, forall_const, List.all_cons, List.all_nil, Option.map_some, List.map_cons, List.map_nil, ne_eq, implies_true, isNx, eq_self, ↓wp_cond, ↓wp_loop, ↓reduceIte, reduceCtorEq, Nat.reduceEqDiff, Nat.reduceLT, Nat.reduceAdd, Nat.reduceMul, Int.ofNat_lt, Int.ofNat_le, exists_const, Option.map_none, beq_self_eq_true, decide_true, ↓sg_bsl, ↓st_callf, bX, ap_mkfn, ae_callvV, callvV_fn, List.cons_append, List.nil_append, boxV_i]
      all_goals first | exact .refl _ | skip
  · have hz : ((l.length : Int) = (m.length : Int)) = False := eq_false (by omega)
    have hS : decide (l = m) = false := decide_eq_false fun h => hlm (by rw [h])
    simp (config := {contextual := true, maxDischargeDepth := 12}) only [tb_at, h0, h1, hlen, hL, hM, hz, hS, ↓bD, bU, forall_const, List.all_cons, List.all_nil, Option.map_some, List.map_cons, List.map_nil, ne_eq, implies_true, isNx, eq_self, ↓wp_cond, ↓wp_loop, ↓reduceIte, reduceCtorEq, Nat.reduceEqDiff, Nat.reduceLT, Nat.reduceAdd, Nat.reduceMul, Int.ofNat_lt, Int.ofNat_le, exists_const, Option.map_none, beq_self_eq_true, decide_true, ↓sg_bsl, ↓st_callf, bX, ap_mkfn, ae_callvV, callvV_fn, List.cons_append, List.nil_append, boxV_i]
    all_goals first | exact .refl _ | skip
theorem q_EqN (cl : Bool) {s : St} {v : AV} {l : List Nd} (hr : read ndC s v = some l) (hl : l.length ≤ lim) {w : AV} {m : List Nd} (hrw : read ndC s w = some m) (hm : m.length ≤ lim) : acall R_EqN cl [v, w] s = some (.bool (decide (l = m)), s) := run_same n_EqN (by simp [a66]) rfl (w_EqN (s := lowd s) (read_low' hr) hl (read_low' hrw) hm)
theorem slcV_nils0N : slcV 6 .nils none (some (.int .i64 0)) = some .nils := nrfl rfl
theorem slcV_sl0N (j n : Nat) : slcV 6 (.sl j 0 n none 6) none (some (.int .i64 0)) = some (.sl j 0 0 none 6) := nrfl (by
  simp [slcV, optNat, asNatIn])
theorem appz_nilN {n : Nat} (h0 : 0 < n) (hn : n ≤ 4000000) : appzV s 6 48 [.int .i64 0, .int .i64 0, .int .i64 0, .int .i64 0, .int .i64 0, .int .i32 0] .nils (.int .i64 (n : Int)) = some (.sl s.next 0 n none 6, s.push (.row (zeros [.int .i64 0, .int .i64 0, .int .i64 0, .int .i64 0, .int .i64 0, .int .i32 0] n) true)) := by
  simp only [appzV]
  rw [if_pos ⟨by omega, by omega, rfl⟩, Int.toNat_natCast]
  simp only [aappend]
  rw [if_neg (by omega), if_pos (by unfold roomBytes; omega)]
def PreOwnN (s t : St) (v : AV) (l : List Nd) : Prop := Own ndC s t v l ∨ (l = [] ∧ ∃ j cs, v = .sl j 0 0 none 6 ∧ s.next ≤ j ∧ t.get j = some (.row cs true))
theorem PreOwnN.read {v : AV} {l : List Nd} (h : PreOwnN s t v l) : read ndC t v = some l := by
  rcases h with h | ⟨rfl, j, cs, rfl, _, h⟩
  · exact h.read
  · exact read_of (C := ndC) (n := 0) rfl h (by omega) (by simp [cells_nil])
theorem PreOwnN.mono {v : AV} {l : List Nd} (h : PreOwnN s t v l) (k : ∀ id b, t.get id = some b → u.get id = some b) : PreOwnN s u v l := h.imp (fun h => h.mono k) fun ⟨h1, j, cs, h2, h3, h4⟩ => ⟨h1, j, cs, h2, h3, k _ _ h4⟩
theorem PreOwnN.app {v w : AV} {l m : List Nd} (hK : Keep s t) (h : PreOwnN s t v l) (hr : AM.read ndC t w = some m) (hb : l.length + m.length ≤ 4000000) : ∃ v' t', appV t 6 48 v w = some (v', t') ∧ Keep s t' ∧ PreOwnN s t' v' (l ++ m) := by
  rcases h with h | ⟨rfl, j, cs, rfl, h1, h⟩
  · obtain ⟨v', t', q1, q2, q3⟩ := appV_list hK h hr 48 (by unfold roomBytes; omega)
    exact ⟨v', t', q1, q2, .inl q3⟩
  · have h2 : ndC.sz = 6 := rfl
    simp only [appV]
    rw [← h2, read_shown hr, read_len hr]
    simp only [aappend, if_true, h]
    by_cases h0 : m.length = 0
    · have : m = [] := List.length_eq_zero_iff.1 h0
      subst this
      exact ⟨_, _, if_pos (rfl : ([] : List Nd).length = 0), hK, .inr ⟨rfl, j, cs, rfl, h1, h⟩⟩
    · rw [if_neg h0, if_pos ⟨by omega, by simp at hb; unfold roomBytes; omega⟩]
      refine ⟨_, _, rfl, (hK.put .dead h1 (St.get_lt h)).push _, .inl (.inr ⟨t.next, by simp, by simpa using h0, hK.next, ?_⟩)⟩
      have := St.get_push_new (t.put j .dead) (.row (ndC.cells m) true)
      simpa using this
noncomputable def R_GrowN : Con := runFn (tb []) a91
theorem s_GrowN : SoundAt Tryz.prog 91 R_GrowN := run_sound (tb_sound (l := []) (by simp)) mixed Tryz.func91 k91 c91
theorem n_GrowN : noNxtC a91.body = true := by kernel_rfl
theorem w_GrowN {s : St} {n : Nat} (hn : n ≤ 4000000) : ∀ env : Env, elen env = a91.ntmps → (∀ i x_, [.nils, .int .i64 (n : Int)][i]? = some x_ → E env i = x_) → awp (tb []) a91.body (fun x e t => (∀ i, x ≠ .exit i) ∧ ∃ r, aresults e t a91.results = some r ∧ PreOwnN s t r [] ∧ Keep s t) env s := by
  intro env hlen ha
  have h0 : E env 0 = _ := ha 0 _ rfl
  have h1 : E env 1 = _ := ha 1 _ rfl
  have hlen : elen env = _ := hlen
  simp only [a91] at hlen
  unfold a91
  try dsimp only [oO, oG]
  have hw := wrap_m0 (n := n) (by omega)
  have hz : ((n : Int) < 0) = False := eq_false (by omega)
  by_cases h0n : n = 0
  · have hz2 : ((0 : Int) < (n : Int)) = False := eq_false (by omega)
    simp (config := {contextual := true, maxDischargeDepth := 12}) only [tb_at, h0, h1, hlen, lenV_nils, hw, hz, hz2, ↓bD, bU, forall_const, List.all_cons, List.all_nil, Option.map_some, List.map_cons, List.map_nil, ne_eq, implies_true, isNx, eq_self, ↓wp_cond, ↓wp_loop, ↓reduceIte, reduceCtorEq, Nat.reduceEqDiff, Nat.reduceLT, Nat.reduceAdd, Nat.reduceMul, Int.ofNat_lt, Int.ofNat_le, exists_const, Option.map_none, beq_self_eq_true, decide_true, ↓sg_bsl, ↓st_callf, bX, ap_mkfn, ae_callvV, callvV_fn, List.cons_append, List.nil_append, boxV_i, boxV_nd, sto_dot, ap_conv, convV_int, bslV_0N, fstep_d0, fstep_d1, bsl_dot, ae_appz, ap_cap, capV_nils, slcV_nils0N, slcV_sl0N, wrap_0]
    exact ⟨_, rfl, .inl (.nil _ _ _)⟩
  · have hz2 : ((0 : Int) < (n : Int)) = True := eq_true (by omega)
    have ha := appz_nilN (s := s) (n := n) (by omega) hn
    simp (config := {contextual := true, maxDischargeDepth := 12}) only [tb_at, h0, h1, hlen, lenV_nils, hw, hz, hz2, ha, ↓bD, bU, forall_const, List.all_cons, List.all_nil, Option.map_some, List.map_cons, List.map_nil, ne_eq, implies_true, isNx, eq_self, ↓wp_cond, ↓wp_loop, ↓reduceIte, reduceCtorEq, Nat.reduceEqDiff, Nat.reduceLT, Nat.reduceAdd, Nat.reduceMul, Int.ofNat_lt, Int.ofNat_le, exists_const, Option.map_none, beq_self_eq_true, decide_true, ↓sg_bsl, ↓st_callf, bX, ap_mkfn, ae_callvV, callvV_fn, List.cons_append, List.nil_append, boxV_i, boxV_nd, sto_dot, ap_conv, convV_int, bslV_0N, fstep_d0, fstep_d1, bsl_dot, ae_appz, ap_cap, capV_nils, slcV_nils0N, slcV_sl0N, wrap_0]
    exact ⟨_, rfl, .inr ⟨rfl, s.next, _, rfl, Nat.le_refl _, St.get_push_new _ _⟩⟩
theorem q_GrowN {s : St} {n : Nat} (hn : n ≤ 4000000) : ∃ w t, acall R_GrowN false [.nils, .int .i64 (n : Int)] s = some (w, t) ∧ PreOwnN s t w [] ∧ Keep s t :=
  run_any n_GrowN (by simp [a91]) (fun r t t' hg hn hq => hq.mono fun id b hb => by rw [hg]; exact hb) (fun r t hgr hk hq => by
    rcases hq with hq | ⟨_, j, cs, rfl, _⟩
    · obtain ⟨rfl, _⟩ := hq.ground hgr
      exact .inl (.nil _ _ _)
    · cases hgr) (w_GrowN (s := lowd s) hn)
noncomputable def R_ConcN : Con := runFn (tb [(91, R_GrowN)]) a63
theorem s_ConcN : SoundAt Tryz.prog 63 R_ConcN := run_sound (tb_sound (l := [(91, R_GrowN)]) (by simpa using s_GrowN)) mixed Tryz.func63 k63 c63
theorem n_ConcN : noNxtC a63.body = true := by kernel_rfl
theorem w_ConcN {s : St} {j : Nat} {a b : AV} {la lb : List Nd} {own : Bool} (hj : s.get j = some (.row [a, b] own)) (hra : read ndC s a = some la) (hrb : read ndC s b = some lb) (hla : la.length ≤ lim) (hlb : lb.length ≤ lim) : ∀ env : Env, elen env = a63.ntmps → (∀ i x_, [.sl j 0 2 (some 2) 1][i]? = some x_ → E env i = x_) → awp (tb [(91, R_GrowN)]) a63.body (fun x e t => (∀ i, x ≠ .exit i) ∧ ∃ r, aresults e t a63.results = some r ∧ read ndC t r = some (la ++ lb) ∧ Keep s t) env s := by
  intro env hlen ha
  have h0 : E env 0 = _ := ha 0 _ rfl
  have hlen : elen env = _ := hlen
  simp only [a63] at hlen
  unfold a63
  try dsimp only [oO, oG]
  have hL2 : lenV (.sl j 0 2 (some 2) 1) = some (.int .i64 2) := rfl
  obtain ⟨j1, j2, jlt⟩ := row2_lod hj
  obtain ⟨x1, x2⟩ := two_facts hj
  have hLa := lenV_read hra
  have hLb := lenV_read hrb
  have wa : IntKind.i64.wrap (((0 : Nat) : Int) + (la.length : Int)) = (la.length : Int) := by
    have := wrap_addn (n := 0) (m := la.length) (by unfold lim at hla; omega)
    rwa [Nat.zero_add] at this
  have wb := wrap_addn (n := la.length) (m := lb.length) (by unfold lim at hla hlb; omega)
  have z1 : ((la.length : Int) < 0) = False := eq_false (by omega)
  have z2 : (((la.length + lb.length : Nat) : Int) < 0) = False := eq_false (by omega)
  simp (config := {contextual := true, maxDischargeDepth := 12}) only [tb_at, h0, hlen, hL2, ↓bD, bU, forall_const, List.all_cons, List.all_nil, Option.map_some, List.map_cons, List.map_nil, ne_eq, implies_true, isNx, eq_self, ↓wp_cond, ↓wp_loop, ↓reduceIte, reduceCtorEq, Nat.reduceEqDiff, Nat.reduceLT, Nat.reduceAdd, Nat.reduceMul, Int.ofNat_lt, Int.ofNat_le, exists_const, Option.map_none, beq_self_eq_true, decide_true, ↓sg_bsl, ↓st_callf, bX, ap_mkfn, ae_callvV, callvV_fn, List.cons_append, List.nil_append, boxV_i, boxV_nd, sto_dot, ap_conv, convV_int, bslV_0N, fstep_d0, fstep_d1, bsl_dot, ae_appz, ap_cap, capV_nils, slcV_nils0N, slcV_sl0N, wrap_0]
  obtain ⟨I, hI⟩ : ∃ I : Nat → Env → St → Prop, ∀ n e t, I n e t = (t = s ∧ ∃ i : Nat, n + i = 2 ∧ elen e = 36 ∧ E e 0 = .sl j 0 2 (some 2) 1 ∧ E e 9 = .sl j 0 2 (some 2) 1 ∧ E e 10 = .int .i64 2 ∧ E e 11 = .int .i64 (i : Int) ∧ E e 3 = .int .i64 (((if i = 0 then 0 else if i = 1 then la.length else la.length + lb.length) : Nat) : Int) ∧ i ≤ 2) := ⟨fun n e t => (t = s ∧ ∃ i : Nat, n + i = 2 ∧ elen e = 36 ∧ E e 0 = .sl j 0 2 (some 2) 1 ∧ E e 9 = .sl j 0 2 (some 2) 1 ∧ E e 10 = .int .i64 2 ∧ E e 11 = .int .i64 (i : Int) ∧ E e 3 = .int .i64 (((if i = 0 then 0 else if i = 1 then la.length else la.length + lb.length) : Nat) : Int) ∧ i ≤ 2), fun _ _ _ => rfl⟩
  refine lwp_inv I (n := 2) ?_ ?_
  · rw [hI]
    exact ⟨rfl, 0, by omega, (by simp only [bE, Nat.reduceEqDiff, ne_eq, not_false_eq_true, Nat.reduceLT, hlen]; try rfl), (by simp only [bE, Nat.reduceEqDiff, ne_eq, not_false_eq_true, Nat.reduceLT, hlen, h0]; try rfl), (by simp only [bE, Nat.reduceEqDiff, ne_eq, not_false_eq_true, Nat.reduceLT, hlen, h0]; try rfl), (by simp only [bE, Nat.reduceEqDiff, ne_eq, not_false_eq_true, Nat.reduceLT, hlen]; try rfl), (by simp only [bE, Nat.reduceEqDiff, ne_eq, not_false_eq_true, Nat.reduceLT, hlen]; try rfl), (by simp only [bE, Nat.reduceEqDiff, ne_eq, not_false_eq_true, Nat.reduceLT, hlen]; try rfl), by omega⟩
  intro n e t hi
  rw [hI] at hi
  obtain ⟨hK, i, hni, he, e0, e9, e10, e11, e3, hi2⟩ := hi
  have hK := hK.symm
  subst hK
  have w01 : IntKind.i64.wrap (0 + 1) = 1 := by decide
  have w11 : IntKind.i64.wrap (1 + 1) = 2 := by decide
  by_cases hi0 : i = 0
  · subst hi0
    have zz : (((0 : Nat) : Int) < 2) = True := eq_true (by decide)
    simp only [if_true] at e3
    have e11 : E e 11 = .int .i64 0 := e11
    simp (config := {contextual := true, maxDischargeDepth := 12}) only [tb_at, he, e0, e9, e10, e11, e3, hL2, zz, j1, jlt, x1, hLa, wa, z1, w01, Int.reduceLT, ↓bD, bU, forall_const, List.all_cons, List.all_nil, Option.map_some, List.map_cons, List.map_nil, ne_eq, implies_true, isNx, eq_self, ↓wp_cond, ↓wp_loop, ↓reduceIte, reduceCtorEq, Nat.reduceEqDiff, Nat.reduceLT, Nat.reduceAdd, Nat.reduceMul, Int.ofNat_lt, Int.ofNat_le, exists_const, Option.map_none, beq_self_eq_true, decide_true, ↓sg_bsl, ↓st_callf, bX, ap_mkfn, ae_callvV, callvV_fn, List.cons_append, List.nil_append, boxV_i, boxV_nd, sto_dot, ap_conv, convV_int, bslV_0N, fstep_d0, fstep_d1, bsl_dot, ae_appz, ap_cap, capV_nils, slcV_nils0N, slcV_sl0N, wrap_0]
    refine ⟨1, by omega, ?_⟩
    rw [hI]
    exact ⟨rfl, 1, by omega, (by simp only [bE, Nat.reduceEqDiff, ne_eq, not_false_eq_true, Nat.reduceLT, he, e0, e9, e10, e11, e3]; try rfl), (by simp only [bE, Nat.reduceEqDiff, ne_eq, not_false_eq_true, Nat.reduceLT, he, e0, e9, e10, e11, e3]; try rfl), (by simp only [bE, Nat.reduceEqDiff, ne_eq, not_false_eq_true, Nat.reduceLT, he, e0, e9, e10, e11, e3]; try rfl), (by simp only [bE, Nat.reduceEqDiff, ne_eq, not_false_eq_true, Nat.reduceLT, he, e0, e9, e10, e11, e3]; try rfl), (by simp only [bE, Nat.reduceEqDiff, ne_eq, not_false_eq_true, Nat.reduceLT, he, e0, e9, e10, e11, e3]; try rfl), (by simp only [bE, Nat.reduceEqDiff, ne_eq, not_false_eq_true, Nat.reduceLT, he, e0, e9, e10, e11, e3]; try rfl), by omega⟩
  by_cases hi1 : i = 1
  · subst hi1
    simp only [if_true, Nat.one_ne_zero, if_false] at e3
    have e11 : E e 11 = .int .i64 1 := e11
    simp (config := {contextual := true, maxDischargeDepth := 12}) only [tb_at, he, e0, e9, e10, e11, e3, hL2, j2, jlt, x2, hLb, wb, z2, w11, Int.reduceLT, ↓bD, bU, forall_const, List.all_cons, List.all_nil, Option.map_some, List.map_cons, List.map_nil, ne_eq, implies_true, isNx, eq_self, ↓wp_cond, ↓wp_loop, ↓reduceIte, reduceCtorEq, Nat.reduceEqDiff, Nat.reduceLT, Nat.reduceAdd, Nat.reduceMul, Int.ofNat_lt, Int.ofNat_le, exists_const, Option.map_none, beq_self_eq_true, decide_true, ↓sg_bsl, ↓st_callf, bX, ap_mkfn, ae_callvV, callvV_fn, List.cons_append, List.nil_append, boxV_i, boxV_nd, sto_dot, ap_conv, convV_int, bslV_0N, fstep_d0, fstep_d1, bsl_dot, ae_appz, ap_cap, capV_nils, slcV_nils0N, slcV_sl0N, wrap_0]
    refine ⟨0, by omega, ?_⟩
    rw [hI]
    exact ⟨rfl, 2, by omega, (by simp only [bE, Nat.reduceEqDiff, ne_eq, not_false_eq_true, Nat.reduceLT, he, e0, e9, e10, e11, e3]; try rfl), (by simp only [bE, Nat.reduceEqDiff, ne_eq, not_false_eq_true, Nat.reduceLT, he, e0, e9, e10, e11, e3]; try rfl), (by simp only [bE, Nat.reduceEqDiff, ne_eq, not_false_eq_true, Nat.reduceLT, he, e0, e9, e10, e11, e3]; try rfl), (by simp only [bE, Nat.reduceEqDiff, ne_eq, not_false_eq_true, Nat.reduceLT, he, e0, e9, e10, e11, e3]; try rfl), (by simp only [bE, Nat.reduceEqDiff, ne_eq, not_false_eq_true, Nat.reduceLT, he, e0, e9, e10, e11, e3]; try rfl), (by simp only [bE, Nat.reduceEqDiff, ne_eq, not_false_eq_true, Nat.reduceLT, he, e0, e9, e10, e11, e3]; try rfl), by omega⟩
  obtain rfl : i = 2 := by omega
  simp only [Nat.reduceEqDiff, if_false] at e3
  have e11 : E e 11 = .int .i64 2 := e11
  obtain ⟨w0, t1, hgr, hP0, hK1⟩ := q_GrowN (s := s) (n := la.length + lb.length) (by unfold lim at hla hlb; omega)
  simp (config := {contextual := true, maxDischargeDepth := 12}) only [tb_at, he, e0, e9, e10, e11, e3, hL2, hgr, Int.reduceLT, ↓bD, bU, forall_const, List.all_cons, List.all_nil, Option.map_some, List.map_cons, List.map_nil, ne_eq, implies_true, isNx, eq_self, ↓wp_cond, ↓wp_loop, ↓reduceIte, reduceCtorEq, Nat.reduceEqDiff, Nat.reduceLT, Nat.reduceAdd, Nat.reduceMul, Int.ofNat_lt, Int.ofNat_le, exists_const, Option.map_none, beq_self_eq_true, decide_true, ↓sg_bsl, ↓st_callf, bX, ap_mkfn, ae_callvV, callvV_fn, List.cons_append, List.nil_append, boxV_i, boxV_nd, sto_dot, ap_conv, convV_int, bslV_0N, fstep_d0, fstep_d1, bsl_dot, ae_appz, ap_cap, capV_nils, slcV_nils0N, slcV_sl0N, wrap_0]
  obtain ⟨I2, hI2⟩ : ∃ I : Nat → Env → St → Prop, ∀ n e t, I n e t = (Keep s t ∧ ∃ i : Nat, n + i = 2 ∧ elen e = 36 ∧ E e 25 = .sl j 0 2 (some 2) 1 ∧ E e 26 = .int .i64 2 ∧ E e 27 = .int .i64 (i : Int) ∧ i ≤ 2 ∧ PreOwnN s t (E e 6) (if i = 0 then [] else if i = 1 then la else la ++ lb)) := ⟨fun n e t => (Keep s t ∧ ∃ i : Nat, n + i = 2 ∧ elen e = 36 ∧ E e 25 = .sl j 0 2 (some 2) 1 ∧ E e 26 = .int .i64 2 ∧ E e 27 = .int .i64 (i : Int) ∧ i ≤ 2 ∧ PreOwnN s t (E e 6) (if i = 0 then [] else if i = 1 then la else la ++ lb)), fun _ _ _ => rfl⟩
  refine lwp_inv I2 (n := 2) ?_ ?_
  · rw [hI2]
    exact ⟨hK1, 0, by omega, (by simp only [bE, Nat.reduceEqDiff, ne_eq, not_false_eq_true, Nat.reduceLT, he]; try rfl), (by simp only [bE, Nat.reduceEqDiff, ne_eq, not_false_eq_true, Nat.reduceLT, he, e0]; try rfl), (by simp only [bE, Nat.reduceEqDiff, ne_eq, not_false_eq_true, Nat.reduceLT, he]; try rfl), (by simp only [bE, Nat.reduceEqDiff, ne_eq, not_false_eq_true, Nat.reduceLT, he]; try rfl), by omega, by simp only [bE, Nat.reduceEqDiff, ne_eq, not_false_eq_true, Nat.reduceLT, he]; exact hP0⟩
  clear e11 e3 he e0 hgr hP0 hK1
  intro n e t2 hi
  rw [hI2] at hi
  obtain ⟨hK, i, hni, he, e25, e26, e27, hi2, hP⟩ := hi
  have hj2 := hK.blk hj
  obtain ⟨j1, j2, jlt⟩ := row2_lod hj2
  by_cases hi0 : i = 0
  · subst hi0
    simp only [if_true] at hP
    have e27 : E e 27 = .int .i64 0 := e27
    obtain ⟨v', t', hap, hK', hP'⟩ := hP.app hK (hK.read hra) (by simp; unfold lim at hla; omega)
    simp (config := {contextual := true, maxDischargeDepth := 12}) only [tb_at, he, e25, e26, e27, j1, jlt, x1, hap, w01, Int.reduceLT, ↓bD, bU, forall_const, List.all_cons, List.all_nil, Option.map_some, List.map_cons, List.map_nil, ne_eq, implies_true, isNx, eq_self, ↓wp_cond, ↓wp_loop, ↓reduceIte, reduceCtorEq, Nat.reduceEqDiff, Nat.reduceLT, Nat.reduceAdd, Nat.reduceMul, Int.ofNat_lt, Int.ofNat_le, exists_const, Option.map_none, beq_self_eq_true, decide_true, ↓sg_bsl, ↓st_callf, bX, ap_mkfn, ae_callvV, callvV_fn, List.cons_append, List.nil_append, boxV_i, boxV_nd, sto_dot, ap_conv, convV_int, bslV_0N, fstep_d0, fstep_d1, bsl_dot, ae_appz, ap_cap, capV_nils, slcV_nils0N, slcV_sl0N, wrap_0]
    refine ⟨1, by omega, ?_⟩
    rw [hI2]
    exact ⟨hK', 1, by omega, (by simp only [bE, Nat.reduceEqDiff, ne_eq, not_false_eq_true, Nat.reduceLT, he]; try rfl), (by simp only [bE, Nat.reduceEqDiff, ne_eq, not_false_eq_true, Nat.reduceLT, he, e25]; try rfl), (by simp only [bE, Nat.reduceEqDiff, ne_eq, not_false_eq_true, Nat.reduceLT, he, e26]; try rfl), (by simp only [bE, Nat.reduceEqDiff, ne_eq, not_false_eq_true, Nat.reduceLT, he]; try rfl), by omega, by simp only [bE, Nat.reduceEqDiff, ne_eq, not_false_eq_true, Nat.reduceLT, he]; exact hP'⟩
  by_cases hi1 : i = 1
  · subst hi1
    simp only [if_true, Nat.one_ne_zero, if_false] at hP
    have e27 : E e 27 = .int .i64 1 := e27
    obtain ⟨v', t', hap, hK', hP'⟩ := hP.app hK (hK.read hrb) (by unfold lim at hla hlb; omega)
    simp (config := {contextual := true, maxDischargeDepth := 12}) only [tb_at, he, e25, e26, e27, j2, jlt, x2, hap, w11, Int.reduceLT, ↓bD, bU, forall_const, List.all_cons, List.all_nil, Option.map_some, List.map_cons, List.map_nil, ne_eq, implies_true, isNx, eq_self, ↓wp_cond, ↓wp_loop, ↓reduceIte, reduceCtorEq, Nat.reduceEqDiff, Nat.reduceLT, Nat.reduceAdd, Nat.reduceMul, Int.ofNat_lt, Int.ofNat_le, exists_const, Option.map_none, beq_self_eq_true, decide_true, ↓sg_bsl, ↓st_callf, bX, ap_mkfn, ae_callvV, callvV_fn, List.cons_append, List.nil_append, boxV_i, boxV_nd, sto_dot, ap_conv, convV_int, bslV_0N, fstep_d0, fstep_d1, bsl_dot, ae_appz, ap_cap, capV_nils, slcV_nils0N, slcV_sl0N, wrap_0]
    refine ⟨0, by omega, ?_⟩
    rw [hI2]
    exact ⟨hK', 2, by omega, (by simp only [bE, Nat.reduceEqDiff, ne_eq, not_false_eq_true, Nat.reduceLT, he]; try rfl), (by simp only [bE, Nat.reduceEqDiff, ne_eq, not_false_eq_true, Nat.reduceLT, he, e25]; try rfl), (by simp only [bE, Nat.reduceEqDiff, ne_eq, not_false_eq_true, Nat.reduceLT, he, e26]; try rfl), (by simp only [bE, Nat.reduceEqDiff, ne_eq, not_false_eq_true, Nat.reduceLT, he]; try rfl), by omega, by simp only [bE, Nat.reduceEqDiff, ne_eq, not_false_eq_true, Nat.reduceLT, he]; exact hP'⟩
  obtain rfl : i = 2 := by omega
  simp only [Nat.reduceEqDiff, if_false] at hP
  have e27 : E e 27 = .int .i64 2 := e27
  simp (config := {contextual := true, maxDischargeDepth := 12}) only [tb_at, he, e25, e26, e27, Int.reduceLT, ↓bD, bU, forall_const, List.all_cons, List.all_nil, Option.map_some, List.map_cons, List.map_nil, ne_eq, implies_true, isNx, eq_self, ↓wp_cond, ↓wp_loop, ↓reduceIte, reduceCtorEq, Nat.reduceEqDiff, Nat.reduceLT, Nat.reduceAdd, Nat.reduceMul, Int.ofNat_lt, Int.ofNat_le, exists_const, Option.map_none, beq_self_eq_true, decide_true, ↓sg_bsl, ↓st_callf, bX, ap_mkfn, ae_callvV, callvV_fn, List.cons_append, List.nil_append, boxV_i, boxV_nd, sto_dot, ap_conv, convV_int, bslV_0N, fstep_d0, fstep_d1, bsl_dot, ae_appz, ap_cap, capV_nils, slcV_nils0N, slcV_sl0N, wrap_0]
  first | exact ⟨_, rfl, hP.read, hK⟩ | exact ⟨hP.read, hK⟩
theorem q_ConcN {s : St} {j : Nat} {a b : AV} {la lb : List Nd} {own : Bool} (hj : s.get j = some (.row [a, b] own)) (hra : read ndC s a = some la) (hrb : read ndC s b = some lb) (hla : la.length ≤ lim) (hlb : lb.length ≤ lim) : ∃ w t, acall R_ConcN false [.sl j 0 2 (some 2) 1] s = some (w, t) ∧ read ndC t w = some (la ++ lb) ∧ Keep s t :=
  run_any n_ConcN (by simp [a63]) (fun r t t' hg hn hq => read_mono hq fun id b hrb => by rw [hg]; exact hrb) (fun r t hgr hk hq => by
    obtain ⟨rfl, h⟩ := read_groundN hq hgr
    rw [h]; rfl) (w_ConcN (s := lowd s) hj (read_low' hra) (read_low' hrb) hla hlb)
theorem appF_nilN {x : AV} {m : List Nd} (hr : read ndC s x = some m) (hm : m.length ≤ 4000000) : ∃ v t, appF s 6 48 .nils x = some (v, t) ∧ Own ndC s t v m ∧ Keep s t := by
  obtain ⟨v, t, h1, h2, h3⟩ := appV_list (C := ndC) (Keep.refl (lowd s)) (.nil ndC (lowd s) (lowd s)) (read_low' hr) 48 (by simp; unfold roomBytes; omega)
  rw [List.nil_append] at h3
  have h1 : appV (lowd s) 6 48 .nils x = some (v, t) := h1
  have hl : s.next ≤ t.low := by
    have := h2.low
    have : min s.next s.next ≤ t.low := this
    omega
  refine ⟨v, { heap := t.heap, next := t.next, low := min s.low t.low }, by simp only [appF, h1, if_pos hl], ?_, h2.next, h2.get, ?_⟩
  · rcases h3 with h3 | ⟨j, e, a1, a2, a3⟩
    · exact .inl h3
    · exact .inr ⟨j, e, a1, a2, a3⟩
  · show min s.low s.next ≤ min s.low t.low
    omega
theorem own_bornN {v : AV} {l : List Nd} {id : Nat} {b0 b : AB} (h : Own ndC s t v l) (hg : t.get id = some b0) (hn : ∀ i ∈ vids v, i ≠ id) : Own ndC s (t.born id b) v l := by
  rcases h with h | ⟨j, rfl, h0, h1, h2⟩
  · exact .inl h
  · refine .inr ⟨j, rfl, h0, h1, ?_⟩
    rw [St.get_born_ne _ _ (St.get_lt hg) (hn j (by simp [vids]))]
    exact h2
theorem cells_setDN : ∀ (l : List Nd) (k : Nat) (d : Nd), k < l.length → setAt (ndC.cells l) (k * 6) (Nd.av d) = ndC.cells (l.set k d)
  | [], k, d, h => by simp at h
  | x :: l, 0, d, h => by
    have e : ndC.enc x = Nd.av x := rfl
    simp [setAt, cells_cons, e, Nd.av, ndC]
  | x :: l, k + 1, d, h => by
    have ih := cells_setDN l k d (by simpa using h)
    have e : ndC.enc x = Nd.av x := rfl
    have h2 : (Nd.av x).length = 6 := rfl
    rw [List.set_cons_succ, cells_cons, cells_cons, ← ih, e]
    simp only [setAt]
    have e1 : (k + 1) * 6 = (Nd.av x).length + k * 6 := by rw [h2]; omega
    have e2 : (k + 1) * 6 + (Nd.av d).length = (Nd.av x).length + (k * 6 + (Nd.av d).length) := by rw [h2]; omega
    rw [e2, e1]
    have e3 : List.take ((Nd.av x).length + k * 6) (Nd.av x) = Nd.av x := List.take_of_length_le (by omega)
    have e4 : List.drop ((Nd.av x).length + (k * 6 + (Nd.av d).length)) (Nd.av x) = [] := List.drop_eq_nil_of_le (by omega)
    simp [List.take_append, List.drop_append, e3, e4]
theorem sto_ownN {j k : Nat} {l : List Nd} (h : t.get j = some (.row (ndC.cells l) true)) (hk : k < l.length) (d : Nd) : sto t 6 (.ptr j (k * 6)) (.agg (Nd.av d)) = some (.und, t.put j (.row (ndC.cells (l.set k d)) true)) := by
  have h2 : ndC.sz = 6 := rfl
  have hcond : (AV.agg (Nd.av d)).cells.length = 6 ∧ (AV.agg (Nd.av d)).cells.all AV.one = true ∧ k * 6 + 6 ≤ (ndC.cells l).length := ⟨rfl, rfl, by rw [cells_len, h2]; omega⟩
  simp only [sto, h]
  rw [if_pos hcond]
  show some (AV.und, t.put j (.row (setAt (ndC.cells l) (k * 6) (Nd.av d)) true)) = _
  rw [cells_setDN l k d hk]
theorem idxN_cases (l : List Nd) (p : Nd → Bool) : (idxN l p = -1 ∧ ∀ x ∈ l, p x = false) ∨ ∃ (i : Nat) (x : Nd), idxN l p = (i : Int) ∧ l[i]? = some x ∧ p x = true ∧ ∀ k y, k < i → l[k]? = some y → p y = false := by
  unfold idxN
  cases h : l.findIdx? p with
  | none =>
    rw [List.findIdx?_eq_none_iff] at h
    exact .inl ⟨rfl, fun x hx => by simpa using h x hx⟩
  | some i =>
    rw [List.findIdx?_eq_some_iff_getElem] at h
    obtain ⟨h1, h2, h3⟩ := h
    refine .inr ⟨i, l[i], rfl, List.getElem?_eq_getElem h1, h2, fun k y hk hy => ?_⟩
    have := h3 k hk
    rw [List.getElem?_eq_getElem (by omega)] at hy
    injection hy with hy
    rw [hy] at this
    simpa using this
end Go.AM
end
/-
  Searching a store: BinarySearchFunc, find, Find, Put. Own work of this project; in part printed by a program of it.
-/
section
set_option linter.unusedVariables false
set_option linter.unusedSimpArgs false
set_option maxRecDepth 100000
set_option maxHeartbeats 8000000
namespace Go.AM
open Go Go.Proofs

variable {s t u : St}

theorem bin_shr1 (n : Nat) : binOp .shr .no (.int .u64 (n : Int)) (.int .u64 1) = some (.int .u64 ((n / 2 : Nat) : Int)) := by
  simp only [binOp, shOp]
  have h1 : ¬ ((1 : Int) < 0) := by decide
  have h2 : (2 : Int) ^ (min (Int.toNat 1) IntKind.u64.bits) = 2 := by decide
  rw [if_neg h1, h2]
  have : Int.fdiv (n : Int) 2 = ((n / 2 : Nat) : Int) := by
    rw [Int.fdiv_eq_ediv_of_nonneg _ (by decide)]
    omega
  simp only [this]
theorem dcmp_neg (a b : Dot) : (dcmp a b < 0) = (a.before b = true) := by
  rcases dcmp_casesD a b with ⟨h, h1, _⟩ | ⟨h, h1, _⟩ | ⟨h, h1, _⟩ <;> rw [h, h1] <;> simp
theorem dcmp_zero (a b : Dot) : (dcmp a b = 0) = (a = b) := by
  rcases dcmp_casesD a b with ⟨h, h1, h2⟩ | ⟨h, h1, h2⟩ | ⟨h, h1, h2, h3⟩
  · rw [h]
    simp only [eq_iff_iff]
    refine ⟨fun q => by omega, fun q => ?_⟩
    rw [q, before_irr] at h1
    cases h1
  · rw [h]
    simp only [eq_iff_iff]
    refine ⟨fun q => by omega, fun q => ?_⟩
    rw [q, before_irr] at h2
    cases h2
  · rw [h]
    simp [h3]
theorem sorted_lt {l : List Nd} (hl : l.Pairwise ltP) {i k : Nat} {x y : Nd} (hx : l[i]? = some x) (hy : l[k]? = some y) (h : i < k) : x.d.before y.d = true := by
  obtain ⟨h1, rfl⟩ := List.getElem?_eq_some_iff.1 hx
  obtain ⟨h2, rfl⟩ := List.getElem?_eq_some_iff.1 hy
  exact List.pairwise_iff_getElem.1 hl i k h1 h2 h
theorem before_trans {a b c : Dot} (h : a.before b = true) (k : b.before c = true) : a.before c = true := by
  obtain ⟨ar, ac⟩ := a
  obtain ⟨br, bc⟩ := b
  obtain ⟨cr, cc⟩ := c
  simp only [Dot.before, Bool.or_eq_true, Bool.and_eq_true, decide_eq_true_eq] at *
  omega
def fndN (l : List Nd) (d : Dot) : Bool := match l[kOf l d]? with
  | some x => decide (x.d = d)
  | none => false
theorem fnd_has {l : List Nd} (hl : l.Pairwise ltP) (d : Dot) : fndN l d = hasN l d := at_found hl d
def findV (l : List Nd) (d : Dot) : AV := .tup [.int .i64 ((kOf l d : Nat) : Int), .bool (fndN l d)]
noncomputable def R_Find1 : Con := runFn (tb [(62, conDD fCmp)]) a93
theorem s_Find1 : SoundAt Tryz.prog 93 R_Find1 := run_sound (tb_sound (l := [(62, conDD fCmp)]) (by simpa using s_Cmp)) mixed Tryz.func93 k93 c93
theorem n_Find1 : noNxtC a93.body = true := by kernel_rfl
theorem w_Find1 {s : St} (n : Nd) (d : Dot) : ∀ env : Env, elen env = a93.ntmps → (∀ i x_, [.agg (Nd.av n), .agg (Dot.av d)][i]? = some x_ → E env i = x_) → awp (tb [(62, conDD fCmp)]) a93.body (fun x e t => (∀ i, x ≠ .exit i) ∧ aresults e t a93.results = some (.int .i64 (dcmp n.d d)) ∧ Keep s t) env s := by
  intro env hlen ha
  have h0 : E env 0 = _ := ha 0 _ rfl
  have h1 : E env 1 = _ := ha 1 _ rfl
  have hlen : elen env = _ := hlen
  simp only [a93] at hlen
  unfold a93
  try dsimp only [oO, oG]
  have hK1 : Keep s (s.push (.row (Nd.av n) true)) := (Keep.refl s).push _
  have hK2 : Keep (s.push (.row (Nd.av n) true)) ((s.push (.row (Nd.av n) true)).push (.row (Dot.av d) true)) := (Keep.refl _).push _
  obtain ⟨b1, b2, b3, b4, b5, b6⟩ := box_nd s n hK2
  obtain ⟨c1, c2, c3, c4⟩ := box_dot (s.push (.row (Nd.av n) true)) d (.refl _)
  simp (config := {contextual := true, maxDischargeDepth := 12}) only [tb_at, h0, h1, hlen, b1, b2, b6, c1, c4, q_Cmp, ↓bD, bU, forall_const, List.all_cons, List.all_nil, Option.map_some, List.map_cons, List.map_nil, ne_eq, implies_true, isNx, eq_self, ↓wp_cond, ↓wp_loop, ↓reduceIte, reduceCtorEq, Nat.reduceEqDiff, Nat.reduceLT, Nat.reduceAdd, Nat.reduceMul, Int.ofNat_lt, Int.ofNat_le, exists_const, Option.map_none, beq_self_eq_true, decide_true, ↓sg_bsl, ↓st_callf, bX, ap_mkfn, ae_callvV, callvV_fn, List.cons_append, List.nil_append, boxV_i, boxV_dot, sto_dot, ap_conv, convV_int, bslV_0, fstep_d0, fstep_d1, bsl_dot, ae_appz, ap_cap, capV_nils, slcV_nils0, slcV_sl0, wrap_0, ae_clr, boxV_f, fstep_f, lod_new2, ↓st_appf, slcV_nils0N, slcV_sl0N, bslV_0N, bin_shr1]
  all_goals first | exact hK1.trans hK2 | skip
theorem q_Find1 (cl : Bool) {s : St} (n : Nd) (d : Dot) : acall R_Find1 cl [.agg (Nd.av n), .agg (Dot.av d)] s = some (.int .i64 (dcmp n.d d), s) := run_same n_Find1 (by simp [a93]) rfl (w_Find1 (s := lowd s) n d)
noncomputable def R_BSrch : Con := runFn (tb [(93, R_Find1)]) a92
theorem s_BSrch : SoundAt Tryz.prog 92 R_BSrch := run_sound (tb_sound (l := [(93, R_Find1)]) (by simpa using s_Find1)) mixed Tryz.func92 k92 c92
theorem n_BSrch : noNxtC a92.body = true := by kernel_rfl
theorem w_BSrch {s : St} {v : AV} {l : List Nd} (hr : read ndC s v = some l) (hl : l.length ≤ lim) (hs : l.Pairwise ltP) (d : Dot) : ∀ env : Env, elen env = a92.ntmps → (∀ i x_, [v, .agg (Dot.av d), .fn 93 []][i]? = some x_ → E env i = x_) → awp (tb [(93, R_Find1)]) a92.body (fun x e t => (∀ i, x ≠ .exit i) ∧ aresults e t a92.results = some (findV l d) ∧ Keep s t) env s := by
  intro env hlen ha
  have h0 : E env 0 = _ := ha 0 _ rfl
  have h1 : E env 1 = _ := ha 1 _ rfl
  have h2 : E env 2 = _ := ha 2 _ rfl
  have hlen : elen env = _ := hlen
  simp only [a92] at hlen
  unfold a92
  try dsimp only [oO, oG]
  have hL := lenV_read hr
  have hK1 : Keep s (s.push (.row (Dot.av d) true)) := (Keep.refl s).push _
  obtain ⟨b1, b2, b3, b4⟩ := box_dot s d (.refl _)
  simp (config := {contextual := true, maxDischargeDepth := 12}) only [tb_at, h0, h1, h2, hlen, hL, ↓bD, bU, forall_const, List.all_cons, List.all_nil, Option.map_some, List.map_cons, List.map_nil, ne_eq, implies_true, isNx, eq_self, ↓wp_cond, ↓wp_loop, ↓reduceIte, reduceCtorEq, Nat.reduceEqDiff, Nat.reduceLT, Nat.reduceAdd, Nat.reduceMul, Int.ofNat_lt, Int.ofNat_le, exists_const, Option.map_none, beq_self_eq_true, decide_true, ↓sg_bsl, ↓st_callf, bX, ap_mkfn, ae_callvV, callvV_fn, List.cons_append, List.nil_append, boxV_i, boxV_dot, sto_dot, ap_conv, convV_int, bslV_0, fstep_d0, fstep_d1, bsl_dot, ae_appz, ap_cap, capV_nils, slcV_nils0, slcV_sl0, wrap_0, ae_clr, boxV_f, fstep_f, lod_new2, ↓st_appf, slcV_nils0N, slcV_sl0N, bslV_0N, bin_shr1]
  obtain ⟨I, hI⟩ : ∃ I : Nat → Env → St → Prop, ∀ n e t, I n e t = (t = s.push (.row (Dot.av d) true) ∧ ∃ i j : Nat, n = j - i ∧ i ≤ j ∧ j ≤ l.length ∧ elen e = 49 ∧ E e 0 = v ∧ E e 2 = .fn 93 [] ∧ E e 4 = .ptr s.next 0 ∧ E e 8 = .int .i64 (l.length : Int) ∧ E e 9 = .int .i64 (i : Int) ∧ E e 10 = .int .i64 (j : Int) ∧ (∀ k y, k < i → l[k]? = some y → y.d.before d = true) ∧ ∀ k y, j ≤ k → l[k]? = some y → y.d.before d = false) := ⟨fun n e t => (t = s.push (.row (Dot.av d) true) ∧ ∃ i j : Nat, n = j - i ∧ i ≤ j ∧ j ≤ l.length ∧ elen e = 49 ∧ E e 0 = v ∧ E e 2 = .fn 93 [] ∧ E e 4 = .ptr s.next 0 ∧ E e 8 = .int .i64 (l.length : Int) ∧ E e 9 = .int .i64 (i : Int) ∧ E e 10 = .int .i64 (j : Int) ∧ (∀ k y, k < i → l[k]? = some y → y.d.before d = true) ∧ ∀ k y, j ≤ k → l[k]? = some y → y.d.before d = false), fun _ _ _ => rfl⟩
  refine lwp_inv I (n := l.length) ?_ ?_
  · rw [hI]
    exact ⟨rfl, 0, l.length, rfl, by omega, by omega, (by simp only [bE, Nat.reduceEqDiff, ne_eq, not_false_eq_true, Nat.reduceLT, hlen]; try rfl), (by simp only [bE, Nat.reduceEqDiff, ne_eq, not_false_eq_true, Nat.reduceLT, hlen, h0]; try rfl), (by simp only [bE, Nat.reduceEqDiff, ne_eq, not_false_eq_true, Nat.reduceLT, hlen, h2]; try rfl), (by simp only [bE, Nat.reduceEqDiff, ne_eq, not_false_eq_true, Nat.reduceLT, hlen]; try rfl), (by simp only [bE, Nat.reduceEqDiff, ne_eq, not_false_eq_true, Nat.reduceLT, hlen]; try rfl), (by simp only [bE, Nat.reduceEqDiff, ne_eq, not_false_eq_true, Nat.reduceLT, hlen]; try rfl), (by simp only [bE, Nat.reduceEqDiff, ne_eq, not_false_eq_true, Nat.reduceLT, hlen]; try rfl), fun k y hk => by omega, fun k y hk hy => absurd (getlt hy) (by omega)⟩
  intro n e t hi
  rw [hI] at hi
  obtain ⟨rfl, i, j, rfl, hij, hjl, he, e0, e2, e4, e8, e9, e10, hpre, hpost⟩ := hi
  by_cases hlt : i < j
  · obtain ⟨m, hm⟩ : ∃ m, m = (i + j) / 2 := ⟨_, rfl⟩
    obtain ⟨x, hx⟩ := getsome (show m < l.length by omega)
    have w1 := wrap_addn (n := i) (m := j) (by unfold lim at hl; omega)
    have w2 := wrap_u64 (n := i + j) (by unfold lim at hl; omega)
    have w3 := wrap_nat (n := m) (by unfold lim at hl; omega)
    have w4 := wrap_add1 (n := m) (by unfold lim at hl; omega)
    have sh := bin_shr1 (i + j)
    rw [← hm] at sh
    obtain ⟨a1, a2, a3, a5, a6, a4⟩ := nd_lods hr hK1 hx
    have i1 := nd_idx hr hx .i64
    have q := q_Find1 false x d (s := s.push (.row (Dot.av d) true))
    cases hb : x.d.before d
    · have hz : (dcmp x.d d < 0) = False := by rw [dcmp_neg, hb]; simp
      simp (config := {contextual := true, maxDischargeDepth := 12}) only [tb_at, he, e0, e2, e4, e8, e9, e10, hlt, w1, w2, w3, sh, a1, a4, i1, b1, b4, q, hz, ↓bD, bU, forall_const, List.all_cons, List.all_nil, Option.map_some, List.map_cons, List.map_nil, ne_eq, implies_true, isNx, eq_self, ↓wp_cond, ↓wp_loop, ↓reduceIte, reduceCtorEq, Nat.reduceEqDiff, Nat.reduceLT, Nat.reduceAdd, Nat.reduceMul, Int.ofNat_lt, Int.ofNat_le, exists_const, Option.map_none, beq_self_eq_true, decide_true, ↓sg_bsl, ↓st_callf, bX, ap_mkfn, ae_callvV, callvV_fn, List.cons_append, List.nil_append, boxV_i, boxV_dot, sto_dot, ap_conv, convV_int, bslV_0, fstep_d0, fstep_d1, bsl_dot, ae_appz, ap_cap, capV_nils, slcV_nils0, slcV_sl0, wrap_0, ae_clr, boxV_f, fstep_f, lod_new2, ↓st_appf, slcV_nils0N, slcV_sl0N, bslV_0N, bin_shr1]
      refine ⟨m - i, by omega, ?_⟩
      rw [hI]
      exact ⟨rfl, i, m, rfl, by omega, by omega, (by simp only [bE, Nat.reduceEqDiff, ne_eq, not_false_eq_true, Nat.reduceLT, he, e0, e2, e4, e8, e9, e10]; try rfl), (by simp only [bE, Nat.reduceEqDiff, ne_eq, not_false_eq_true, Nat.reduceLT, he, e0, e2, e4, e8, e9, e10]; try rfl), (by simp only [bE, Nat.reduceEqDiff, ne_eq, not_false_eq_true, Nat.reduceLT, he, e0, e2, e4, e8, e9, e10]; try rfl), (by simp only [bE, Nat.reduceEqDiff, ne_eq, not_false_eq_true, Nat.reduceLT, he, e0, e2, e4, e8, e9, e10]; try rfl), (by simp only [bE, Nat.reduceEqDiff, ne_eq, not_false_eq_true, Nat.reduceLT, he, e0, e2, e4, e8, e9, e10]; try rfl), (by simp only [bE, Nat.reduceEqDiff, ne_eq, not_false_eq_true, Nat.reduceLT, he, e0, e2, e4, e8, e9, e10]; try rfl), (by simp only [bE, Nat.reduceEqDiff, ne_eq, not_false_eq_true, Nat.reduceLT, he, e0, e2, e4, e8, e9, e10]; try rfl), hpre, fun k y hk hy => by
        by_cases e : k = m
        · subst e
          rw [hx] at hy
          injection hy with hy
          rw [← hy]; exact hb
        · cases hb2 : y.d.before d
          · rfl
          · have := before_trans (sorted_lt hs hx hy (by omega)) hb2
            rw [hb] at this
            cases this⟩
    · have hz : (dcmp x.d d < 0) = True := by rw [dcmp_neg, hb]; simp
      simp (config := {contextual := true, maxDischargeDepth := 12}) only [tb_at, he, e0, e2, e4, e8, e9, e10, hlt, w1, w2, w3, w4, sh, a1, a4, i1, b1, b4, q, hz, ↓bD, bU, forall_const, List.all_cons, List.all_nil, Option.map_some, List.map_cons, List.map_nil, ne_eq, implies_true, isNx, eq_self, ↓wp_cond, ↓wp_loop, ↓reduceIte, reduceCtorEq, Nat.reduceEqDiff, Nat.reduceLT, Nat.reduceAdd, Nat.reduceMul, Int.ofNat_lt, Int.ofNat_le, exists_const, Option.map_none, beq_self_eq_true, decide_true, ↓sg_bsl, ↓st_callf, bX, ap_mkfn, ae_callvV, callvV_fn, List.cons_append, List.nil_append, boxV_i, boxV_dot, sto_dot, ap_conv, convV_int, bslV_0, fstep_d0, fstep_d1, bsl_dot, ae_appz, ap_cap, capV_nils, slcV_nils0, slcV_sl0, wrap_0, ae_clr, boxV_f, fstep_f, lod_new2, ↓st_appf, slcV_nils0N, slcV_sl0N, bslV_0N, bin_shr1]
      refine ⟨j - (m + 1), by omega, ?_⟩
      rw [hI]
      exact ⟨rfl, (m + 1), j, rfl, by omega, by omega, (by simp only [bE, Nat.reduceEqDiff, ne_eq, not_false_eq_true, Nat.reduceLT, he, e0, e2, e4, e8, e9, e10]; try rfl), (by simp only [bE, Nat.reduceEqDiff, ne_eq, not_false_eq_true, Nat.reduceLT, he, e0, e2, e4, e8, e9, e10]; try rfl), (by simp only [bE, Nat.reduceEqDiff, ne_eq, not_false_eq_true, Nat.reduceLT, he, e0, e2, e4, e8, e9, e10]; try rfl), (by simp only [bE, Nat.reduceEqDiff, ne_eq, not_false_eq_true, Nat.reduceLT, he, e0, e2, e4, e8, e9, e10]; try rfl), (by simp only [bE, Nat.reduceEqDiff, ne_eq, not_false_eq_true, Nat.reduceLT, he, e0, e2, e4, e8, e9, e10]; try rfl), (by simp only [bE, Nat.reduceEqDiff, ne_eq, not_false_eq_true, Nat.reduceLT, he, e0, e2, e4, e8, e9, e10]; try rfl), (by simp only [bE, Nat.reduceEqDiff, ne_eq, not_false_eq_true, Nat.reduceLT, he, e0, e2, e4, e8, e9, e10]; try rfl), fun k y hk hy => by
        by_cases e : k = m
        · subst e
          rw [hx] at hy
          injection hy with hy
          rw [← hy]; exact hb
        · exact before_trans (sorted_lt hs hy hx (by omega)) hb, hpost⟩
  · obtain rfl : i = j := by omega
    have hk : kOf l d = i := kOf_eq hjl hpre fun y hy => hpost i y (Nat.le_refl _) hy
    by_cases hil : i < l.length
    · obtain ⟨x, hx⟩ := getsome hil
      obtain ⟨a1, a2, a3, a5, a6, a4⟩ := nd_lods hr hK1 hx
      have i1 := nd_idx hr hx .i64
      have q := q_Find1 false x d (s := s.push (.row (Dot.av d) true))
      have hS : findV l d = .tup [.int .i64 (i : Int), .bool (decide (x.d = d))] := by simp only [findV, fndN, hk, hx]
      have hz := dcmp_zero x.d d
      simp (config := {contextual := true, maxDischargeDepth := 12}) only [tb_at, he, e0, e2, e4, e8, e9, e10, hlt, hil, a1, a4, i1, b1, b4, q, hz, hS, ↓bD, bU, forall_const, List.all_cons, List.all_nil, Option.map_some, List.map_cons, List.map_nil, ne_eq, implies_true, isNx, eq_self, ↓wp_cond, ↓wp_loop, ↓reduceIte, reduceCtorEq, Nat.reduceEqDiff, Nat.reduceLT, Nat.reduceAdd, Nat.reduceMul, Int.ofNat_lt, Int.ofNat_le, exists_const, Option.map_none, beq_self_eq_true, decide_true, ↓sg_bsl, ↓st_callf, bX, ap_mkfn, ae_callvV, callvV_fn, List.cons_append, List.nil_append, boxV_i, boxV_dot, sto_dot, ap_conv, convV_int, bslV_0, fstep_d0, fstep_d1, bsl_dot, ae_appz, ap_cap, capV_nils, slcV_nils0, slcV_sl0, wrap_0, ae_clr, boxV_f, fstep_f, lod_new2, ↓st_appf, slcV_nils0N, slcV_sl0N, bslV_0N, bin_shr1]
      all_goals first | exact hK1 | skip
    · have hn : l[i]? = none := List.getElem?_eq_none (by omega)
      have hS : findV l d = .tup [.int .i64 (i : Int), .bool false] := by simp only [findV, fndN, hk, hn]
      simp (config := {contextual := true, maxDischargeDepth := 12}) only [tb_at, he, e0, e2, e4, e8, e9, e10, hlt, hil, hS, ↓bD, bU, forall_const, List.all_cons, List.all_nil, Option.map_some, List.map_cons, List.map_nil, ne_eq, implies_true, isNx, eq_self, ↓wp_cond, ↓wp_loop, ↓reduceIte, reduceCtorEq, Nat.reduceEqDiff, Nat.reduceLT, Nat.reduceAdd, Nat.reduceMul, Int.ofNat_lt, Int.ofNat_le, exists_const, Option.map_none, beq_self_eq_true, decide_true, ↓sg_bsl, ↓st_callf, bX, ap_mkfn, ae_callvV, callvV_fn, List.cons_append, List.nil_append, boxV_i, boxV_dot, sto_dot, ap_conv, convV_int, bslV_0, fstep_d0, fstep_d1, bsl_dot, ae_appz, ap_cap, capV_nils, slcV_nils0, slcV_sl0, wrap_0, ae_clr, boxV_f, fstep_f, lod_new2, ↓st_appf, slcV_nils0N, slcV_sl0N, bslV_0N, bin_shr1]
      all_goals first | exact hK1 | skip
theorem q_BSrch (cl : Bool) {s : St} {v : AV} {l : List Nd} (hr : read ndC s v = some l) (hl : l.length ≤ lim) (hs : l.Pairwise ltP) (d : Dot) : acall R_BSrch cl [v, .agg (Dot.av d), .fn 93 []] s = some (findV l d, s) := run_same n_BSrch (by simp [a92]) rfl (w_BSrch (s := lowd s) (read_low' hr) hl hs d)
noncomputable def R_Sfind : Con := runFn (tb [(92, R_BSrch)]) a69
theorem s_Sfind : SoundAt Tryz.prog 69 R_Sfind := run_sound (tb_sound (l := [(92, R_BSrch)]) (by simpa using s_BSrch)) mixed Tryz.func69 k69 c69
theorem n_Sfind : noNxtC a69.body = true := by kernel_rfl
theorem w_Sfind {s : St} {v : AV} {l : List Nd} (hr : read ndC s v = some l) (hl : l.length ≤ lim) (hs : l.Pairwise ltP) (d : Dot) : ∀ env : Env, elen env = a69.ntmps → (∀ i x_, [v, .agg (Dot.av d)][i]? = some x_ → E env i = x_) → awp (tb [(92, R_BSrch)]) a69.body (fun x e t => (∀ i, x ≠ .exit i) ∧ aresults e t a69.results = some (findV l d) ∧ Keep s t) env s := by
  intro env hlen ha
  have h0 : E env 0 = _ := ha 0 _ rfl
  have h1 : E env 1 = _ := ha 1 _ rfl
  have hlen : elen env = _ := hlen
  simp only [a69] at hlen
  unfold a69
  try dsimp only [oO, oG]
  have hK1 : Keep s (s.push (.row (Dot.av d) true)) := (Keep.refl s).push _
  obtain ⟨b1, b2, b3, b4⟩ := box_dot s d (.refl _)
  have q := q_BSrch false (hK1.read hr) hl hs d
  have hS : findV l d = .tup [.int .i64 ((kOf l d : Nat) : Int), .bool (fndN l d)] := rfl
  rw [hS] at q
  simp (config := {contextual := true, maxDischargeDepth := 12}) only [tb_at, h0, h1, hlen, b1, b4, q, hS, ↓bD, bU, forall_const, List.all_cons, List.all_nil, Option.map_some, List.map_cons, List.map_nil, ne_eq, implies_true, isNx, eq_self, ↓wp_cond, ↓wp_loop, ↓reduceIte, reduceCtorEq, Nat.reduceEqDiff, Nat.reduceLT, Nat.reduceAdd, Nat.reduceMul, Int.ofNat_lt, Int.ofNat_le, exists_const, Option.map_none, beq_self_eq_true, decide_true, ↓sg_bsl, ↓st_callf, bX, ap_mkfn, ae_callvV, callvV_fn, List.cons_append, List.nil_append, boxV_i, boxV_dot, sto_dot, ap_conv, convV_int, bslV_0, fstep_d0, fstep_d1, bsl_dot, ae_appz, ap_cap, capV_nils, slcV_nils0, slcV_sl0, wrap_0, ae_clr, boxV_f, fstep_f, lod_new2, ↓st_appf, slcV_nils0N, slcV_sl0N, bslV_0N, bin_shr1]
  all_goals first | exact hK1 | skip
theorem q_Sfind (cl : Bool) {s : St} {v : AV} {l : List Nd} (hr : read ndC s v = some l) (hl : l.length ≤ lim) (hs : l.Pairwise ltP) (d : Dot) : acall R_Sfind cl [v, .agg (Dot.av d)] s = some (findV l d, s) := run_same n_Sfind (by simp [a69]) rfl (w_Sfind (s := lowd s) (read_low' hr) hl hs d)

def findP (l : List Nd) (d : Dot) : Nd × Int := if storeL l = true ∧ d.valid = true then (match getN l d with
  | some x => (x, 0)
  | none => (nd0, 9)) else (nd0, 2)
theorem getN_at {l : List Nd} (hl : l.Pairwise ltP) (d : Dot) : (fndN l d = true ∧ ∃ x, l[kOf l d]? = some x ∧ getN l d = some x) ∨ (fndN l d = false ∧ getN l d = none) := by
  cases h : fndN l d
  · refine .inr ⟨rfl, ?_⟩
    cases hg : getN l d with
    | none => rfl
    | some x =>
      obtain ⟨h1, h2⟩ := getN_some hg
      rw [fnd_has hl] at h
      have := hasN_iff.2 ⟨x, h1, h2⟩
      rw [h] at this
      cases this
  · refine .inl ⟨rfl, ?_⟩
    unfold fndN at h
    split at h
    · rename_i x hx
      have e : x.d = d := by simpa using h
      have := getN_mem hl (List.mem_of_getElem? hx)
      rw [e] at this
      exact ⟨x, hx, this⟩
    · cases h
noncomputable def R_SFind : Con := runFn (tb [(31, conL ndC fValid), (68, conD fDotValid), (69, R_Sfind)]) a36
theorem s_SFind : SoundAt Tryz.prog 36 R_SFind := run_sound (tb_sound (l := [(31, conL ndC fValid), (68, conD fDotValid), (69, R_Sfind)]) (by simpa using ⟨s_StValid, s_DotValid, s_Sfind⟩)) mixed Tryz.func36 k36 c36
theorem n_SFind : noNxtC a36.body = true := by kernel_rfl
theorem w_SFind {s : St} {v : AV} {l : List Nd} (hr : read ndC s v = some l) (hl : l.length ≤ lim) (d : Dot) : ∀ env : Env, elen env = a36.ntmps → (∀ i x_, [v, .agg (Dot.av d)][i]? = some x_ → E env i = x_) → awp (tb [(31, conL ndC fValid), (68, conD fDotValid), (69, R_Sfind)]) a36.body (fun x e t => (∀ i, x ≠ .exit i) ∧ aresults e t a36.results = some (.tup [.agg (Nd.av (findP l d).1), .int .i64 (findP l d).2]) ∧ Keep s t) env s := by
  intro env hlen ha
  have h0 : E env 0 = _ := ha 0 _ rfl
  have h1 : E env 1 = _ := ha 1 _ rfl
  have hlen : elen env = _ := hlen
  simp only [a36] at hlen
  unfold a36
  try dsimp only [oO, oG]
  have hK1 : Keep s (s.push (.row (Dot.av d) true)) := (Keep.refl s).push _
  have hK2 : Keep s ((s.push (.row (Dot.av d) true)).push (.row [.int .i64 0, .int .i64 0, .int .i64 0, .int .i64 0, .int .i64 0, .int .i32 0] true)) := hK1.push _
  obtain ⟨b1, b2, b3, b4⟩ := box_dot s d ((Keep.refl (s.push (.row (Dot.av d) true))).push (.row [.int .i64 0, .int .i64 0, .int .i64 0, .int .i64 0, .int .i64 0, .int .i32 0] true))
  have q1 := q_StValid false (hK2.read hr) hl
  have q2 := q_DotValid false d (s := (s.push (.row (Dot.av d) true)).push (.row [.int .i64 0, .int .i64 0, .int .i64 0, .int .i64 0, .int .i64 0, .int .i32 0] true))
  cases hst : storeL l
  · have hS : findP l d = (nd0, 2) := by unfold findP; rw [if_neg (by simp [hst])]
    rw [hst] at q1
    rw [hS]
    simp (config := {contextual := true, maxDischargeDepth := 12}) only [tb_at, h0, h1, hlen, q1, notV_bool, Bool.not_false, ↓bD, bU, forall_const, List.all_cons, List.all_nil, Option.map_some, List.map_cons, List.map_nil, ne_eq, implies_true, isNx, eq_self, ↓wp_cond, ↓wp_loop, ↓reduceIte, reduceCtorEq, Nat.reduceEqDiff, Nat.reduceLT, Nat.reduceAdd, Nat.reduceMul, Int.ofNat_lt, Int.ofNat_le, exists_const, Option.map_none, beq_self_eq_true, decide_true, ↓sg_bsl, ↓st_callf, bX, ap_mkfn, ae_callvV, callvV_fn, List.cons_append, List.nil_append, boxV_i, boxV_dot, sto_dot, ap_conv, convV_int, bslV_0, fstep_d0, fstep_d1, bsl_dot, ae_appz, ap_cap, capV_nils, slcV_nils0, slcV_sl0, wrap_0, ae_clr, boxV_f, fstep_f, lod_new2, ↓st_appf, slcV_nils0N, slcV_sl0N, bslV_0N, bin_shr1]
    all_goals first | rfl | skip
  cases hdv : d.valid
  · have hS : findP l d = (nd0, 2) := by unfold findP; rw [if_neg (by simp [hdv])]
    rw [hst] at q1
    rw [hdv] at q2
    rw [hS]
    simp (config := {contextual := true, maxDischargeDepth := 12}) only [tb_at, h0, h1, hlen, b1, b4, q1, q2, notV_bool, Bool.not_false, Bool.not_true, ↓bD, bU, forall_const, List.all_cons, List.all_nil, Option.map_some, List.map_cons, List.map_nil, ne_eq, implies_true, isNx, eq_self, ↓wp_cond, ↓wp_loop, ↓reduceIte, reduceCtorEq, Nat.reduceEqDiff, Nat.reduceLT, Nat.reduceAdd, Nat.reduceMul, Int.ofNat_lt, Int.ofNat_le, exists_const, Option.map_none, beq_self_eq_true, decide_true, ↓sg_bsl, ↓st_callf, bX, ap_mkfn, ae_callvV, callvV_fn, List.cons_append, List.nil_append, boxV_i, boxV_dot, sto_dot, ap_conv, convV_int, bslV_0, fstep_d0, fstep_d1, bsl_dot, ae_appz, ap_cap, capV_nils, slcV_nils0, slcV_sl0, wrap_0, ae_clr, boxV_f, fstep_f, lod_new2, ↓st_appf, slcV_nils0N, slcV_sl0N, bslV_0N, bin_shr1]
    all_goals first | rfl | skip
  have hs := store_sorted hst
  have q3 := q_Sfind false (hK2.read hr) hl hs d
  rw [hst] at q1
  rw [hdv] at q2
  unfold findV at q3
  rcases getN_at hs d with ⟨hf, x, hx, hg⟩ | ⟨hf, hg⟩
  · have hS : findP l d = (x, 0) := by unfold findP; rw [if_pos ⟨hst, hdv⟩, hg]
    rw [hf] at q3
    rw [hS]
    obtain ⟨a1, a2, a3, a5, a6, a4⟩ := nd_lods hr hK2 hx
    have i1 := nd_idx hr hx .i64
    simp (config := {contextual := true, maxDischargeDepth := 12}) only [tb_at, h0, h1, hlen, b1, b4, q1, q2, q3, a1, a4, i1, notV_bool, Bool.not_false, Bool.not_true, ↓bD, bU, forall_const, List.all_cons, List.all_nil, Option.map_some, List.map_cons, List.map_nil, ne_eq, implies_true, isNx, eq_self, ↓wp_cond, ↓wp_loop, ↓reduceIte, reduceCtorEq, Nat.reduceEqDiff, Nat.reduceLT, Nat.reduceAdd, Nat.reduceMul, Int.ofNat_lt, Int.ofNat_le, exists_const, Option.map_none, beq_self_eq_true, decide_true, ↓sg_bsl, ↓st_callf, bX, ap_mkfn, ae_callvV, callvV_fn, List.cons_append, List.nil_append, boxV_i, boxV_dot, sto_dot, ap_conv, convV_int, bslV_0, fstep_d0, fstep_d1, bsl_dot, ae_appz, ap_cap, capV_nils, slcV_nils0, slcV_sl0, wrap_0, ae_clr, boxV_f, fstep_f, lod_new2, ↓st_appf, slcV_nils0N, slcV_sl0N, bslV_0N, bin_shr1]
    all_goals first | rfl | skip
  · have hS : findP l d = (nd0, 9) := by unfold findP; rw [if_pos ⟨hst, hdv⟩, hg]
    rw [hf] at q3
    rw [hS]
    simp (config := {contextual := true, maxDischargeDepth := 12}) only [tb_at, h0, h1, hlen, b1, b4, q1, q2, q3, notV_bool, Bool.not_false, Bool.not_true, ↓bD, bU, forall_const, List.all_cons, List.all_nil, Option.map_some, List.map_cons, List.map_nil, ne_eq, implies_true, isNx, eq_self, ↓wp_cond, ↓wp_loop, ↓reduceIte, reduceCtorEq, Nat.reduceEqDiff, Nat.reduceLT, Nat.reduceAdd, Nat.reduceMul, Int.ofNat_lt, Int.ofNat_le, exists_const, Option.map_none, beq_self_eq_true, decide_true, ↓sg_bsl, ↓st_callf, bX, ap_mkfn, ae_callvV, callvV_fn, List.cons_append, List.nil_append, boxV_i, boxV_dot, sto_dot, ap_conv, convV_int, bslV_0, fstep_d0, fstep_d1, bsl_dot, ae_appz, ap_cap, capV_nils, slcV_nils0, slcV_sl0, wrap_0, ae_clr, boxV_f, fstep_f, lod_new2, ↓st_appf, slcV_nils0N, slcV_sl0N, bslV_0N, bin_shr1]
    all_goals first | rfl | skip
theorem q_SFind (cl : Bool) {s : St} {v : AV} {l : List Nd} (hr : read ndC s v = some l) (hl : l.length ≤ lim) (d : Dot) : acall R_SFind cl [v, .agg (Dot.av d)] s = some (.tup [.agg (Nd.av (findP l d).1), .int .i64 (findP l d).2], s) := run_same n_SFind (by simp [a36]) rfl (w_SFind (s := lowd s) (read_low' hr) hl d)

end Go.AM
end
/-
  The reference of layer 10: Valid, Equal, Find. Own work of this project; in part printed by a program of it.
-/
section
set_option linter.unusedVariables false
set_option linter.unusedSimpArgs false
set_option maxRecDepth 100000
set_option maxHeartbeats 8000000
namespace Go.AM
open Go Go.Proofs

variable {s t u : St}

theorem storeL_true {l : List Nd} (h1 : ∀ k y, k < l.length → l[k]? = some y → y.valid = true) (h2 : ∀ k a b, k + 1 < l.length → l[k]? = some a → l[k + 1]? = some b → a.d.before b.d = true) : storeL l = true := by
  simp only [storeL, Bool.and_eq_true]
  refine ⟨all_at h1, (chain_iff _ _).2 fun i x y hx hy => h2 i x y (getlt hy) hx hy⟩
theorem wrap_pred {n : Nat} (h : n < 4611686018427387904) : IntKind.i64.wrap (((n + 1 : Nat) : Int) - 1) = (n : Int) := by
  have e : ((n + 1 : Nat) : Int) - 1 = (n : Int) := by omega
  rw [e]
  exact wrap_nat h
noncomputable def R_RStV : Con := runFn (tb [(14, R_RNVal), (44, R_RLess)]) a10
theorem s_RStV : SoundAt Tryz.prog 10 R_RStV := run_sound (tb_sound (l := [(14, R_RNVal), (44, R_RLess)]) (by simpa using ⟨s_RNVal, s_RLess⟩)) mixed Tryz.func10 k10 c10
theorem n_RStV : noNxtC a10.body = true := by kernel_rfl
theorem w_RStV {s : St} {v : AV} {l : List Nd} (hr : read ndC s v = some l) (hl : l.length ≤ lim) (ho : okL l) : ∀ env : Env, elen env = a10.ntmps → (∀ i x_, [v][i]? = some x_ → E env i = x_) → awp (tb [(14, R_RNVal), (44, R_RLess)]) a10.body (fun x e t => (∀ i, x ≠ .exit i) ∧ aresults e t a10.results = some (.bool (storeL l)) ∧ Keep s t) env s := by
  intro env hlen ha
  have h0 : E env 0 = _ := ha 0 _ rfl
  have hlen : elen env = _ := hlen
  simp only [a10] at hlen
  unfold a10
  try dsimp only [oO, oG]
  have hL := lenV_read hr
  simp (config := {contextual := true, maxDischargeDepth := 12}) only [tb_at, h0, hlen, hL, ↓bD, bU, forall_const, List.all_cons, List.all_nil, Option.map_some, List.map_cons, List.map_nil, ne_eq, implies_true, isNx, eq_self, ↓wp_cond, ↓wp_loop, ↓reduceIte, reduceCtorEq, Nat.reduceEqDiff, Nat.reduceLT, Nat.reduceAdd, Nat.reduceMul, Int.ofNat_lt, Int.ofNat_le, exists_const, Option.map_none, beq_self_eq_true, decide_true, ↓sg_bsl, ↓st_callf, bX, ap_mkfn, ae_callvV, callvV_fn, List.cons_append, List.nil_append, boxV_i, boxV_dot, sto_dot, ap_conv, convV_int, bslV_0, fstep_d0, fstep_d1, bsl_dot, ae_appz, ap_cap, capV_nils, slcV_nils0, slcV_sl0, wrap_0, ae_clr, boxV_f, fstep_f, lod_new2, ↓st_appf, slcV_nils0N, slcV_sl0N, bslV_0N, bin_shr1]
  obtain ⟨I, hI⟩ : ∃ I : Nat → Env → St → Prop, ∀ n e t, I n e t = (t = s ∧ ∃ i : Nat, n + i = l.length ∧ elen e = 35 ∧ E e 0 = v ∧ E e 3 = .int .i64 (i : Int) ∧ (∀ k y, k < i → l[k]? = some y → y.valid = true) ∧ ∀ k a b, k + 1 < i → l[k]? = some a → l[k + 1]? = some b → a.d.before b.d = true) := ⟨fun n e t => (t = s ∧ ∃ i : Nat, n + i = l.length ∧ elen e = 35 ∧ E e 0 = v ∧ E e 3 = .int .i64 (i : Int) ∧ (∀ k y, k < i → l[k]? = some y → y.valid = true) ∧ ∀ k a b, k + 1 < i → l[k]? = some a → l[k + 1]? = some b → a.d.before b.d = true), fun _ _ _ => rfl⟩
  refine lwp_inv I (n := l.length) ?_ ?_
  · rw [hI]
    exact ⟨rfl, 0, by omega, (by simp only [bE, Nat.reduceEqDiff, ne_eq, not_false_eq_true, Nat.reduceLT, hlen]; try rfl), (by simp only [bE, Nat.reduceEqDiff, ne_eq, not_false_eq_true, Nat.reduceLT, hlen, h0]; try rfl), (by simp only [bE, Nat.reduceEqDiff, ne_eq, not_false_eq_true, Nat.reduceLT, hlen]; try rfl), fun k y hk => by omega, fun k a b hk => by omega⟩
  intro n e t hi
  rw [hI] at hi
  obtain ⟨hK, i, hni, he, e0, e3, hp1, hp2⟩ := hi
  subst hK
  by_cases hlt : i < l.length
  · obtain ⟨x, hx⟩ := getsome hlt
    have hw2 := wrap_add1 (n := i) (by unfold lim at hl; omega)
    obtain ⟨a1, a2, a3, a5, a6, a4⟩ := nd_lods hr (.refl _) hx
    have i1 := nd_idx hr hx .i64
    have q1 := q_RNVal false (ho x (mem_at hx)) (s := t)
    cases hv : x.valid
    · rw [hv] at q1
      have hS := storeL_false hx hv
      simp (config := {contextual := true, maxDischargeDepth := 12}) only [tb_at, he, e0, e3, hL, hlt, hw2, a1, a2, a4, i1, q1, hS, notV_bool, Bool.not_false, ↓bD, bU, forall_const, List.all_cons, List.all_nil, Option.map_some, List.map_cons, List.map_nil, ne_eq, implies_true, isNx, eq_self, ↓wp_cond, ↓wp_loop, ↓reduceIte, reduceCtorEq, Nat.reduceEqDiff, Nat.reduceLT, Nat.reduceAdd, Nat.reduceMul, Int.ofNat_lt, Int.ofNat_le, exists_const, Option.map_none, beq_self_eq_true, decide_true, ↓sg_bsl, ↓st_callf, bX, ap_mkfn, ae_callvV, callvV_fn, List.cons_append, List.nil_append, boxV_i, boxV_dot, sto_dot, ap_conv, convV_int, bslV_0, fstep_d0, fstep_d1, bsl_dot, ae_appz, ap_cap, capV_nils, slcV_nils0, slcV_sl0, wrap_0, ae_clr, boxV_f, fstep_f, lod_new2, ↓st_appf, slcV_nils0N, slcV_sl0N, bslV_0N, bin_shr1]
      all_goals first | exact .refl _ | skip
    · rw [hv] at q1
      by_cases h0i : i = 0
      · have hz : ((0 : Int) < (i : Int)) = False := eq_false (by omega)
        simp (config := {contextual := true, maxDischargeDepth := 12}) only [tb_at, he, e0, e3, hL, hlt, hw2, a1, a2, a4, i1, q1, hz, notV_bool, Bool.not_true, ↓bD, bU, forall_const, List.all_cons, List.all_nil, Option.map_some, List.map_cons, List.map_nil, ne_eq, implies_true, isNx, eq_self, ↓wp_cond, ↓wp_loop, ↓reduceIte, reduceCtorEq, Nat.reduceEqDiff, Nat.reduceLT, Nat.reduceAdd, Nat.reduceMul, Int.ofNat_lt, Int.ofNat_le, exists_const, Option.map_none, beq_self_eq_true, decide_true, ↓sg_bsl, ↓st_callf, bX, ap_mkfn, ae_callvV, callvV_fn, List.cons_append, List.nil_append, boxV_i, boxV_dot, sto_dot, ap_conv, convV_int, bslV_0, fstep_d0, fstep_d1, bsl_dot, ae_appz, ap_cap, capV_nils, slcV_nils0, slcV_sl0, wrap_0, ae_clr, boxV_f, fstep_f, lod_new2, ↓st_appf, slcV_nils0N, slcV_sl0N, bslV_0N, bin_shr1]
        refine ⟨n - 1, by omega, ?_⟩
        rw [hI]
        exact ⟨rfl, i + 1, by omega, (by simp only [bE, Nat.reduceEqDiff, ne_eq, not_false_eq_true, Nat.reduceLT, he, e0, e3]; try rfl), (by simp only [bE, Nat.reduceEqDiff, ne_eq, not_false_eq_true, Nat.reduceLT, he, e0, e3]; try rfl), (by simp only [bE, Nat.reduceEqDiff, ne_eq, not_false_eq_true, Nat.reduceLT, he, e0, e3]; try rfl), pre_next (P := fun k y => y.valid = true) hx hp1 hv, fun k a b hk => by omega⟩
      · obtain ⟨k, rfl⟩ : ∃ k, i = k + 1 := ⟨i - 1, by omega⟩
        have hz : ((0 : Int) < ((k + 1 : Nat) : Int)) = True := eq_true (by omega)
        have hwp := wrap_pred (n := k) (by unfold lim at hl; omega)
        obtain ⟨y, hy⟩ := getsome (show k < l.length by omega)
        obtain ⟨c1, c2, c3, c5, c6, c4⟩ := nd_lods hr (.refl _) hy
        have i2 := nd_idx hr hy .i64
        have q2 := q_RLess false y.d x.d (s := t)
        cases hb : y.d.before x.d
        · rw [hb] at q2
          have hS := storeL_false' hy hx hb
          simp (config := {contextual := true, maxDischargeDepth := 12}) only [tb_at, he, e0, e3, hL, hlt, hw2, a1, a2, a4, i1, q1, hz, hwp, c2, c4, i2, q2, hS, notV_bool, Bool.not_true, Bool.not_false, ↓bD, bU, forall_const, List.all_cons, List.all_nil, Option.map_some, List.map_cons, List.map_nil, ne_eq, implies_true, isNx, eq_self, ↓wp_cond, ↓wp_loop, ↓reduceIte, reduceCtorEq, Nat.reduceEqDiff, Nat.reduceLT, Nat.reduceAdd, Nat.reduceMul, Int.ofNat_lt, Int.ofNat_le, exists_const, Option.map_none, beq_self_eq_true, decide_true, ↓sg_bsl, ↓st_callf, bX, ap_mkfn, ae_callvV, callvV_fn, List.cons_append, List.nil_append, boxV_i, boxV_dot, sto_dot, ap_conv, convV_int, bslV_0, fstep_d0, fstep_d1, bsl_dot, ae_appz, ap_cap, capV_nils, slcV_nils0, slcV_sl0, wrap_0, ae_clr, boxV_f, fstep_f, lod_new2, ↓st_appf, slcV_nils0N, slcV_sl0N, bslV_0N, bin_shr1]
          all_goals first | exact .refl _ | skip
        · rw [hb] at q2
          simp (config := {contextual := true, maxDischargeDepth := 12}) only [tb_at, he, e0, e3, hL, hlt, hw2, a1, a2, a4, i1, q1, hz, hwp, c2, c4, i2, q2, notV_bool, Bool.not_true, Bool.not_false, ↓bD, bU, forall_const, List.all_cons, List.all_nil, Option.map_some, List.map_cons, List.map_nil, ne_eq, implies_true, isNx, eq_self, ↓wp_cond, ↓wp_loop, ↓reduceIte, reduceCtorEq, Nat.reduceEqDiff, Nat.reduceLT, Nat.reduceAdd, Nat.reduceMul, Int.ofNat_lt, Int.ofNat_le, exists_const, Option.map_none, beq_self_eq_true, decide_true, ↓sg_bsl, ↓st_callf, bX, ap_mkfn, ae_callvV, callvV_fn, List.cons_append, List.nil_append, boxV_i, boxV_dot, sto_dot, ap_conv, convV_int, bslV_0, fstep_d0, fstep_d1, bsl_dot, ae_appz, ap_cap, capV_nils, slcV_nils0, slcV_sl0, wrap_0, ae_clr, boxV_f, fstep_f, lod_new2, ↓st_appf, slcV_nils0N, slcV_sl0N, bslV_0N, bin_shr1]
          refine ⟨n - 1, by omega, ?_⟩
          rw [hI]
          exact ⟨rfl, k + 1 + 1, by omega, (by simp only [bE, Nat.reduceEqDiff, ne_eq, not_false_eq_true, Nat.reduceLT, he, e0, e3]; try rfl), (by simp only [bE, Nat.reduceEqDiff, ne_eq, not_false_eq_true, Nat.reduceLT, he, e0, e3]; try rfl), (by simp only [bE, Nat.reduceEqDiff, ne_eq, not_false_eq_true, Nat.reduceLT, he, e0, e3]; try rfl), pre_next (P := fun k y => y.valid = true) hx hp1 hv, fun k2 a b hk ha hb2 => by
            by_cases e : k2 + 1 < k + 1
            · exact hp2 k2 a b e ha hb2
            · obtain rfl : k2 = k := by omega
              rw [hy] at ha
              rw [hx] at hb2
              injection ha with ha
              injection hb2 with hb2
              rw [← ha, ← hb2]
              exact hb⟩
  · obtain rfl : i = l.length := by omega
    have hS := storeL_true hp1 hp2
    simp (config := {contextual := true, maxDischargeDepth := 12}) only [tb_at, he, e0, e3, hL, hlt, hS, ↓bD, bU, forall_const, List.all_cons, List.all_nil, Option.map_some, List.map_cons, List.map_nil, ne_eq, implies_true, isNx, eq_self, ↓wp_cond, ↓wp_loop, ↓reduceIte, reduceCtorEq, Nat.reduceEqDiff, Nat.reduceLT, Nat.reduceAdd, Nat.reduceMul, Int.ofNat_lt, Int.ofNat_le, exists_const, Option.map_none, beq_self_eq_true, decide_true, ↓sg_bsl, ↓st_callf, bX, ap_mkfn, ae_callvV, callvV_fn, List.cons_append, List.nil_append, boxV_i, boxV_dot, sto_dot, ap_conv, convV_int, bslV_0, fstep_d0, fstep_d1, bsl_dot, ae_appz, ap_cap, capV_nils, slcV_nils0, slcV_sl0, wrap_0, ae_clr, boxV_f, fstep_f, lod_new2, ↓st_appf, slcV_nils0N, slcV_sl0N, bslV_0N, bin_shr1]
    all_goals first | exact .refl _ | skip
theorem q_RStV (cl : Bool) {s : St} {v : AV} {l : List Nd} (hr : read ndC s v = some l) (hl : l.length ≤ lim) (ho : okL l) : acall R_RStV cl [v] s = some (.bool (storeL l), s) := run_same n_RStV (by simp [a10]) rfl (w_RStV (s := lowd s) (read_low' hr) hl ho)
noncomputable def R_REq : Con := runFn (tb []) a17
theorem s_REq : SoundAt Tryz.prog 17 R_REq := run_sound (tb_sound (l := []) (by simp)) mixed Tryz.func17 k17 c17
theorem n_REq : noNxtC a17.body = true := by kernel_rfl
theorem w_REq {s : St} {v : AV} {l : List Nd} (hr : read ndC s v = some l) (hl : l.length ≤ lim) {w : AV} {m : List Nd} (hrw : read ndC s w = some m) (hm : m.length ≤ lim) : ∀ env : Env, elen env = a17.ntmps → (∀ i x_, [v, w][i]? = some x_ → E env i = x_) → awp (tb []) a17.body (fun x e t => (∀ i, x ≠ .exit i) ∧ aresults e t a17.results = some (.bool (decide (l = m))) ∧ Keep s t) env s := by
  intro env hlen ha
  have h0 : E env 0 = _ := ha 0 _ rfl
  have h1 : E env 1 = _ := ha 1 _ rfl
  have hlen : elen env = _ := hlen
  simp only [a17] at hlen
  unfold a17
  try dsimp only [oO, oG]
  have hL := lenV_read hr
  have hM := lenV_read hrw
  by_cases hlm : l.length = m.length
  · have hz : ((l.length : Int) = (m.length : Int)) = True := eq_true (by omega)
    simp (config := {contextual := true, maxDischargeDepth := 12}) only [tb_at, h0, h1, hlen, hL, hM, hz, ↓bD, bU, forall_const, List.all_cons, List.all_nil, Option.map_some, List.map_cons, List.map_nil, ne_eq, implies_true, isNx, eq_self, ↓wp_cond, ↓wp_loop, ↓reduceIte, reduceCtorEq, Nat.reduceEqDiff, Nat.reduceLT, Nat.reduceAdd, Nat.reduceMul, Int.ofNat_lt, Int.ofNat_le, exists_const, Option.map_none, beq_self_eq_true, decide_true, ↓sg_bsl, ↓st_callf, bX, ap_mkfn, ae_callvV, callvV_fn, List.cons_append, List.nil_append, boxV_i]
    obtain ⟨I, hI⟩ : ∃ I : Nat → Env → St → Prop, ∀ n e t, I n e t = (t = s ∧ ∃ i : Nat, n + i = l.length ∧ elen e = 26 ∧ E e 0 = v ∧ E e 1 = w ∧ E e 5 = .int .i64 (i : Int) ∧ ∀ k y, k < i → l[k]? = some y → m[k]? = some y) := ⟨fun n e t => (t = s ∧ ∃ i : Nat, n + i = l.length ∧ elen e = 26 ∧ E e 0 = v ∧ E e 1 = w ∧ E e 5 = .int .i64 (i : Int) ∧ ∀ k y, k < i → l[k]? = some y → m[k]? = some y), fun _ _ _ => rfl⟩
    refine lwp_inv I (n := l.length) ?_ ?_
    · rw [hI]
      exact ⟨rfl, 0, by omega, (by simp only [bE, Nat.reduceEqDiff, ne_eq, not_false_eq_true, Nat.reduceLT, hlen]; try rfl), (by simp only [bE, Nat.reduceEqDiff, ne_eq, not_false_eq_true, Nat.reduceLT, hlen, h0]; try rfl), (by simp only [bE, Nat.reduceEqDiff, ne_eq, not_false_eq_true, Nat.reduceLT, hlen, h1]; try rfl), (by simp only [bE, Nat.reduceEqDiff, ne_eq, not_false_eq_true, Nat.reduceLT, hlen]; try rfl), fun k y hk => by omega⟩
    intro n e t hi
    rw [hI] at hi
    obtain ⟨hK, i, hni, he, e0, e1, e5, hpre⟩ := hi
    subst hK
    by_cases hlt : i < l.length
    · obtain ⟨x, hx⟩ := getsome hlt
      obtain ⟨y, hy⟩ := getsome (l := m) (i := i) (by omega)
      have hw2 := wrap_add1 (n := i) (by unfold lim at hl; omega)
      obtain ⟨a1, a2, a3, a4x, a4y, a4⟩ := nd_lods hr (.refl _) hx
      have i1 := nd_idx hr hx .i64
      obtain ⟨b1, b2, b3, b4x, b4y, b4⟩ := nd_lods hrw (.refl _) hy
      have i2 := nd_idx hrw hy .i64
      by_cases hp : x = y
      · have hz := eq_true hp
        simp (config := {contextual := true, maxDischargeDepth := 12}) only [tb_at, he, e0, e1, e5, hL, hM, hlt, hw2, a1, i1, b1, i2, hz, reserve0, ↓bD, bU, forall_const, List.all_cons, List.all_nil, Option.map_some, List.map_cons, List.map_nil, ne_eq, implies_true, isNx, eq_self, ↓wp_cond, ↓wp_loop, ↓reduceIte, reduceCtorEq, Nat.reduceEqDiff, Nat.reduceLT, Nat.reduceAdd, Nat.reduceMul, Int.ofNat_lt, Int.ofNat_le, exists_const, Option.map_none, beq_self_eq_true, decide_true, ↓sg_bsl, ↓st_callf, bX, ap_mkfn, ae_callvV, callvV_fn, List.cons_append, List.nil_append, boxV_i]
        refine ⟨n - 1, by omega, ?_⟩
        rw [hI]
        exact ⟨rfl, i + 1, by omega, (by simp only [bE, Nat.reduceEqDiff, ne_eq, not_false_eq_true, Nat.reduceLT, he, e0, e1, e5]; try rfl), (by simp only [bE, Nat.reduceEqDiff, ne_eq, not_false_eq_true, Nat.reduceLT, he, e0, e1, e5]; try rfl), (by simp only [bE, Nat.reduceEqDiff, ne_eq, not_false_eq_true, Nat.reduceLT, he, e0, e1, e5]; try rfl), (by simp only [bE, Nat.reduceEqDiff, ne_eq, not_false_eq_true, Nat.reduceLT, he, e0, e1, e5]; try rfl), pre_next (P := fun k y => m[k]? = some y) hx hpre (by rw [hp]; exact hy)⟩
      · have hz := eq_false hp
        have hS : decide (l = m) = false := decide_eq_false (ne_at hx hy hp)
        simp (config := {contextual := true, maxDischargeDepth := 12}) only [tb_at, he, e0, e1, e5, hL, hM, hlt, hw2, a1, i1, b1, i2, hz, hS, reserve0, ↓bD, bU, forall_const, List.all_cons, List.all_nil, Option.map_some, List.map_cons, List.map_nil, ne_eq, implies_true, isNx, eq_self, ↓wp_cond, ↓wp_loop, ↓reduceIte, reduceCtorEq, Nat.reduceEqDiff, Nat.reduceLT, Nat.reduceAdd, Nat.reduceMul, Int.ofNat_lt, Int.ofNat_le, exists_const, Option.map_none, beq_self_eq_true, decide_true, ↓sg_bsl, ↓st_callf, bX, ap_mkfn, ae_callvV, callvV_fn, List.cons_append, List.nil_append, boxV_i]
        all_goals first | exact .refl _ | skip
    · obtain rfl : i = l.length := by omega
      have hS : decide (l = m) = true := decide_eq_true (eq_of_at hlm fun k x y hx hy => by
        have := hpre k x (getlt hx) hx
        rw [hy] at this
        exact (Option.some.inj this).symm)
      simp (config := {contextual := true, maxDischargeDepth := 12}) only [tb_at, he, e0, e1, e5, hL, hM, hlt, hS, ↓bD, bU, forall_const, List.all_cons, List.all_nil, Option.map_some, List.map_cons, List.map_nil, ne_eq, implies_true, isNx, eq_self, ↓wp_cond, ↓wp_loop, ↓reduceIte, reduceCtorEq, Nat.reduceEqDiff, Nat.reduceLT, Nat.reduceAdd, Nat.reduceMul, Int.ofNat_lt, Int.ofNat_le, exists_const, Option.map_none, beq_self_eq_true, decide_true, ↓sg_bsl, ↓st_callf, bX, ap_mkfn, ae_callvV, callvV_fn, List.cons_append, List.nil_append, boxV_i]
      all_goals first | exact .refl _ | skip
  · have hz : ((l.length : Int) = (m.length : Int)) = False := eq_false (by omega)
    have hS : decide (l = m) = false := decide_eq_false fun h => hlm (by rw [h])
    simp (config := {contextual := true, maxDischargeDepth := 12}) only [tb_at, h0, h1, hlen, hL, hM, hz, hS, ↓bD, bU, forall_const, List.all_cons, List.all_nil, Option.map_some, List.map_cons, List.map_nil, ne_eq, implies_true, isNx, eq_self, ↓wp_cond, ↓wp_loop, ↓reduceIte, reduceCtorEq, Nat.reduceEqDiff, Nat.reduceLT, Nat.reduceAdd, Nat.reduceMul, Int.ofNat_lt, Int.ofNat_le, exists_const, Option.map_none, beq_self_eq_true, decide_true, ↓sg_bsl, ↓st_callf, bX, ap_mkfn, ae_callvV, callvV_fn, List.cons_append, List.nil_append, boxV_i]
    all_goals first | exact .refl _ | skip
theorem q_REq (cl : Bool) {s : St} {v : AV} {l : List Nd} (hr : read ndC s v = some l) (hl : l.length ≤ lim) {w : AV} {m : List Nd} (hrw : read ndC s w = some m) (hm : m.length ≤ lim) : acall R_REq cl [v, w] s = some (.bool (decide (l = m)), s) := run_same n_REq (by simp [a17]) rfl (w_REq (s := lowd s) (read_low' hr) hl (read_low' hrw) hm)
noncomputable def R_RFnd : Con := runFn (tb []) a11
theorem s_RFnd : SoundAt Tryz.prog 11 R_RFnd := run_sound (tb_sound (l := []) (by simp)) mixed Tryz.func11 k11 c11
theorem n_RFnd : noNxtC a11.body = true := by kernel_rfl
theorem w_RFnd {s : St} {v : AV} {l : List Nd} (hr : read ndC s v = some l) (hl : l.length ≤ lim) (d : Dot) : ∀ env : Env, elen env = a11.ntmps → (∀ i x_, [v, .agg (Dot.av d)][i]? = some x_ → E env i = x_) → awp (tb []) a11.body (fun x e t => (∀ i, x ≠ .exit i) ∧ aresults e t a11.results = some (.int .i64 (idxN l (fun y => decide (y.d = d)))) ∧ Keep s t) env s := by
  intro env hlen ha
  have h0 : E env 0 = _ := ha 0 _ rfl
  have h1 : E env 1 = _ := ha 1 _ rfl
  have hlen : elen env = _ := hlen
  simp only [a11] at hlen
  unfold a11
  try dsimp only [oO, oG]
  have hL := lenV_read hr
  have hK1 : Keep s (s.push (.row (Dot.av d) true)) := (Keep.refl s).push _
  obtain ⟨b1, b2, b3, b4⟩ := box_dot s d (.refl _)
  simp (config := {contextual := true, maxDischargeDepth := 12}) only [tb_at, h0, h1, hlen, hL, ↓bD, bU, forall_const, List.all_cons, List.all_nil, Option.map_some, List.map_cons, List.map_nil, ne_eq, implies_true, isNx, eq_self, ↓wp_cond, ↓wp_loop, ↓reduceIte, reduceCtorEq, Nat.reduceEqDiff, Nat.reduceLT, Nat.reduceAdd, Nat.reduceMul, Int.ofNat_lt, Int.ofNat_le, exists_const, Option.map_none, beq_self_eq_true, decide_true, ↓sg_bsl, ↓st_callf, bX, ap_mkfn, ae_callvV, callvV_fn, List.cons_append, List.nil_append, boxV_i, boxV_dot, sto_dot, ap_conv, convV_int, bslV_0, fstep_d0, fstep_d1, bsl_dot, ae_appz, ap_cap, capV_nils, slcV_nils0, slcV_sl0, wrap_0, ae_clr, boxV_f, fstep_f, lod_new2, ↓st_appf, slcV_nils0N, slcV_sl0N, bslV_0N, bin_shr1]
  obtain ⟨I, hI⟩ : ∃ I : Nat → Env → St → Prop, ∀ n e t, I n e t = (t = s.push (.row (Dot.av d) true) ∧ ∃ i : Nat, n + i = l.length ∧ elen e = 20 ∧ E e 0 = v ∧ E e 3 = .ptr s.next 0 ∧ E e 5 = .int .i64 (i : Int) ∧ ∀ k y, k < i → l[k]? = some y → decide (y.d = d) = false) := ⟨fun n e t => (t = s.push (.row (Dot.av d) true) ∧ ∃ i : Nat, n + i = l.length ∧ elen e = 20 ∧ E e 0 = v ∧ E e 3 = .ptr s.next 0 ∧ E e 5 = .int .i64 (i : Int) ∧ ∀ k y, k < i → l[k]? = some y → decide (y.d = d) = false), fun _ _ _ => rfl⟩
  refine lwp_inv I (n := l.length) ?_ ?_
  · rw [hI]
    exact ⟨rfl, 0, by omega, (by simp only [bE, Nat.reduceEqDiff, ne_eq, not_false_eq_true, Nat.reduceLT, hlen]; try rfl), (by simp only [bE, Nat.reduceEqDiff, ne_eq, not_false_eq_true, Nat.reduceLT, hlen, h0]; try rfl), (by simp only [bE, Nat.reduceEqDiff, ne_eq, not_false_eq_true, Nat.reduceLT, hlen]; try rfl), (by simp only [bE, Nat.reduceEqDiff, ne_eq, not_false_eq_true, Nat.reduceLT, hlen]; try rfl), fun k y hk => by omega⟩
  intro n e t hi
  rw [hI] at hi
  obtain ⟨hK, i, hni, he, e0, e3, e5, hpre⟩ := hi
  subst hK
  by_cases hlt : i < l.length
  · obtain ⟨x, hx⟩ := getsome hlt
    have hw2 := wrap_add1 (n := i) (by unfold lim at hl; omega)
    obtain ⟨a1, a2, a3, a5, a6, a4⟩ := nd_lods hr hK1 hx
    have i1 := nd_idx hr hx .i64
    by_cases hp : x.d = d
    · have hS := idxN_hit (p := fun y => decide (y.d = d)) hx (by simp [hp]) hpre
      have hz := eq_true hp
      simp (config := {contextual := true, maxDischargeDepth := 12}) only [tb_at, he, e0, e3, e5, hL, hlt, hw2, a1, a2, a4, i1, b1, b4, hz, hS, ↓bD, bU, forall_const, List.all_cons, List.all_nil, Option.map_some, List.map_cons, List.map_nil, ne_eq, implies_true, isNx, eq_self, ↓wp_cond, ↓wp_loop, ↓reduceIte, reduceCtorEq, Nat.reduceEqDiff, Nat.reduceLT, Nat.reduceAdd, Nat.reduceMul, Int.ofNat_lt, Int.ofNat_le, exists_const, Option.map_none, beq_self_eq_true, decide_true, ↓sg_bsl, ↓st_callf, bX, ap_mkfn, ae_callvV, callvV_fn, List.cons_append, List.nil_append, boxV_i, boxV_dot, sto_dot, ap_conv, convV_int, bslV_0, fstep_d0, fstep_d1, bsl_dot, ae_appz, ap_cap, capV_nils, slcV_nils0, slcV_sl0, wrap_0, ae_clr, boxV_f, fstep_f, lod_new2, ↓st_appf, slcV_nils0N, slcV_sl0N, bslV_0N, bin_shr1]
      all_goals first | exact hK1 | skip
    · have hz := eq_false hp
      simp (config := {contextual := true, maxDischargeDepth := 12}) only [tb_at, he, e0, e3, e5, hL, hlt, hw2, a1, a2, a4, i1, b1, b4, hz, ↓bD, bU, forall_const, List.all_cons, List.all_nil, Option.map_some, List.map_cons, List.map_nil, ne_eq, implies_true, isNx, eq_self, ↓wp_cond, ↓wp_loop, ↓reduceIte, reduceCtorEq, Nat.reduceEqDiff, Nat.reduceLT, Nat.reduceAdd, Nat.reduceMul, Int.ofNat_lt, Int.ofNat_le, exists_const, Option.map_none, beq_self_eq_true, decide_true, ↓sg_bsl, ↓st_callf, bX, ap_mkfn, ae_callvV, callvV_fn, List.cons_append, List.nil_append, boxV_i, boxV_dot, sto_dot, ap_conv, convV_int, bslV_0, fstep_d0, fstep_d1, bsl_dot, ae_appz, ap_cap, capV_nils, slcV_nils0, slcV_sl0, wrap_0, ae_clr, boxV_f, fstep_f, lod_new2, ↓st_appf, slcV_nils0N, slcV_sl0N, bslV_0N, bin_shr1]
      refine ⟨n - 1, by omega, ?_⟩
      rw [hI]
      exact ⟨rfl, i + 1, by omega, (by simp only [bE, Nat.reduceEqDiff, ne_eq, not_false_eq_true, Nat.reduceLT, he, e0, e3, e5]; try rfl), (by simp only [bE, Nat.reduceEqDiff, ne_eq, not_false_eq_true, Nat.reduceLT, he, e0, e3, e5]; try rfl), (by simp only [bE, Nat.reduceEqDiff, ne_eq, not_false_eq_true, Nat.reduceLT, he, e0, e3, e5]; try rfl), (by simp only [bE, Nat.reduceEqDiff, ne_eq, not_false_eq_true, Nat.reduceLT, he, e0, e3, e5]; try rfl), pre_next (P := fun k y => decide (y.d = d) = false) hx hpre (by simp [hp])⟩
  · obtain rfl : i = l.length := by omega
    have hS := idxN_miss (p := fun y => decide (y.d = d)) hpre
    simp (config := {contextual := true, maxDischargeDepth := 12}) only [tb_at, he, e0, e3, e5, hL, hlt, hS, ↓bD, bU, forall_const, List.all_cons, List.all_nil, Option.map_some, List.map_cons, List.map_nil, ne_eq, implies_true, isNx, eq_self, ↓wp_cond, ↓wp_loop, ↓reduceIte, reduceCtorEq, Nat.reduceEqDiff, Nat.reduceLT, Nat.reduceAdd, Nat.reduceMul, Int.ofNat_lt, Int.ofNat_le, exists_const, Option.map_none, beq_self_eq_true, decide_true, ↓sg_bsl, ↓st_callf, bX, ap_mkfn, ae_callvV, callvV_fn, List.cons_append, List.nil_append, boxV_i, boxV_dot, sto_dot, ap_conv, convV_int, bslV_0, fstep_d0, fstep_d1, bsl_dot, ae_appz, ap_cap, capV_nils, slcV_nils0, slcV_sl0, wrap_0, ae_clr, boxV_f, fstep_f, lod_new2, ↓st_appf, slcV_nils0N, slcV_sl0N, bslV_0N, bin_shr1]
    all_goals first | exact hK1 | skip
theorem q_RFnd (cl : Bool) {s : St} {v : AV} {l : List Nd} (hr : read ndC s v = some l) (hl : l.length ≤ lim) (d : Dot) : acall R_RFnd cl [v, .agg (Dot.av d)] s = some (.int .i64 (idxN l (fun y => decide (y.d = d))), s) := run_same n_RFnd (by simp [a11]) rfl (w_RFnd (s := lowd s) (read_low' hr) hl d)

end Go.AM
end
