/-
  Maps from dots to nodes in memory: looking up, setting, ranging. Own work of this project.
-/
import Derived.Test.YtihjheckdjocoaaAmFE
set_option linter.unusedVariables false
set_option linter.unusedSimpArgs false
namespace Go.AM
open Go Go.Proofs

variable {call : Nat → List AV → St → Option (AV × St)} {env : Env} {s t : St}

/-! ### By value -/
def lookV (s : St) (z : AV) (k : EK) (ok : Bool) (m i : AV) : Option AV :=
  if i.key k then
    match m with
    | .nilm => some (if ok then .tup [z, .bool false] else z)
    | .mp id => match s.get id with
      | some (.map es _) => match findE k i es 0 with
        | some (some (_, v)) => some (if ok then .tup [v, .bool true] else v)
        | some none => some (if ok then .tup [z, .bool false] else z)
        | none => none
      | _ => none
    | _ => none
  else none
theorem ar_look (z : AV) (k : EK) (ok : Bool) (m i : AO) : aread call env s (.look z k ok m i) = lookV s z k ok (aev env m) (aev env i) := nrfl rfl
def msetV (s : St) (k : EK) (m i x : AV) : Option (AV × St) :=
  if i.key k && x.whole then
    match m with
    | .mp id => match s.get id with
      | some (.map es ck) => match findE k i es 0 with
        | some (some (j, _)) => match es[j]? with
          | some (_, _, b) => some (.und, s.put id (.map (es.set j (i, x, b)) ck))
          | none => none
        | some none => some (.und, s.put id (.map (es ++ [(i, x, ck)]) (ck + 1)))
        | none => none
      | _ => none
    | _ => none
  else none
theorem ae_mset (k : EK) (m i x : AO) : aeff call env s (.mset k m i x) = msetV s k (aev env m) (aev env i) (aev env x) := nrfl rfl
def rngV (s : St) : AV → Option (AV × St)
  | .nilm => some (.ptr s.next 0, s.push (.iter none 0 [] 0))
  | .mp id => match s.get id with
    | some (.map _ ck) => some (.ptr s.next 0, s.push (.iter (some id) ck [] ck))
    | _ => none
  | _ => none
theorem ae_rng (x : AO) : aeff call env s (.rng x) = rngV s (aev env x) := nrfl rfl
theorem ae_mkmap0 : aeff call env s (.mkmap none) = some (.mp s.next, s.push (.map [] 0)) := nrfl rfl
def entV (s : St) : AV → Option AV
  | .ptr id 0 => match s.get id with
    | some (.iter (some m) _ seen last) => match seen.getLast?, s.get m with
      | some stamp, some (.map es ck) => if ck = last then (es.find? fun e => e.2.2 == stamp).map fun e => .tup [e.1, e.2.1] else none
      | _, _ => none
    | _ => none
  | _ => none
theorem ar_ent (x : AO) : aread call env s (.ent x) = entV s (aev env x) := nrfl (by
  simp only [aread, entV]
  cases aev env x <;> rfl)
theorem lookV_push {id : Nat} (h : ltN id s) (b : AB) (z : AV) (k : EK) (ok : Bool) (i : AV) : lookV (s.push b) z k ok (.mp id) i = lookV s z k ok (.mp id) i := by
  simp only [lookV, St.get_push_old _ _ h]
theorem lookV_lowed (z : AV) (k : EK) (ok : Bool) (m i : AV) : lookV s.lowed z k ok m i = lookV s z k ok m i := by cases m <;> rfl
theorem put_push_lt {id : Nat} (h : ltN id s) (b c : AB) : (s.push b).put id c = (s.put id c).push b := by
  unfold ltN at h
  have : s.next + 1 - 1 - id = s.next - 1 - id + 1 := by omega
  simp only [St.push, St.put, this, List.set_cons_succ]
theorem msetV_push {id : Nat} (h : ltN id s) (b : AB) (k : EK) (i x : AV) : msetV (s.push b) k (.mp id) i x = (msetV s k (.mp id) i x).map fun r => (r.1, r.2.push b) := by
  simp only [msetV, St.get_push_old _ _ h, put_push_lt h]
  repeat' split
  all_goals rfl
theorem put_lowed (id : Nat) (c : AB) : s.lowed.put id c = (s.put id c).lowed := by
  simp only [St.put, St.lowed]
  congr 1
  omega
theorem msetV_lowed (k : EK) (m i x : AV) : msetV s.lowed k m i x = (msetV s k m i x).map fun r => (r.1, r.2.lowed) := by
  simp only [msetV, lowed_get, put_lowed]
  repeat' split
  all_goals rfl

/-! ### Nodes by their dots -/
def entsFrom : Nat → List Nd → List (AV × AV × Nat)
  | _, [] => []
  | k, x :: r => (.agg (Dot.av x.d), .agg (Nd.av x), k) :: entsFrom (k + 1) r
def mapN (l : List Nd) : AB := .map (entsFrom 0 l) l.length
def lookN : List Nd → Dot → Option (Nat × Nd)
  | [], _ => none
  | x :: r, d => if x.d = d then some (0, x) else (lookN r d).map fun p => (p.1 + 1, p.2)
def updN (l : List Nd) (x : Nd) : List Nd := match lookN l x.d with
  | some (j, _) => l.set j x
  | none => l ++ [x]
theorem eqK_dot (a b : Dot) : eqK (.fl [.i, .i]) (.agg (Dot.av a)) (.agg (Dot.av b)) = some (decide (b = a)) := by
  have := bin_eqd a b
  simp only [binOp, Option.map_eq_some_iff] at this
  obtain ⟨x, h1, h2⟩ := this
  injection h2 with h2
  simp only [eqV] at h1
  simp only [eqK, h1, h2]
  congr 1
  simp only [decide_eq_decide]
  exact eq_comm
theorem key_dot (d : Dot) : (AV.agg (Dot.av d)).key (.fl [.i, .i]) = true := rfl
theorem whole_nd (x : Nd) : (AV.agg (Nd.av x)).whole = true := rfl
theorem find_ents : ∀ (l : List Nd) (d : Dot) (k i : Nat), findE (.fl [.i, .i]) (.agg (Dot.av d)) (entsFrom k l) i = some ((lookN l d).map fun p => (i + p.1, .agg (Nd.av p.2)))
  | [], d, k, i => rfl
  | x :: r, d, k, i => by
    simp only [entsFrom, findE, eqK_dot, lookN]
    by_cases h : x.d = d
    · simp [h]
    · simp only [h, decide_false, if_false]
      rw [find_ents r d (k + 1) (i + 1)]
      cases lookN r d <;> simp [Nat.add_comm, Nat.add_left_comm]
theorem lookN_some : ∀ {l : List Nd} {d : Dot} {j : Nat} {x : Nd}, lookN l d = some (j, x) → l[j]? = some x ∧ x.d = d
  | [], d, j, x, h => by simp [lookN] at h
  | y :: r, d, j, x, h => by
    simp only [lookN] at h
    split at h
    · injection h with h
      obtain ⟨rfl, rfl⟩ := Prod.mk.inj h
      exact ⟨rfl, by assumption⟩
    · obtain ⟨p, hp, h⟩ := Option.map_eq_some_iff.1 h
      obtain ⟨rfl, rfl⟩ := Prod.mk.inj h
      obtain ⟨h1, h2⟩ := lookN_some (l := r) (j := p.1) (x := p.2) hp
      exact ⟨by simpa using h1, h2⟩
theorem lookN_none : ∀ {l : List Nd} {d : Dot}, lookN l d = none → ∀ x ∈ l, x.d ≠ d
  | [], d, _ => by simp
  | y :: r, d, h => by
    simp only [lookN] at h
    split at h
    · cases h
    · rename_i e
      have := lookN_none (l := r) (d := d) (by simpa using h)
      intro x hx
      rcases List.mem_cons.1 hx with rfl | hx
      · exact e
      · exact this x hx
theorem ents_len : ∀ (l : List Nd) (k : Nat), (entsFrom k l).length = l.length
  | [], _ => rfl
  | x :: r, k => by simp [entsFrom, ents_len r]
theorem ents_get : ∀ (l : List Nd) (k j : Nat), (entsFrom k l)[j]? = (l[j]?).map fun x => (.agg (Dot.av x.d), .agg (Nd.av x), k + j)
  | [], k, j => by simp [entsFrom]
  | x :: r, k, 0 => rfl
  | x :: r, k, j + 1 => by
    simp only [entsFrom, List.getElem?_cons_succ, ents_get r (k + 1) j]
    rw [show k + 1 + j = k + (j + 1) by omega]
theorem ents_append : ∀ (l m : List Nd) (k : Nat), entsFrom k (l ++ m) = entsFrom k l ++ entsFrom (k + l.length) m
  | [], m, k => by simp [entsFrom]
  | x :: r, m, k => by
    simp only [List.cons_append, entsFrom, ents_append r m (k + 1), List.length_cons]
    rw [show k + 1 + r.length = k + (r.length + 1) by omega]
theorem ents_set : ∀ (l : List Nd) (k j : Nat) (x : Nd), entsFrom k (l.set j x) = (entsFrom k l).set j (.agg (Dot.av x.d), .agg (Nd.av x), k + j)
  | [], k, j, x => by simp [entsFrom]
  | y :: r, k, 0, x => by simp [entsFrom]
  | y :: r, k, j + 1, x => by
    simp only [List.set_cons_succ, entsFrom, ents_set r (k + 1) j x]
    rw [show k + 1 + j = k + (j + 1) by omega]
theorem look_hit {l : List Nd} {d : Dot} {j : Nat} {x : Nd} {id : Nat} (hg : s.get id = some (mapN l)) (h : lookN l d = some (j, x)) (z : AV) : lookV s z (.fl [.i, .i]) true (.mp id) (.agg (Dot.av d)) = some (.tup [.agg (Nd.av x), .bool true]) := by
  simp only [lookV, key_dot, if_true, hg, mapN, find_ents, h, Option.map_some]
theorem look_miss {l : List Nd} {d : Dot} {id : Nat} (hg : s.get id = some (mapN l)) (h : lookN l d = none) (z : AV) : lookV s z (.fl [.i, .i]) true (.mp id) (.agg (Dot.av d)) = some (.tup [z, .bool false]) := by
  simp only [lookV, key_dot, if_true, hg, mapN, find_ents, h, Option.map_none]
theorem mset_map {l : List Nd} {id : Nat} (hg : s.get id = some (mapN l)) (x : Nd) : msetV s (.fl [.i, .i]) (.mp id) (.agg (Dot.av x.d)) (.agg (Nd.av x)) = some (.und, s.put id (mapN (updN l x))) := by
  simp only [msetV, key_dot, whole_nd, Bool.and_self, if_true, hg, mapN, find_ents, updN]
  cases h : lookN l x.d with
  | none =>
    simp only [Option.map_none, ents_append, entsFrom, List.length_append, List.length_singleton, Nat.zero_add]
  | some p =>
    obtain ⟨j, y⟩ := p
    obtain ⟨h1, h2⟩ := lookN_some h
    simp only [Option.map_some, Nat.zero_add, ents_get, h1, ents_set, List.length_set]
theorem rng_map {l : List Nd} {id : Nat} (hg : s.get id = some (mapN l)) : rngV s (.mp id) = some (.ptr s.next 0, s.push (.iter (some id) l.length [] l.length)) := by
  simp only [rngV, hg, mapN]
theorem next_map {l : List Nd} {id p : Nat} {seen : List Nat} {K : AV → St → Prop} (hg : s.get id = some (mapN l)) (hp : s.get p = some (.iter (some id) l.length seen l.length))
    (h1 : (∀ i, i < l.length → i ∈ seen) → K (.tup [.bool false]) s) (h2 : ∀ i x, l[i]? = some x → i ∉ seen → K (.tup [.bool true, .agg (Dot.av x.d), .agg (Nd.av x)]) (s.put p (.iter (some id) l.length (seen ++ [i]) l.length))) : anext (.ptr p 0) s K := by
  simp only [anext, hp, hg, mapN]
  have hm : ∀ e ∈ entsFrom 0 l, ∃ i x, l[i]? = some x ∧ e = (.agg (Dot.av x.d), .agg (Nd.av x), i) := by
    intro e he
    obtain ⟨i, hi⟩ := List.getElem?_of_mem he
    rw [ents_get] at hi
    obtain ⟨x, hx, rfl⟩ := Option.map_eq_some_iff.1 hi
    exact ⟨i, x, hx, by simp⟩
  refine ⟨fun e he => ?_, Nat.le_refl _, fun ha => h1 fun i hi => ?_, fun e he hs => ?_⟩
  · obtain ⟨i, x, hx, rfl⟩ := hm e he
    exact getlt hx
  · obtain ⟨x, hx⟩ := getsome hi
    have : (entsFrom 0 l)[i]? = some (.agg (Dot.av x.d), .agg (Nd.av x), 0 + i) := by rw [ents_get, hx]; rfl
    have := ha _ (List.mem_of_getElem? this)
    simpa using this
  · obtain ⟨i, x, hx, rfl⟩ := hm e he
    exact h2 i x hx hs
theorem ent_map {l : List Nd} {id p : Nat} {seen : List Nat} {i : Nat} {x : Nd} (hg : s.get id = some (mapN l)) (hp : s.get p = some (.iter (some id) l.length (seen ++ [i]) l.length)) (hx : l[i]? = some x) : entV s (.ptr p 0) = some (.tup [.agg (Dot.av x.d), .agg (Nd.av x)]) := by
  have key : ∀ (l : List Nd) (k i : Nat) (x : Nd), l[i]? = some x → (entsFrom k l).find? (fun e => e.2.2 == k + i) = some (.agg (Dot.av x.d), .agg (Nd.av x), k + i) := by
    intro l
    induction l with
    | nil => intro k i x h; simp at h
    | cons y r ih =>
      intro k i x h
      cases i with
      | zero => simp at h; subst h; simp [entsFrom]
      | succ i =>
        have e : k + (i + 1) = k + 1 + i := by omega
        rw [entsFrom, List.find?_cons_of_neg (by simp), e]
        exact ih (k + 1) i x (by simpa using h)
  have := key l 0 i x hx
  rw [Nat.zero_add] at this
  simp only [entV, hp, hg, mapN, List.getLast?_concat, if_true, this, Option.map_some]
end Go.AM
