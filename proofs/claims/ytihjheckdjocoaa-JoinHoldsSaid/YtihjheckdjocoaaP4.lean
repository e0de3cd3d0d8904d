/-
  Maps from dots to nodes in memory: looking up, setting, ranging. Own work of this project.
-/
import Derived.Test.YtihjheckdjocoaaP3
import Derived.Shelf.SlSortCmp.WholeK
import Derived.Ground.SlsfProg
import Derived.Shelf.SlGeneric
import Derived.Test.YtihjheckdjocoaaProg
import Derived.Shelf.SlSortCmp.NoneTotal
import Derived.KernelRfl
import Derived.ProofKit
import Derived.Carry
import Derived.Deep.Slices
import Derived.Test.YtihjheckdjocoaaRows
import Derived.HandedShaped
import Derived.OpenShut
section
set_option linter.unusedVariables false
set_option linter.unusedSimpArgs false
namespace Go.AM
open Go Go.Proofs

variable {call : Nat → List AV → St → Option (AV × St)} {env : Env} {s t : St}

/-! ### By value -/
def lookV (s : St) (z : AV) (k : EK) (ok : Bool) (m i : AV) : Option AV :=
  if i.key k then
    match m with
    | .nilm => some (if ok then .tup [z, .bool false] else z)
    | .mp id => match s.get id with
      | some (.map es _) => match findE k i es 0 with
        | some (some (_, v)) => some (if ok then .tup [v, .bool true] else v)
        | some none => some (if ok then .tup [z, .bool false] else z)
        | none => none
      | _ => none
    | _ => none
  else none
theorem ar_look (z : AV) (k : EK) (ok : Bool) (m i : AO) : aread call env s (.look z k ok m i) = lookV s z k ok (aev env m) (aev env i) := nrfl rfl
def msetV (s : St) (k : EK) (m i x : AV) : Option (AV × St) :=
  if i.key k && x.whole then
    match m with
    | .mp id => match s.get id with
      | some (.map es ck) => match findE k i es 0 with
        | some (some (j, _)) => match es[j]? with
          | some (_, _, b) => some (.und, s.put id (.map (es.set j (i, x, b)) ck))
          | none => none
        | some none => some (.und, s.put id (.map (es ++ [(i, x, ck)]) (ck + 1)))
        | none => none
      | _ => none
    | _ => none
  else none
theorem ae_mset (k : EK) (m i x : AO) : aeff call env s (.mset k m i x) = msetV s k (aev env m) (aev env i) (aev env x) := nrfl rfl
def rngV (s : St) : AV → Option (AV × St)
  | .nilm => some (.ptr s.next 0, s.push (.iter none 0 [] 0))
  | .mp id => match s.get id with
    | some (.map _ ck) => some (.ptr s.next 0, s.push (.iter (some id) ck [] ck))
    | _ => none
  | _ => none
theorem ae_rng (x : AO) : aeff call env s (.rng x) = rngV s (aev env x) := nrfl rfl
theorem ae_mkmap0 : aeff call env s (.mkmap none) = some (.mp s.next, s.push (.map [] 0)) := nrfl rfl
def entV (s : St) : AV → Option AV
  | .ptr id 0 => match s.get id with
    | some (.iter (some m) _ seen last) => match seen.getLast?, s.get m with
      | some stamp, some (.map es ck) => if ck = last then (es.find? fun e => e.2.2 == stamp).map fun e => .tup [e.1, e.2.1] else none
      | _, _ => none
    | _ => none
  | _ => none
theorem ar_ent (x : AO) : aread call env s (.ent x) = entV s (aev env x) := nrfl (by
  simp only [aread, entV]
  cases aev env x <;> rfl)
theorem lookV_push {id : Nat} (h : ltN id s) (b : AB) (z : AV) (k : EK) (ok : Bool) (i : AV) : lookV (s.push b) z k ok (.mp id) i = lookV s z k ok (.mp id) i := by
  simp only [lookV, St.get_push_old _ _ h]
theorem lookV_lowed (z : AV) (k : EK) (ok : Bool) (m i : AV) : lookV s.lowed z k ok m i = lookV s z k ok m i := by cases m <;> rfl
theorem put_push_lt {id : Nat} (h : ltN id s) (b c : AB) : (s.push b).put id c = (s.put id c).push b := by
  unfold ltN at h
  have : s.next + 1 - 1 - id = s.next - 1 - id + 1 := by omega
  simp only [St.push, St.put, this, List.set_cons_succ]
theorem msetV_push {id : Nat} (h : ltN id s) (b : AB) (k : EK) (i x : AV) : msetV (s.push b) k (.mp id) i x = (msetV s k (.mp id) i x).map fun r => (r.1, r.2.push b) := by
  simp only [msetV, St.get_push_old _ _ h, put_push_lt h]
  repeat' split
  all_goals rfl
theorem put_lowed (id : Nat) (c : AB) : s.lowed.put id c = (s.put id c).lowed := by
  simp only [St.put, St.lowed]
  congr 1
  omega
theorem msetV_lowed (k : EK) (m i x : AV) : msetV s.lowed k m i x = (msetV s k m i x).map fun r => (r.1, r.2.lowed) := by
  simp only [msetV, lowed_get, put_lowed]
  repeat' split
  all_goals rfl

/-! ### Nodes by their dots -/
def entsFrom : Nat → List Nd → List (AV × AV × Nat)
  | _, [] => []
  | k, x :: r => (.agg (Dot.av x.d), .agg (Nd.av x), k) :: entsFrom (k + 1) r
def mapN (l : List Nd) : AB := .map (entsFrom 0 l) l.length
def lookN : List Nd → Dot → Option (Nat × Nd)
  | [], _ => none
  | x :: r, d => if x.d = d then some (0, x) else (lookN r d).map fun p => (p.1 + 1, p.2)
def updN (l : List Nd) (x : Nd) : List Nd := match lookN l x.d with
  | some (j, _) => l.set j x
  | none => l ++ [x]
theorem eqK_dot (a b : Dot) : eqK (.fl [.i, .i]) (.agg (Dot.av a)) (.agg (Dot.av b)) = some (decide (b = a)) := by
  have := bin_eqd a b
  simp only [binOp, Option.map_eq_some_iff] at this
  obtain ⟨x, h1, h2⟩ := this
  injection h2 with h2
  simp only [eqV] at h1
  simp only [eqK, h1, h2]
  congr 1
  simp only [decide_eq_decide]
  exact eq_comm
theorem key_dot (d : Dot) : (AV.agg (Dot.av d)).key (.fl [.i, .i]) = true := rfl
theorem whole_nd (x : Nd) : (AV.agg (Nd.av x)).whole = true := rfl
theorem find_ents : ∀ (l : List Nd) (d : Dot) (k i : Nat), findE (.fl [.i, .i]) (.agg (Dot.av d)) (entsFrom k l) i = some ((lookN l d).map fun p => (i + p.1, .agg (Nd.av p.2)))
  | [], d, k, i => rfl
  | x :: r, d, k, i => by
    simp only [entsFrom, findE, eqK_dot, lookN]
    by_cases h : x.d = d
    · simp [h]
    · simp only [h, decide_false, if_false]
      rw [find_ents r d (k + 1) (i + 1)]
      cases lookN r d <;> simp [Nat.add_comm, Nat.add_left_comm]
theorem lookN_some : ∀ {l : List Nd} {d : Dot} {j : Nat} {x : Nd}, lookN l d = some (j, x) → l[j]? = some x ∧ x.d = d
  | [], d, j, x, h => by simp [lookN] at h
  | y :: r, d, j, x, h => by
    simp only [lookN] at h
    split at h
    · injection h with h
      obtain ⟨rfl, rfl⟩ := Prod.mk.inj h
      exact ⟨rfl, by assumption⟩
    · obtain ⟨p, hp, h⟩ := Option.map_eq_some_iff.1 h
      obtain ⟨rfl, rfl⟩ := Prod.mk.inj h
      obtain ⟨h1, h2⟩ := lookN_some (l := r) (j := p.1) (x := p.2) hp
      exact ⟨by simpa using h1, h2⟩
theorem lookN_none : ∀ {l : List Nd} {d : Dot}, lookN l d = none → ∀ x ∈ l, x.d ≠ d
  | [], d, _ => by simp
  | y :: r, d, h => by
    simp only [lookN] at h
    split at h
    · cases h
    · rename_i e
      have := lookN_none (l := r) (d := d) (by simpa using h)
      intro x hx
      rcases List.mem_cons.1 hx with rfl | hx
      · exact e
      · exact this x hx
theorem ents_len : ∀ (l : List Nd) (k : Nat), (entsFrom k l).length = l.length
  | [], _ => rfl
  | x :: r, k => by simp [entsFrom, ents_len r]
theorem ents_get : ∀ (l : List Nd) (k j : Nat), (entsFrom k l)[j]? = (l[j]?).map fun x => (.agg (Dot.av x.d), .agg (Nd.av x), k + j)
  | [], k, j => by simp [entsFrom]
  | x :: r, k, 0 => rfl
  | x :: r, k, j + 1 => by
    simp only [entsFrom, List.getElem?_cons_succ, ents_get r (k + 1) j]
    rw [show k + 1 + j = k + (j + 1) by omega]
theorem ents_append : ∀ (l m : List Nd) (k : Nat), entsFrom k (l ++ m) = entsFrom k l ++ entsFrom (k + l.length) m
  | [], m, k => by simp [entsFrom]
  | x :: r, m, k => by
    simp only [List.cons_append, entsFrom, ents_append r m (k + 1), List.length_cons]
    rw [show k + 1 + r.length = k + (r.length + 1) by omega]
theorem ents_set : ∀ (l : List Nd) (k j : Nat) (x : Nd), entsFrom k (l.set j x) = (entsFrom k l).set j (.agg (Dot.av x.d), .agg (Nd.av x), k + j)
  | [], k, j, x => by simp [entsFrom]
  | y :: r, k, 0, x => by simp [entsFrom]
  | y :: r, k, j + 1, x => by
    simp only [List.set_cons_succ, entsFrom, ents_set r (k + 1) j x]
    rw [show k + 1 + j = k + (j + 1) by omega]
theorem look_hit {l : List Nd} {d : Dot} {j : Nat} {x : Nd} {id : Nat} (hg : s.get id = some (mapN l)) (h : lookN l d = some (j, x)) (z : AV) : lookV s z (.fl [.i, .i]) true (.mp id) (.agg (Dot.av d)) = some (.tup [.agg (Nd.av x), .bool true]) := by
  simp only [lookV, key_dot, if_true, hg, mapN, find_ents, h, Option.map_some]
theorem look_miss {l : List Nd} {d : Dot} {id : Nat} (hg : s.get id = some (mapN l)) (h : lookN l d = none) (z : AV) : lookV s z (.fl [.i, .i]) true (.mp id) (.agg (Dot.av d)) = some (.tup [z, .bool false]) := by
  simp only [lookV, key_dot, if_true, hg, mapN, find_ents, h, Option.map_none]
theorem mset_map {l : List Nd} {id : Nat} (hg : s.get id = some (mapN l)) (x : Nd) : msetV s (.fl [.i, .i]) (.mp id) (.agg (Dot.av x.d)) (.agg (Nd.av x)) = some (.und, s.put id (mapN (updN l x))) := by
  simp only [msetV, key_dot, whole_nd, Bool.and_self, if_true, hg, mapN, find_ents, updN]
  cases h : lookN l x.d with
  | none =>
    simp only [Option.map_none, ents_append, entsFrom, List.length_append, List.length_singleton, Nat.zero_add]
  | some p =>
    obtain ⟨j, y⟩ := p
    obtain ⟨h1, h2⟩ := lookN_some h
    simp only [Option.map_some, Nat.zero_add, ents_get, h1, ents_set, List.length_set]
theorem rng_map {l : List Nd} {id : Nat} (hg : s.get id = some (mapN l)) : rngV s (.mp id) = some (.ptr s.next 0, s.push (.iter (some id) l.length [] l.length)) := by
  simp only [rngV, hg, mapN]
theorem next_map {l : List Nd} {id p : Nat} {seen : List Nat} {K : AV → St → Prop} (hg : s.get id = some (mapN l)) (hp : s.get p = some (.iter (some id) l.length seen l.length))
    (h1 : (∀ i, i < l.length → i ∈ seen) → K (.tup [.bool false]) s) (h2 : ∀ i x, l[i]? = some x → i ∉ seen → K (.tup [.bool true, .agg (Dot.av x.d), .agg (Nd.av x)]) (s.put p (.iter (some id) l.length (seen ++ [i]) l.length))) : anext (.ptr p 0) s K := by
  simp only [anext, hp, hg, mapN]
  have hm : ∀ e ∈ entsFrom 0 l, ∃ i x, l[i]? = some x ∧ e = (.agg (Dot.av x.d), .agg (Nd.av x), i) := by
    intro e he
    obtain ⟨i, hi⟩ := List.getElem?_of_mem he
    rw [ents_get] at hi
    obtain ⟨x, hx, rfl⟩ := Option.map_eq_some_iff.1 hi
    exact ⟨i, x, hx, by simp⟩
  refine ⟨fun e he => ?_, Nat.le_refl _, fun ha => h1 fun i hi => ?_, fun e he hs => ?_⟩
  · obtain ⟨i, x, hx, rfl⟩ := hm e he
    exact getlt hx
  · obtain ⟨x, hx⟩ := getsome hi
    have : (entsFrom 0 l)[i]? = some (.agg (Dot.av x.d), .agg (Nd.av x), 0 + i) := by rw [ents_get, hx]; rfl
    have := ha _ (List.mem_of_getElem? this)
    simpa using this
  · obtain ⟨i, x, hx, rfl⟩ := hm e he
    exact h2 i x hx hs
theorem ent_map {l : List Nd} {id p : Nat} {seen : List Nat} {i : Nat} {x : Nd} (hg : s.get id = some (mapN l)) (hp : s.get p = some (.iter (some id) l.length (seen ++ [i]) l.length)) (hx : l[i]? = some x) : entV s (.ptr p 0) = some (.tup [.agg (Dot.av x.d), .agg (Nd.av x)]) := by
  have key : ∀ (l : List Nd) (k i : Nat) (x : Nd), l[i]? = some x → (entsFrom k l).find? (fun e => e.2.2 == k + i) = some (.agg (Dot.av x.d), .agg (Nd.av x), k + i) := by
    intro l
    induction l with
    | nil => intro k i x h; simp at h
    | cons y r ih =>
      intro k i x h
      cases i with
      | zero => simp at h; subst h; simp [entsFrom]
      | succ i =>
        have e : k + (i + 1) = k + 1 + i := by omega
        rw [entsFrom, List.find?_cons_of_neg (by simp), e]
        exact ih (k + 1) i x (by simpa using h)
  have := key l 0 i x hx
  rw [Nat.zero_add] at this
  simp only [entV, hp, hg, mapN, List.getLast?_concat, if_true, this, Option.map_some]
end Go.AM
end
/-
  DERIVED: THE SHELF's CONTRACTS AT THIS DUMP, IN PLAIN WORDS (tools/lay-plain.mjs out of 'YtihjheckdjocoaaAmShelf.lean', which tools/lay-shelf.mjs wrote): THE SAME DECLARATIONS UNDER THE SAME NAMES: 'import', 'namespace', 'open', 'def', 'theorem' AND NOTHING ELSE: no command of the shelf's: FOR A HAND-IN. Each laying: the table of numbers ('.._ren') and one theorem, a field a fact of the dump's own or the kernel's comparison; each contract: ONE APPLICATION.
-/
section
namespace Go.Proofs
open Go.Shelf
def Try.sortNode_ren : Go.Shelf.Ren := ⟨fun | 6 => 54 | 15 => 59 | 14 => 58 | 28 => 68 | 29 => 69 | 20 => 60 | 21 => 61 | 22 => 62 | 23 => 63 | 24 => 64 | 25 => 65 | 26 => 66 | 27 => 67 | 46 => 70 | 47 => 71 | 48 => 72 | 49 => 73 | 50 => 74 | 57 => 75 | n => n, fun | 22 => 22 | 24 => 44 | 25 => 73 | 3 => 3 | 39 => 77 | 0 => 0 | 53 => 87 | 55 => 89 | 4 => 4 | 46 => 80 | 45 => 79 | 50 => 84 | 5 => 5 | 9 => 9 | 66 => 90 | 70 => 94 | 76 => 96 | 77 => 97 | n => n, fun | n => n⟩
theorem Try.sortNode : Go.Proofs.SlLaysF0.n6 Try.prog Try.sortNode_ren := {
  mixed := by kernel_rfl
  f6 := ⟨Try.f54.name, by decide, Try.func54.trans (congrArg some (by kernel_rfl))⟩
  f14 := ⟨Try.f58.name, by decide, Try.func58.trans (congrArg some (by kernel_rfl))⟩
  f15 := Try.func59.trans (congrArg some (by kernel_rfl))
  f20 := ⟨Try.f60.name, by decide, Try.func60.trans (congrArg some (by kernel_rfl))⟩
  f21 := ⟨Try.f61.name, by decide, Try.func61.trans (congrArg some (by kernel_rfl))⟩
  f22 := ⟨Try.f62.name, by decide, Try.func62.trans (congrArg some (by kernel_rfl))⟩
  f23 := ⟨Try.f63.name, by decide, Try.func63.trans (congrArg some (by kernel_rfl))⟩
  f24 := ⟨Try.f64.name, by decide, Try.func64.trans (congrArg some (by kernel_rfl))⟩
  f25 := ⟨Try.f65.name, by decide, Try.func65.trans (congrArg some (by kernel_rfl))⟩
  f26 := ⟨Try.f66.name, by decide, Try.func66.trans (congrArg some (by kernel_rfl))⟩
  f27 := ⟨Try.f67.name, by decide, Try.func67.trans (congrArg some (by kernel_rfl))⟩
  f28 := Try.func68.trans (congrArg some (by kernel_rfl))
  f29 := Try.func69.trans (congrArg some (by kernel_rfl))
  f46 := ⟨Try.f70.name, by decide, Try.func70.trans (congrArg some (by kernel_rfl))⟩
  f47 := Try.func71.trans (congrArg some (by kernel_rfl))
  f48 := Try.func72.trans (congrArg some (by kernel_rfl))
  f49 := ⟨Try.f73.name, by decide, Try.func73.trans (congrArg some (by kernel_rfl))⟩
  f50 := ⟨Try.f74.name, by decide, Try.func74.trans (congrArg some (by kernel_rfl))⟩
  f57 := ⟨Try.f75.name, by decide, Try.func75.trans (congrArg some (by kernel_rfl))⟩
  t0 := Try.underlying0
  a0 := Try.isAgg0
  z0 := Try.sizeOf0
  v0 := Try.zeroValue0
  t3 := Try.underlying3
  a3 := Try.isAgg3
  z3 := Try.sizeOf3
  v3 := Try.zeroValue3
  t4 := Try.underlying4
  a4 := Try.isAgg4
  z4 := Try.sizeOf4
  v4 := Try.zeroValue4
  t5 := Try.underlying5
  a5 := Try.isAgg5
  z5 := Try.sizeOf5
  v5 := Try.zeroValue5
  t9 := Try.underlying9
  a9 := Try.isAgg9
  z9 := Try.sizeOf9
  v9 := Try.zeroValue9
  t22 := Try.underlying22
  a22 := Try.isAgg22
  z22 := Try.sizeOf22
  v22 := Try.zeroValue22
  t25 := Try.underlying73
  a25 := Try.isAgg73
  z25 := Try.sizeOf73
  v25 := Try.zeroValue73
  t39 := Try.underlying77
  a39 := Try.isAgg77
  z39 := Try.sizeOf77
  v39 := Try.zeroValue77
  t45 := Try.underlying79
  a45 := Try.isAgg79
  z45 := Try.sizeOf79
  v45 := Try.zeroValue79
  t46 := Try.underlying80
  a46 := Try.isAgg80
  z46 := Try.sizeOf80
  v46 := Try.zeroValue80
  t50 := Try.underlying84
  a50 := Try.isAgg84
  z50 := Try.sizeOf84
  v50 := Try.zeroValue84
  t53 := Try.underlying87
  a53 := Try.isAgg87
  z53 := Try.sizeOf87
  v53 := Try.zeroValue87
  t55 := Try.underlying89
  a55 := Try.isAgg89
  z55 := Try.sizeOf89
  v55 := Try.zeroValue89
  t66 := Try.underlying90
  a66 := Try.isAgg90
  z66 := Try.sizeOf90
  v66 := Try.zeroValue90
  t70 := Try.underlying94
  a70 := Try.isAgg94
  z70 := Try.sizeOf94
  v70 := Try.zeroValue94
  t76 := Try.underlying96
  a76 := Try.isAgg96
  z76 := Try.sizeOf96
  v76 := Try.zeroValue96
  t77 := Try.underlying97
  a77 := Try.isAgg97
  z77 := Try.sizeOf97
  v77 := Try.zeroValue97 }
end Go.Proofs
end
/-
  The contract of slices.SortFunc at a new list of nodes, sorted by their dots. Own work of this project.
-/
section
set_option linter.unusedVariables false
set_option linter.unusedSimpArgs false
set_option maxHeartbeats 1000000
namespace Go.AM
open Go Go.Proofs
open Go.Sort (HoldsK putRowK flatK get_flatK size_flatK)

instance : Inhabited Nd := ⟨nd0⟩
def toVal : AV → Value
  | .int k n => .int k n
  | _ => undef
def nvals (x : Nd) : List Value := (Nd.av x).map toVal
theorem nvals_len (x : Nd) : (nvals x).length = 6 := rfl
theorem nvals_one (x : Nd) : ∀ v ∈ nvals x, v.oneCell' = true := by
  intro v hv
  simp only [nvals, Nd.av, List.map_cons, List.map_nil, toVal, List.mem_cons, List.not_mem_nil, or_false] at hv
  rcases hv with rfl | rfl | rfl | rfl | rfl | rfl <;> rfl
theorem nd_val {ρ : Ren} {x : Nd} {i : Nat} {v : AV} {c : Value} (h : (Nd.av x)[i]? = some v) (k : VR ρ v c) : (nvals x)[i]? = some c := by
  simp only [nvals, List.getElem?_map, h, Option.map_some, Option.some.injEq]
  have : v ∈ Nd.av x := List.mem_of_getElem? h
  simp only [Nd.av, List.mem_cons, List.not_mem_nil, or_false] at this
  rcases this with rfl | rfl | rfl | rfl | rfl | rfl <;> (simp only [VR] at k; rw [k]; rfl)
theorem nd_VR {ρ : Ren} {x : Nd} {i : Nat} {v : AV} (h : (Nd.av x)[i]? = some v) : ∃ c, (nvals x)[i]? = some c ∧ VR ρ v c := by
  refine ⟨toVal v, by simp [nvals, h], ?_⟩
  have : v ∈ Nd.av x := List.mem_of_getElem? h
  simp only [Nd.av, List.mem_cons, List.not_mem_nil, or_false] at this
  rcases this with rfl | rfl | rfl | rfl | rfl | rfl <;> simp [VR, toVal]
theorem cells_get : ∀ (l : List Nd) (t : Nat), (ndC.cells l)[t]? = (l[t / 6]?).bind fun x => (Nd.av x)[t % 6]?
  | [], t => by simp [cells_nil]
  | x :: l, t => by
    rw [cells_cons]
    have hl : (ndC.enc x).length = 6 := rfl
    by_cases h : t < 6
    · rw [List.getElem?_append_left (by omega), Nat.div_eq_of_lt h, Nat.mod_eq_of_lt h]
      rfl
    · rw [List.getElem?_append_right (by omega), hl, cells_get l (t - 6)]
      have e1 : t / 6 = (t - 6) / 6 + 1 := by omega
      have e2 : t % 6 = (t - 6) % 6 := by omega
      rw [e1, e2]
      rfl
theorem before_irr (a : Dot) : a.before a = false := by simp [Dot.before]
theorem swo : Sort.SWO (ltOf fun x y : Nd => dcmp x.d y.d) := by
  have e : ∀ x y : Nd, ltOf (fun x y : Nd => dcmp x.d y.d) x y = x.d.before y.d := by
    intro x y
    unfold ltOf
    rcases dcmp_cases x.d y.d with ⟨h, h1, _⟩ | ⟨h, h1, _⟩ | ⟨h, h1, _⟩ <;> simp only [h, h1] <;> decide
  refine ⟨fun x => by rw [e]; exact before_irr _, fun x y z => ?_, fun x y z => ?_⟩
  · rw [e, e, e]
    obtain ⟨⟨_, _⟩, _, _, _⟩ := x
    obtain ⟨⟨_, _⟩, _, _, _⟩ := y
    obtain ⟨⟨_, _⟩, _, _, _⟩ := z
    simp only [Dot.before, Bool.or_eq_true, Bool.and_eq_true, decide_eq_true_eq]
    omega
  · rw [e, e, e]
    obtain ⟨⟨_, _⟩, _, _, _⟩ := x
    obtain ⟨⟨_, _⟩, _, _, _⟩ := y
    obtain ⟨⟨_, _⟩, _, _, _⟩ := z
    simp only [Dot.before, Bool.or_eq_false_iff, Bool.and_eq_false_iff, decide_eq_false_iff_not]
    omega
theorem clean_grow {W W' : World} (h : Clean W W') : ∃ q os, W' = Sort.grow (W.drewN q) os := by
  refine ⟨W'.drawn - W.drawn, W'.heap.extract W.heap.size W'.heap.size, ?_⟩
  have hd := h.drawn
  have hh : W'.heap = W.heap ++ W'.heap.extract W.heap.size W'.heap.size := by
    have hs := h.size
    apply Array.ext_getElem?
    intro i
    rw [Array.getElem?_append]
    split
    · exact h.block i (by assumption)
    · rw [Array.getElem?_extract]
      by_cases hi : i < W'.heap.size
      · rw [if_pos (by omega)]
        congr 1
        omega
      · rw [if_neg (by omega), Array.getElem?_eq_none (by omega)]
  have h1 := h.os
  have h2 := h.tape
  have h3 := h.output
  cases W'
  cases W
  simp only [Sort.grow, World.drewN] at *
  subst h1; subst h2; subst h3
  congr 1
  omega
theorem cmp_lays (w : World) (blk off size : Nat) : CmpLays Try.prog 55 #[] nvals 6 (fun x y : Nd => dcmp x.d y.d) blk off size w := by
  intro m os dk hdk x y
  obtain ⟨_, _, h⟩ := s_nodeCmp [.agg (Nd.av x), .agg (Nd.av y)] St.empty (.int .i64 (dcmp x.d y.d)) St.empty rfl
  have hv : ∀ x : Nd, VRs (fun _ => none) (Nd.av x) (nvals x) := fun x => by
    simp [Nd.av, nvals, toVal, VRs, VR]
  have := h (fun _ => none) (sortWorldK nvals 6 w blk off m dk os) [.agg (nvals x).toArray, .agg (nvals y).toArray] (fun _ _ => rfl) (R_empty _) (by
    rw [VRs_cons, VRs_cons]
    exact ⟨by simp only [VR]; exact ⟨_, rfl, hv x⟩, by simp only [VR]; exact ⟨_, rfl, hv y⟩, VRs_nil⟩)
  refine Calls.mono (by simpa using this) fun e w' hp => ?_
  obtain ⟨ρ', v, rfl, hv, hst, _⟩ := hp
  simp only [VR] at hv
  subst hv
  exact ⟨rfl, clean_grow (hst.clean (by simp [St.empty]))⟩
/-! ### Sorting nodes -/
def insN (x : Nd) : List Nd → List Nd
  | [] => [x]
  | y :: r => if x.d.before y.d = true then x :: y :: r else y :: insN x r
def sortN : List Nd → List Nd
  | [] => []
  | x :: r => insN x (sortN r)
def ltP (x y : Nd) : Prop := x.d.before y.d = true
theorem insN_perm (x : Nd) : ∀ l, (insN x l).Perm (x :: l)
  | [] => .refl _
  | y :: r => by
    unfold insN
    split
    · exact .refl _
    · exact ((insN_perm x r).cons y).trans (.swap x y r)
theorem sortN_perm : ∀ l, (sortN l).Perm l
  | [] => .refl _
  | x :: r => (insN_perm x _).trans ((sortN_perm r).cons x)
theorem sortN_len (l : List Nd) : (sortN l).length = l.length := (sortN_perm l).length_eq
theorem ltP_trans {x y z : Nd} (h : ltP x y) (k : ltP y z) : ltP x z := by
  unfold ltP at *
  obtain ⟨⟨_, _⟩, _, _, _⟩ := x
  obtain ⟨⟨_, _⟩, _, _, _⟩ := y
  obtain ⟨⟨_, _⟩, _, _, _⟩ := z
  simp only [Dot.before, Bool.or_eq_true, Bool.and_eq_true, decide_eq_true_eq] at *
  omega
theorem ltP_asymm {x y : Nd} (h : ltP x y) (k : ltP y x) : False := by
  have := ltP_trans h k
  unfold ltP at this
  rw [before_irr] at this
  cases this
theorem ltP_tri (x y : Nd) (h : x.d ≠ y.d) : ltP x y ∨ ltP y x := by
  unfold ltP
  rcases dcmp_cases x.d y.d with ⟨_, h1, _⟩ | ⟨_, _, h1⟩ | ⟨_, _, _, h1⟩
  · exact .inl h1
  · exact .inr h1
  · exact absurd h1 h
theorem insN_sorted (x : Nd) : ∀ l : List Nd, l.Pairwise ltP → (∀ y ∈ l, x.d ≠ y.d) → (insN x l).Pairwise ltP
  | [], _, _ => by simp [insN]
  | y :: r, h, hx => by
    unfold insN
    rw [List.pairwise_cons] at h
    split
    · rename_i hb
      rw [List.pairwise_cons, List.pairwise_cons]
      refine ⟨fun z hz => ?_, h⟩
      rcases List.mem_cons.1 hz with rfl | hz
      · exact hb
      · exact ltP_trans hb (h.1 z hz)
    · rename_i hb
      have hyx : ltP y x := (ltP_tri x y (hx y (by simp))).resolve_left hb
      rw [List.pairwise_cons]
      refine ⟨fun z hz => ?_, insN_sorted x r h.2 fun y hy => hx y (by simp [hy])⟩
      rcases List.mem_cons.1 ((insN_perm x r).mem_iff.1 hz) with rfl | hz
      · exact hyx
      · exact h.1 z hz
theorem sortN_sorted : ∀ l : List Nd, (l.map Nd.d).Nodup → (sortN l).Pairwise ltP
  | [], _ => by simp [sortN]
  | x :: r, h => by
    simp only [List.map_cons, List.nodup_cons] at h
    refine insN_sorted x _ (sortN_sorted r h.2) fun y hy e => h.1 ?_
    rw [e]
    exact List.mem_map_of_mem ((sortN_perm r).mem_iff.1 hy)
theorem sorted_unique : ∀ (l m : List Nd), l.Perm m → l.Pairwise ltP → m.Pairwise ltP → l = m
  | [], m, h, _, _ => (List.nil_perm.1 h).symm
  | x :: l, [], h, _, _ => absurd h.length_eq (by simp)
  | x :: l, y :: m, h, h1, h2 => by
    rw [List.pairwise_cons] at h1 h2
    have e : x = y := by
      by_cases e : x = y
      · exact e
      · have hx : x ∈ m := by
          rcases List.mem_cons.1 (h.mem_iff.1 (List.mem_cons_self ..)) with q | q
          · exact absurd q e
          · exact q
        have hy : y ∈ l := by
          rcases List.mem_cons.1 (h.mem_iff.2 (List.mem_cons_self ..)) with q | q
          · exact absurd q.symm e
          · exact q
        exact (ltP_asymm (h1.1 y hy) (h2.1 x hx)).elim
    subst e
    rw [sorted_unique l m h.cons_inv h1.2 h2.2]
def cSort (g : Nat) : Con := fun xs s => match xs with
  | [.nils, .fn g' []] => if g' = g then some (.tup [], s.lowed) else none
  | [.sl j 0 n none 6, .fn g' []] => if g' = g then match s.get j with
      | some (.row cs true) => match decL ndC n cs with
        | some l => if cs.length = n * 6 ∧ (l.map Nd.d).Nodup ∧ 0 < n ∧ n ≤ lim then some (.tup [], s.put j (.row (ndC.cells (sortN l)) true)) else none
        | none => none
      | _ => none
    else none
  | _ => none
theorem holds_of {ρ : Ren} {L : Loc} {w : World} {l : List Nd} (h : BlkOk ρ L w (.row (ndC.cells l) true)) : HoldsK nvals 6 w L.b L.o l.toArray := by
  simp only [BlkOk] at h
  obtain ⟨cs, e, fr, h1, h2, h3, h4, h5, _⟩ := h
  rw [cells_len] at h3
  intro j hj
  have hj : j < l.length * 6 := by simpa using hj
  obtain ⟨x, hx⟩ := getsome (l := l) (i := j / 6) (by omega)
  have h6 : (Nd.av x).length = 6 := rfl
  obtain ⟨v, hv⟩ : ∃ v, (Nd.av x)[j % 6]? = some v := ⟨(Nd.av x)[j % 6]'(by omega), by simp⟩
  obtain ⟨c, hc, hr⟩ := h4 j v (by rw [cells_get, hx]; exact hv)
  have hn := nd_val hv hr
  have e1 : (flatK nvals 6 l.toArray)[j]! = c := by
    rw [get_flatK _ _ _ _ (by simpa using hj)]
    have : l.toArray[j / 6]! = x := by simp [hx]
    rw [this]
    simp [hn]
  have h66 : ndC.sz = 6 := rfl
  rw [h66] at h3
  have hfr := h5 trivial (L.o + j) (by omega)
  constructor
  · simp only [World.cell?, h1, id, e1]
    simpa using hc
  · simp only [World.frozen?, h1]
    exact hfr
theorem blk_after {ρ : Ren} {L : Loc} {w : World} {l m : List Nd} (h : BlkOk ρ L w (.row (ndC.cells l) true)) (hm : m.length = l.length) (n : Nat) : BlkOk ρ L (putRowK nvals 6 (Sort.ahead w n) L.b L.o m.toArray) (.row (ndC.cells m) true) := by
  simp only [BlkOk] at h ⊢
  obtain ⟨cs, e, fr, h1, h2, h3, h4, h5, _⟩ := h
  rw [cells_len] at h3
  have h6 : ndC.sz = 6 := rfl
  refine ⟨Sort.putCells id L.o (flatK nvals 6 m.toArray) cs, e, fr, ?_, by simp [Sort.putCells, h2], by rw [cells_len, hm]; exact h3, fun i v hv => ?_, h5, cells_one' ndC m⟩
  · simp only [putRowK, Sort.putRow, Sort.mapBlock, Sort.ahead]
    rw [Array.getElem?_modify]
    simp [h1, Sort.onCells]
  · have hi := (List.getElem?_eq_some_iff.1 hv).1
    rw [cells_len] at hi
    rw [cells_get] at hv
    rw [h6] at hi
    obtain ⟨x, hx⟩ := getsome (l := m) (i := i / 6) (by omega)
    rw [hx] at hv
    obtain ⟨c, hc, hr⟩ := nd_VR (ρ := ρ) hv
    refine ⟨c, ?_, hr⟩
    have e1 : (flatK nvals 6 m.toArray)[i]! = c := by
      rw [get_flatK _ _ _ _ (by simp; omega)]
      have : m.toArray[i / 6]! = x := by simp [hx]
      rw [this]
      simp [hc]
    simp only [Sort.putCells, Array.getElem?_mapIdx]
    have hlt : L.o + i < cs.size := by
      rw [h6, ← hm] at h3
      rw [h2]
      omega
    rw [Array.getElem?_eq_getElem hlt]
    simp only [Option.map_some, size_flatK, List.size_toArray]
    rw [if_pos (by omega)]
    simp [e1]
theorem s_sort : SoundAt Try.prog 54 (cSort 55) := by
  intro xs s r s' h
  have hk : callable Try.prog 54 = true := k54
  have hf : Try.sortNode_ren.f 6 = 54 := rfl
  unfold cSort at h
  split at h
  · split at h
    · rename_i e
      subst e
      injection h with h
      obtain ⟨rfl, rfl⟩ := Prod.mk.inj h
      refine ⟨hk, (keep_lowed s).grow, fun ρ w cargs hfree hR hargs => ?_⟩
      obtain ⟨a1, r1, rfl, v1, w1⟩ : ∃ c r, cargs = c :: r ∧ VR ρ .nils c ∧ VRs ρ [.fn 55 []] r := by simpa only [VRs] using hargs
      obtain ⟨a2, r2, rfl, v2, w2⟩ : ∃ c r, r1 = c :: r ∧ VR ρ (.fn 55 []) c ∧ VRs ρ [] r := by simpa only [VRs] using w1
      simp only [VRs] at w2
      subst w2
      simp only [VR] at v1
      subst v1
      refine (AnyF.slices_SortFunc_none Try.sortNode none 0 a2 w).mono fun e w' hp => ?_
      obtain ⟨rfl, rfl⟩ := hp
      have hst := Step.refl s ρ w'
      exact ⟨ρ, _, rfl, by simp [VR, VRs], ⟨Nat.le_refl _, Nat.min_le_left _ _, hst.ren, hst.size, rfl, rfl, rfl, hst.drawn, fun b hb H => rfl, hst.old, fun id L blk e1 _ e3 _ => absurd (St.get_lt e3) (by rw [lowed_next]; omega), fun _ _ _ => rfl⟩, ⟨hR.bound, hR.blk, hR.inj⟩⟩
    · cases h
  · rename_i j n g'
    split at h
    · rename_i e
      subst e
      split at h
      · rename_i cs hg
        split at h
        · rename_i l hd
          split at h
          · rename_i hc
            obtain ⟨hc1, hnd, hpos, hlim⟩ := hc
            injection h with h
            obtain ⟨rfl, rfl⟩ := Prod.mk.inj h
            obtain ⟨d1, d2, d3⟩ := decL_some hd
            have hcs : cs = ndC.cells l := by rw [← d3, show n * ndC.sz = cs.length from hc1.symm]; simp
            subst hcs
            refine ⟨hk, grow_put _ hg, fun ρ w cargs hfree hR hargs => ?_⟩
            obtain ⟨a1, r1, rfl, v1, w1⟩ : ∃ c r, cargs = c :: r ∧ VR ρ (.sl j 0 n none 6) c ∧ VRs ρ [.fn 55 []] r := by simpa only [VRs] using hargs
            obtain ⟨a2, r2, rfl, v2, w2⟩ : ∃ c r, r1 = c :: r ∧ VR ρ (.fn 55 []) c ∧ VRs ρ [] r := by simpa only [VRs] using w1
            simp only [VRs] at w2
            subst w2
            simp only [VR] at v1 v2
            obtain ⟨L, a, c, hL, rfl, hle, _, hca⟩ := v1
            obtain ⟨cb, rfl, hcb⟩ := v2
            simp only [VRs] at hcb
            subst hcb
            rcases hca with rfl | ⟨rfl, hcap⟩
            · omega
            have hb := hR.blk j _ L hg hL
            have hH := holds_of hb
            have hlt := hR.bound j L hL
            have hsz : l.toArray.size = n := by simpa using d1
            have main := AnyQ.slices_SortFunc Try.sortNode 6 Try.isAgg44 Try.sizeOf44 nvals nvals_len nvals_one (fun x y : Nd => dcmp x.d y.d) swo 55 #[] L.b L.o c l.toArray w (enters_of Try.func55 (by kernel_rfl) rfl) (cmp_lays w L.b L.o l.toArray.size) hH hlt (by rw [hsz]; unfold lim at hlim; omega)
            rw [hsz] at main
            have main : Calls Try.prog 54 _ w _ := main
            refine main.mono fun e w' hp => ?_
            obtain ⟨rfl, d', nn, os, ⟨p1, _, p2⟩, hsrt, rfl⟩ := hp
            have hsz' : d'.size = n := by rw [p1, hsz]
            have hd' : d'.toList = sortN l := by
              have hp : d'.toList.Perm l := by
                have e1 : d'.extract 0 n = d' := by rw [← hsz']; simp
                have e2 : l.toArray.extract 0 n = l.toArray := by rw [← hsz]; simp
                rw [e1, e2] at p2
                exact p2
              refine sorted_unique _ _ (hp.trans (sortN_perm l).symm) ?_ (sortN_sorted l hnd)
              rw [List.pairwise_iff_getElem]
              intro i j hi hj hij
              have h1 := hsrt i j (Nat.zero_le _) hij (by simpa [hsz'] using hj)
              have hnd' : (d'.toList.map Nd.d).Nodup := (hp.map Nd.d).nodup_iff.2 hnd
              have hne : d'.toList[i].d ≠ d'.toList[j].d := by
                have := List.pairwise_iff_getElem.1 hnd' i j (by simpa using hi) (by simpa using hj) hij
                simpa using this
              have e1 : d'[i]! = d'.toList[i] := by
                simp at hi
                simp [hi]
              have e2 : d'[j]! = d'.toList[j] := by
                simp at hj
                simp [hj]
              rw [e1, e2] at h1
              rcases ltP_tri _ _ hne with q | q
              · exact q
              · unfold ltP at q
                unfold ltOf at h1
                rcases dcmp_cases d'.toList[j].d d'.toList[i].d with ⟨hh, _, _⟩ | ⟨hh, hh2, _⟩ | ⟨hh, hh2, _⟩
                · simp only [hh] at h1; exact absurd h1 (by decide)
                · rw [hh2] at q; cases q
                · rw [hh2] at q; cases q
            have hd'' : d' = (sortN l).toArray := by rw [← hd']
            subst hd''
            obtain ⟨hR1, hS1⟩ := R.put (b := .row (ndC.cells (sortN l)) true) hR hg rfl hL (blk_after hb (sortN_len l) nn) (by simp [putRowK, Sort.putRow, Sort.mapBlock, Sort.ahead]) rfl rfl rfl (by show w.drawn ≤ w.drawn + nn; omega) (by
              intro k hk'
              simp only [putRowK, Sort.putRow, Sort.mapBlock, Sort.ahead]
              rw [Array.getElem?_modify, if_neg (Ne.symm hk')])
            have hcl : Clean (putRowK nvals 6 (Sort.ahead w nn) L.b L.o (sortN l).toArray) (sortWorldK nvals 6 w L.b L.o nn (sortN l).toArray os) := by
              refine ⟨by simp [sortWorldK, Sort.grow], rfl, rfl, rfl, Nat.le_refl _, fun b hb => ?_⟩
              simp only [sortWorldK, Sort.grow]
              rw [Array.getElem?_append_left hb]
            exact ⟨ρ, _, rfl, by simp [VR, VRs], hS1.trans (hcl.step _ ρ), hR1.clean hcl⟩
          · cases h
        · cases h
      · cases h
    · cases h
  · cases h
end Go.AM
end
/-
  store.Of. Own work of this project; in part printed by a program of it.
-/
section
set_option linter.unusedVariables false
set_option linter.unusedSimpArgs false
set_option maxRecDepth 100000
set_option maxHeartbeats 8000000
namespace Go.AM
open Go Go.Proofs

variable {s t : St}
theorem lt_put {n id : Nat} {t : St} (h : ltN n t) (c : AB) : ltN n (t.put id c) = True := eq_true h
theorem same_put {n id : Nat} {t : St} (h : sameN n t) (c : AB) : sameN n (t.put id c) = True := eq_true h
theorem gt_push {id : Nat} (h : ltN id t) (b : AB) : (t.push b).get id = t.get id := St.get_push_old _ _ h
theorem sto_over {n : Nat} {s : St} (h : sameN n s) (x y : Nd) : sto (s.push (.row (Nd.av x) true)) 6 (.ptr n 0) (.agg (Nd.av y)) = some (.und, s.lowed.push (.row (Nd.av y) true)) := by
  unfold sameN at h
  subst h
  simp only [sto, St.get_push_new, push_put]
  rfl
theorem sto_lowed (n : Nat) (a x : AV) : sto s.lowed n a x = (sto s n a x).map fun r => (r.1, r.2.lowed) := by
  simp only [sto, lowed_get, put_lowed]
  repeat' split
  all_goals rfl
theorem cs_dead (p : Prop) [Decidable p] (A B : Prop) : cstep (.bool (!decide p)) A B = cstep (.bool (decide p)) B A := cs_not _ _ _
/-- What is there of the nodes so far: merged, and alive. -/
def ofStep (M A : List Nd) (n : Nd) : Option (List Nd × List Nd) :=
  if (match lookN A n.d with
    | some (_, x) => x.clash n
    | none => false) = true then none
  else match lookN M n.d with
    | some (_, old) => if old.clash n = true then none else some (updN M (old.merge n), if n.x = 0 then A else updN A n)
    | none => some (updN M n, if n.x = 0 then A else updN A n)
def ofFold : List Nd → List Nd → List Nd → Option (List Nd)
  | [], M, _ => some M
  | n :: r, M, A => match ofStep M A n with
    | some (M', A') => ofFold r M' A'
    | none => none
def gOf (l : List Nd) : Option (List Nd × Option AV) :=
  if l.all Nd.valid = true then match ofFold l [] [] with
    | some M => some (sortN M, some (.int .i64 0))
    | none => some ([], some (.int .i64 15))
  else some ([], some (.int .i64 2))
theorem gOf_plain {a : List Nd} {l : List Nd} {e : Option AV} (h : gOf a = some (l, e)) : ∀ x, e = some x → x.plain = true := by
  unfold gOf at h
  repeat' split at h
  all_goals
    injection h with h
    obtain ⟨_, rfl⟩ := Prod.mk.inj h
    intro x hx
    injection hx with hx
    subst hx
    rfl
theorem updN_mem {l : List Nd} {x y : Nd} (h : y ∈ updN l x) : y = x ∨ y ∈ l := by
  unfold updN at h
  split at h
  · rcases List.mem_or_eq_of_mem_set h with h | h
    · exact .inr h
    · exact .inl h
  · rcases List.mem_append.1 h with h | h
    · exact .inr h
    · exact .inl (by simpa using h)
theorem updN_len (l : List Nd) (x : Nd) : (updN l x).length ≤ l.length + 1 := by
  unfold updN
  split <;> simp
theorem updN_nodup {l : List Nd} {x : Nd} (h : (l.map Nd.d).Nodup) : ((updN l x).map Nd.d).Nodup := by
  unfold updN
  split
  · rename_i j y hj
    obtain ⟨h1, h2⟩ := lookN_some hj
    rw [List.map_set, ← h2]
    have : (l.map Nd.d).set j y.d = l.map Nd.d := by
      apply List.ext_getElem?
      intro k
      rw [List.getElem?_set]
      split
      · rename_i e
        subst e
        split
        · simp [h1]
        · rename_i hk
          have := getlt h1
          simp at hk
          omega
      · rfl
    rw [this]
    exact h
  · rename_i hj
    rw [List.map_append, List.nodup_append]
    refine ⟨h, by simp, ?_⟩
    intro a ha b hb e
    simp at hb
    subst hb
    subst e
    obtain ⟨y, hy, e⟩ := List.mem_map.1 ha
    exact lookN_none hj y hy e
theorem merge_valid {a b : Nd} (ha : a.valid = true) (hb : b.valid = true) : (a.merge b).valid = true := by
  unfold Nd.merge
  split <;> assumption
theorem merge_d {a b : Nd} (h : a.d = b.d) : (a.merge b).d = b.d := by
  unfold Nd.merge
  split <;> simp [h]
theorem aappend_frame {t t' : St} {sz bytes k : Nat} {v v' : AV} {new : List AV} (h : aappend t sz bytes v new k = some (v', t')) {id : Nat} {b : AB} (hne : ∀ o n c z, v ≠ .sl id o n c z) (hg : t.get id = some b) : t'.get id = some b := by
  unfold aappend at h
  split at h
  · split at h
    · injection h with h; obtain ⟨_, rfl⟩ := Prod.mk.inj h; exact hg
    · split at h
      · injection h with h; obtain ⟨_, rfl⟩ := Prod.mk.inj h; exact get_push_some _ hg
      · cases h
  · rename_i id' off len cap z
    have hid : id ≠ id' := fun e => hne off len cap z (by rw [e])
    split at h
    · split at h
      · rename_i cs own hg'
        have hlt := St.get_lt hg'
        split at h
        · injection h with h; obtain ⟨_, rfl⟩ := Prod.mk.inj h; exact hg
        · split at h
          · split at h
            · split at h
              · split at h
                · injection h with h; obtain ⟨_, rfl⟩ := Prod.mk.inj h
                  rw [St.get_put_ne _ _ hlt hid]; exact hg
                · cases h
              · injection h with h; obtain ⟨_, rfl⟩ := Prod.mk.inj h; exact get_push_some _ hg
            · split at h
              · injection h with h; obtain ⟨_, rfl⟩ := Prod.mk.inj h
                refine get_push_some _ ?_
                rw [St.get_put_ne _ _ hlt hid]; exact hg
              · cases h
          · cases h
      · cases h
    · cases h
  · cases h
theorem appV_frame {t t' : St} {sz bytes : Nat} {v v' x : AV} (h : appV t sz bytes v x = some (v', t')) {id : Nat} {b : AB} (hne : ∀ o n c z, v ≠ .sl id o n c z) (hg : t.get id = some b) : t'.get id = some b := by
  unfold appV at h
  split at h
  · exact aappend_frame h hne hg
  · cases h
theorem pigeon : ∀ (n : Nat) (l : List Nat), l.Nodup → (∀ x ∈ l, x < n) → l.length ≤ n
  | 0, l, _, h => by
    cases l with
    | nil => simp
    | cons x r => exact absurd (h x (by simp)) (by omega)
  | n + 1, l, hd, h => by
    by_cases hn : n ∈ l
    · have := pigeon n (l.erase n) (hd.erase n) fun x hx => by
        have := (hd.mem_erase_iff.1 hx)
        have := h x this.2
        omega
      rw [List.length_erase_of_mem hn] at this
      omega
    · have := pigeon n l hd fun x hx => by
        have := h x hx
        have : x ≠ n := fun e => hn (e ▸ hx)
        omega
      omega
theorem room_left {seen : List Nat} {n i : Nat} (hd : seen.Nodup) (hl : ∀ x ∈ seen, x < n) (hi : i < n) (hn : i ∉ seen) : seen.length < n := by
  have := pigeon n (i :: seen) (List.nodup_cons.2 ⟨hn, hd⟩) fun x hx => by
    rcases List.mem_cons.1 hx with rfl | hx
    · exact hi
    · exact hl x hx
  simp at this
  omega
theorem range_get (M : List Nd) : (List.range M.length).map (fun i => M[i]?) = M.map some := by
  apply List.ext_getElem?
  intro i
  rw [List.getElem?_map, List.getElem?_map]
  by_cases h : i < M.length
  · rw [List.getElem?_range h]
    simp [h]
  · rw [List.getElem?_eq_none (by simpa using h), List.getElem?_eq_none (by omega)]
    rfl
theorem seen_perm {M acc : List Nd} {seen : List Nat} (h1 : seen.Nodup) (h2 : ∀ i ∈ seen, i < M.length) (h3 : acc.map some = seen.map fun i => M[i]?) (h4 : ∀ i, i < M.length → i ∈ seen) : acc.Perm M := by
  have hp : seen.Perm (List.range M.length) := (List.perm_ext_iff_of_nodup h1 List.nodup_range).2 fun i => by
    rw [List.mem_range]
    exact ⟨h2 i, h4 i⟩
  have h5 := hp.map fun i => M[i]?
  rw [← h3, range_get] at h5
  have h6 := h5.filterMap (fun x => x)
  have e : ∀ l : List Nd, (l.map some).filterMap (fun x => x) = l := by
    intro l
    induction l with
    | nil => rfl
    | cons x r ih => simp [ih]
  rwa [e, e] at h6
theorem sort_own {v : AV} {acc : List Nd} (hK : Keep s t) (hO : Own ndC s t v acc) (hnd : (acc.map Nd.d).Nodup) (hl : acc.length ≤ lim) (g : Nat) : ∃ t3, acall (cSort g) false [v, .fn g []] t = some (.tup [], t3) ∧ Keep s t3 ∧ Own ndC s t3 v (sortN acc) := by
  rcases hO with ⟨rfl, rfl⟩ | ⟨j, rfl, h0, h1, h⟩
  · exact ⟨t, acall_rol (by simp [cSort]) rfl, hK, .nil _ _ _⟩
  · have hpos : 0 < acc.length := List.length_pos_iff.2 h0
    have hd : decL ndC acc.length (ndC.cells acc) = some acc := by
      have := decL_cells ndC acc []
      rwa [List.append_nil] at this
    have h6 : ndC.sz = 6 := rfl
    have hlen : (ndC.cells acc).length = acc.length * 6 := by rw [cells_len, h6]
    have hc : cSort g [.sl j 0 acc.length none ndC.sz, .fn g []] { heap := t.heap, next := t.next, low := t.next } = some (.tup [], ({ heap := t.heap, next := t.next, low := t.next } : St).put j (.row (ndC.cells (sortN acc)) true)) := by
      have hg : ({ heap := t.heap, next := t.next, low := t.next } : St).get j = some (.row (ndC.cells acc) true) := h
      rw [h6]
      simp only [cSort, if_true, hg, hd, hlen, hnd, hpos, hl, and_self]
    have hlt := St.get_lt h
    refine ⟨t.put j (.row (ndC.cells (sortN acc)) true), ?_, hK.put _ h1 hlt, .inr ⟨j, by rw [sortN_len], ?_, h1, St.get_put_same h⟩⟩
    · simp only [acall, hc]
      have e : (AV.tup []).ground = true := rfl
      have e3 : decide (t.next ≤ (({ heap := t.heap, next := t.next, low := t.next } : St).put j (.row (ndC.cells (sortN acc)) true)).low) = false := decide_eq_false (by simp only [St.low_put]; omega)
      rw [e, e3]
      simp only [Bool.and_false, Bool.false_eq_true, if_false, St.put]
      congr 3
      omega
    · intro e
      have := sortN_len acc
      rw [e] at this
      simp at this
      omega
theorem s_Of : SoundAt Try.prog 44 (conF ndC (pL ndC gOf)) :=
  con_fresh (tb_sound (l := [(45, conLfn fHasBad 46), (31, conNN fMerge), (43, conN fDead), (54, cSort 55)]) (by simpa using ⟨s_HasBad, s_Merge, s_Dead, s_sort⟩)) mixed Try.func44 k44 c44 fun args s r ee h => by
    obtain ⟨v, l, rfl, hr, hl, hp⟩ := pL_some h
    refine ⟨gOf_plain hp, by simp [a44], fun env hlen ha => ?_⟩
    have h0 : E env 0 = _ := ha 0 _ rfl
    have hlen : elen env = _ := hlen
    simp only [a44] at hlen
    unfold a44
    have hL := lenV_read hr
    have q1 := q_HasBad false hr hl
    unfold gOf at hp
    cases hv : l.all Nd.valid
    · rw [hv] at hp q1
      simp only [Bool.false_eq_true, if_false] at hp
      injection hp with hp
      obtain ⟨rfl, rfl⟩ := Prod.mk.inj hp
      simp (config := {contextual := true, maxDischargeDepth := 12}) only [tb, q1, h0, hlen, ↓bD0, ↓bD1, ↓bD2, ↓bD3, ↓bD4, ↓bD5, ↓bD6, bU0, bU1, bU2, bU3, bU4, bU5, bU6, bU7, bU8, bU9, bU10, bU11, bU12, bU13, forall_const, List.all_cons, List.all_nil, Option.map_some, List.map_cons, List.map_nil, ne_eq, implies_true, isNx, cs_dec, cs_not, cs_and, cs_or, cs_valid, eq_self, ↓wp_cond, ↓wp_loop, ↓reduceIte, reduceCtorEq, Nat.reduceEqDiff, Nat.reduceLT, Nat.reduceAdd, Nat.reduceMul, Int.ofNat_lt, Int.ofNat_le, exists_const, ae_app, ap_slc, Option.map_none, mkR_none, mkR_some, ar_look, ae_mset, ae_rng, ae_mkmap0, ar_ent, lookV_push, lookV_lowed, msetV_push, msetV_lowed, lt_put, same_put, sto_over, sto_lowed, cs_dead, Option.map_some]
      exact ⟨_, rfl, .nil _ _ _⟩
    · rw [hv] at hp q1
      simp only [if_true] at hp
      have hA : ∀ x ∈ l, x.valid = true := by simpa using hv
      simp (config := {contextual := true, maxDischargeDepth := 12}) only [tb, q1, h0, hlen, hL, ↓bD0, ↓bD1, ↓bD2, ↓bD3, ↓bD4, ↓bD5, ↓bD6, bU0, bU1, bU2, bU3, bU4, bU5, bU6, bU7, bU8, bU9, bU10, bU11, bU12, bU13, forall_const, List.all_cons, List.all_nil, Option.map_some, List.map_cons, List.map_nil, ne_eq, implies_true, isNx, cs_dec, cs_not, cs_and, cs_or, cs_valid, eq_self, ↓wp_cond, ↓wp_loop, ↓reduceIte, reduceCtorEq, Nat.reduceEqDiff, Nat.reduceLT, Nat.reduceAdd, Nat.reduceMul, Int.ofNat_lt, Int.ofNat_le, exists_const, ae_app, ap_slc, Option.map_none, mkR_none, mkR_some, ar_look, ae_mset, ae_rng, ae_mkmap0, ar_ent, lookV_push, lookV_lowed, msetV_push, msetV_lowed, lt_put, same_put, sto_over, sto_lowed, cs_dead, Option.map_some]
      obtain ⟨mM, hmM⟩ : ∃ mM, mM = s.next := ⟨_, rfl⟩
      obtain ⟨mA, hmA⟩ : ∃ mA, mA = (s.push (.map [] 0)).next := ⟨_, rfl⟩
      obtain ⟨I, hI⟩ : ∃ I : Nat → Env → St → Prop, ∀ n e t, I n e t = (Keep s t ∧ ∃ (i : Nat) (M A : List Nd), n + i = l.length ∧ elen e = 89 ∧ E e 23 = v ∧ E e 24 = .int .i64 (l.length : Int) ∧ E e 25 = .int .i64 (i : Int) ∧ E e 4 = .mp mM ∧ E e 5 = .mp mA ∧ t.get mM = some (mapN M) ∧ t.get mA = some (mapN A) ∧ ofFold l [] [] = ofFold (l.drop i) M A ∧ (∀ x ∈ M, x.valid = true) ∧ (∀ x ∈ A, x.valid = true) ∧ M.length ≤ i ∧ (M.map Nd.d).Nodup) := ⟨fun n e t => (Keep s t ∧ ∃ (i : Nat) (M A : List Nd), n + i = l.length ∧ elen e = 89 ∧ E e 23 = v ∧ E e 24 = .int .i64 (l.length : Int) ∧ E e 25 = .int .i64 (i : Int) ∧ E e 4 = .mp mM ∧ E e 5 = .mp mA ∧ t.get mM = some (mapN M) ∧ t.get mA = some (mapN A) ∧ ofFold l [] [] = ofFold (l.drop i) M A ∧ (∀ x ∈ M, x.valid = true) ∧ (∀ x ∈ A, x.valid = true) ∧ M.length ≤ i ∧ (M.map Nd.d).Nodup), fun _ _ _ => rfl⟩
      refine lwp_inv I (n := l.length) ?_ ?_
      · rw [hI]
        refine ⟨((Keep.refl s).push _).push _, 0, [], [], by omega, by simp only [E_pne, E_psame, elen_put, Nat.reduceEqDiff, ne_eq, not_false_eq_true, Nat.reduceLT, hlen], by simp only [E_pne, E_psame, elen_put, Nat.reduceEqDiff, ne_eq, not_false_eq_true, Nat.reduceLT, hlen], by simp only [E_pne, E_psame, elen_put, Nat.reduceEqDiff, ne_eq, not_false_eq_true, Nat.reduceLT, hlen], by simp only [E_pne, E_psame, elen_put, Nat.reduceEqDiff, ne_eq, not_false_eq_true, Nat.reduceLT, hlen]; rfl, by rw [hmM]; simp only [E_pne, E_psame, elen_put, Nat.reduceEqDiff, ne_eq, not_false_eq_true, Nat.reduceLT, hlen], by rw [hmA]; simp only [E_pne, E_psame, elen_put, Nat.reduceEqDiff, ne_eq, not_false_eq_true, Nat.reduceLT, hlen], ?_, ?_, rfl, by simp, by simp, by simp, by simp⟩
        · rw [hmM]
          rw [St.get_push_old _ _ (Nat.lt_succ_self _), St.get_push_new]
          rfl
        · rw [hmA, St.get_push_new]
          rfl
      intro n e t hi
      rw [hI] at hi
      obtain ⟨hK, i, M, A, hn, he, e23, e24, e25, e4, e5, gM, gA, hfold, hvM, hvA, hMi, hnd⟩ := hi
      have lM := lt_of_get gM
      have lA := lt_of_get gA
      have hmA' : s.next ≤ mA := by rw [hmA]; simp
      have hmM' : s.next ≤ mM := by rw [hmM]; exact Nat.le_refl _
      have hne : mM ≠ mA := by rw [hmM, hmA]; simp
      by_cases hlt : i < l.length
      · obtain ⟨x, hx⟩ := getsome hlt
        have hw2 := wrap_add1 (n := i) (by unfold lim at hl; omega)
        obtain ⟨a1, _⟩ := nd_lods hr hK hx
        have i1 := nd_idx hr hx .i64
        have vx := hA x (List.mem_of_getElem? hx)
        have hdr : l.drop i = x :: l.drop (i + 1) := by
          rw [List.drop_eq_getElem_cons hlt]
          congr 1
          have := (List.getElem?_eq_some_iff.1 hx).2
          exact this
        rw [hdr, ofFold, ofStep] at hfold
        have h15 : ((15 : Int) = 0) = False := by decide
        cases ha2 : lookN A x.d with
        | none =>
          have lkA := look_miss gA ha2 (.agg [.int .i64 0, .int .i64 0, .int .i64 0, .int .i64 0, .int .i64 0, .int .i32 0])
          rw [ha2] at hfold
          simp only [Bool.false_eq_true, if_false] at hfold
          by_cases hd : x.x = 0
          · have tAe : ∃ tA, tA = t := ⟨_, rfl⟩
            obtain ⟨tA, htA⟩ := tAe
            have hx0 : (x.x = 0) = True := eq_true hd
            have gMA : tA.get mM = some (mapN M) := by rw [htA]; exact gM
            have gAA : tA.get mA = some (mapN A) := by rw [htA]; exact gA
            have hKA : Keep s tA := by rw [htA]; exact hK
            have hs1 : sameN t.next tA := by rw [htA]; rfl
            have hvA2 := hvA
            rw [if_pos hd] at hfold
            have lMA := lt_of_get gMA
            cases hm : lookN M x.d with
            | none =>
              have lkM := look_miss gMA hm (.agg [.int .i64 0, .int .i64 0, .int .i64 0, .int .i64 0, .int .i64 0, .int .i32 0])
              have mM2 := mset_map gMA x
              rw [hm] at hfold
              simp only at hfold
              obtain ⟨tB, htB⟩ : ∃ tB, tB = tA.put mM (mapN (updN M x)) := ⟨_, rfl⟩
              rw [← htB] at mM2
              have gMB : tB.get mM = some (mapN (updN M x)) := by rw [htB]; exact St.get_put_same gMA
              have gAB : tB.get mA = some (mapN A) := by rw [htB, St.get_put_ne _ _ lMA (Ne.symm hne)]; exact gAA
              have hKB : Keep s tB := by rw [htB]; exact hKA.put _ hmM' lMA
              have lMB := lt_of_get gMB
              have lAB := lt_of_get gAB
              have hs2 : sameN t.next tB := by rw [htB]; exact hs1
              subst htA
              simp (config := {contextual := true, maxDischargeDepth := 12}) only [tb, q_Merge, q_Dead, e23, e24, e25, e4, e5, he, hlt, hw2, a1, i1, lM, lA, lkA, hx0, lkM, mM2, hs1, hs2, lMA, lMB, lAB, ↓bD0, ↓bD1, ↓bD2, ↓bD3, ↓bD4, ↓bD5, ↓bD6, bU0, bU1, bU2, bU3, bU4, bU5, bU6, bU7, bU8, bU9, bU10, bU11, bU12, bU13, forall_const, List.all_cons, List.all_nil, Option.map_some, List.map_cons, List.map_nil, ne_eq, implies_true, isNx, cs_dec, cs_not, cs_and, cs_or, cs_valid, eq_self, ↓wp_cond, ↓wp_loop, ↓reduceIte, reduceCtorEq, Nat.reduceEqDiff, Nat.reduceLT, Nat.reduceAdd, Nat.reduceMul, Int.ofNat_lt, Int.ofNat_le, exists_const, ae_app, ap_slc, Option.map_none, mkR_none, mkR_some, ar_look, ae_mset, ae_rng, ae_mkmap0, ar_ent, lookV_push, lookV_lowed, msetV_push, msetV_lowed, lt_put, same_put, sto_over, sto_lowed, cs_dead, Option.map_some]
              refine ⟨n - 1, by omega, ?_⟩
              rw [hI]
              refine ⟨by simp (config := {maxDischargeDepth := 12}) only [kt_push, kt_lowed, hKB], i + 1, updN M x, A, by omega, by simp only [E_pne, E_psame, elen_put, Nat.reduceEqDiff, ne_eq, not_false_eq_true, Nat.reduceLT, he], by simp only [E_pne, E_psame, elen_put, Nat.reduceEqDiff, ne_eq, not_false_eq_true, Nat.reduceLT, e23], by simp only [E_pne, E_psame, elen_put, Nat.reduceEqDiff, ne_eq, not_false_eq_true, Nat.reduceLT, e24], by simp only [E_pne, E_psame, elen_put, Nat.reduceEqDiff, ne_eq, not_false_eq_true, Nat.reduceLT, he], by simp only [E_pne, E_psame, elen_put, Nat.reduceEqDiff, ne_eq, not_false_eq_true, Nat.reduceLT, e4], by simp only [E_pne, E_psame, elen_put, Nat.reduceEqDiff, ne_eq, not_false_eq_true, Nat.reduceLT, e5], ?_, ?_, hfold, fun y hy => ?_, hvA2, by have := updN_len M x; omega, updN_nodup hnd⟩
              · simp (config := {maxDischargeDepth := 12}) only [gt_push, lt_push, lt_lowed, lowed_get, lMB, gMB]
              · simp (config := {maxDischargeDepth := 12}) only [gt_push, lt_push, lt_lowed, lowed_get, lAB, gAB]
              · rcases updN_mem hy with rfl | hy
                · exact vx
                · exact hvM y hy
            | some p =>
              obtain ⟨jj, old⟩ := p
              obtain ⟨ho1, ho2⟩ := lookN_some hm
              have vo := hvM old (List.mem_of_getElem? ho1)
              have lkM := look_hit gMA hm (.agg [.int .i64 0, .int .i64 0, .int .i64 0, .int .i64 0, .int .i64 0, .int .i32 0])
              rw [hm] at hfold
              simp only at hfold
              by_cases hc2 : old.clash x = true
              · have hg2 : mergeV old x = .tup [.agg (Nd.av nd0), .int .i64 15] := by simp [mergeV, vo, vx, hc2]
                rw [if_pos hc2] at hfold
                simp only at hfold
                rw [hfold] at hp
                injection hp with hp
                obtain ⟨rfl, rfl⟩ := Prod.mk.inj hp
                subst htA
                simp (config := {contextual := true, maxDischargeDepth := 12}) only [tb, q_Merge, q_Dead, e23, e24, e25, e4, e5, he, hlt, hw2, a1, i1, lM, lA, lkA, hx0, lkM, hg2, h15, hs1, lMA, ↓bD0, ↓bD1, ↓bD2, ↓bD3, ↓bD4, ↓bD5, ↓bD6, bU0, bU1, bU2, bU3, bU4, bU5, bU6, bU7, bU8, bU9, bU10, bU11, bU12, bU13, forall_const, List.all_cons, List.all_nil, Option.map_some, List.map_cons, List.map_nil, ne_eq, implies_true, isNx, cs_dec, cs_not, cs_and, cs_or, cs_valid, eq_self, ↓wp_cond, ↓wp_loop, ↓reduceIte, reduceCtorEq, Nat.reduceEqDiff, Nat.reduceLT, Nat.reduceAdd, Nat.reduceMul, Int.ofNat_lt, Int.ofNat_le, exists_const, ae_app, ap_slc, Option.map_none, mkR_none, mkR_some, ar_look, ae_mset, ae_rng, ae_mkmap0, ar_ent, lookV_push, lookV_lowed, msetV_push, msetV_lowed, lt_put, same_put, sto_over, sto_lowed, cs_dead, Option.map_some]
                exact ⟨by simp (config := {maxDischargeDepth := 12}) only [kt_push, kt_lowed, hKA], _, rfl, .nil _ _ _⟩
              · have hg2 : mergeV old x = .tup [.agg (Nd.av (old.merge x)), .int .i64 0] := by simp [mergeV, vo, vx, hc2]
                rw [if_neg hc2] at hfold
                simp only at hfold
                have mM2 := mset_map gMA (old.merge x)
                obtain ⟨tB, htB⟩ : ∃ tB, tB = tA.put mM (mapN (updN M (old.merge x))) := ⟨_, rfl⟩
                rw [← htB] at mM2
                have gMB : tB.get mM = some (mapN (updN M (old.merge x))) := by rw [htB]; exact St.get_put_same gMA
                have gAB : tB.get mA = some (mapN A) := by rw [htB, St.get_put_ne _ _ lMA (Ne.symm hne)]; exact gAA
                have hKB : Keep s tB := by rw [htB]; exact hKA.put _ hmM' lMA
                have lMB := lt_of_get gMB
                have lAB := lt_of_get gAB
                have hs2 : sameN t.next tB := by rw [htB]; exact hs1
                subst htA
                simp (config := {contextual := true, maxDischargeDepth := 12}) only [tb, q_Merge, q_Dead, e23, e24, e25, e4, e5, he, hlt, hw2, a1, i1, lM, lA, lkA, hx0, hg2, lkM, mM2, hs1, hs2, lMA, lMB, lAB, ↓bD0, ↓bD1, ↓bD2, ↓bD3, ↓bD4, ↓bD5, ↓bD6, bU0, bU1, bU2, bU3, bU4, bU5, bU6, bU7, bU8, bU9, bU10, bU11, bU12, bU13, forall_const, List.all_cons, List.all_nil, Option.map_some, List.map_cons, List.map_nil, ne_eq, implies_true, isNx, cs_dec, cs_not, cs_and, cs_or, cs_valid, eq_self, ↓wp_cond, ↓wp_loop, ↓reduceIte, reduceCtorEq, Nat.reduceEqDiff, Nat.reduceLT, Nat.reduceAdd, Nat.reduceMul, Int.ofNat_lt, Int.ofNat_le, exists_const, ae_app, ap_slc, Option.map_none, mkR_none, mkR_some, ar_look, ae_mset, ae_rng, ae_mkmap0, ar_ent, lookV_push, lookV_lowed, msetV_push, msetV_lowed, lt_put, same_put, sto_over, sto_lowed, cs_dead, Option.map_some]
                refine ⟨n - 1, by omega, ?_⟩
                rw [hI]
                refine ⟨by simp (config := {maxDischargeDepth := 12}) only [kt_push, kt_lowed, hKB], i + 1, updN M (old.merge x), A, by omega, by simp only [E_pne, E_psame, elen_put, Nat.reduceEqDiff, ne_eq, not_false_eq_true, Nat.reduceLT, he], by simp only [E_pne, E_psame, elen_put, Nat.reduceEqDiff, ne_eq, not_false_eq_true, Nat.reduceLT, e23], by simp only [E_pne, E_psame, elen_put, Nat.reduceEqDiff, ne_eq, not_false_eq_true, Nat.reduceLT, e24], by simp only [E_pne, E_psame, elen_put, Nat.reduceEqDiff, ne_eq, not_false_eq_true, Nat.reduceLT, he], by simp only [E_pne, E_psame, elen_put, Nat.reduceEqDiff, ne_eq, not_false_eq_true, Nat.reduceLT, e4], by simp only [E_pne, E_psame, elen_put, Nat.reduceEqDiff, ne_eq, not_false_eq_true, Nat.reduceLT, e5], ?_, ?_, hfold, fun y hy => ?_, hvA2, by have := updN_len M (old.merge x); omega, updN_nodup hnd⟩
                · simp (config := {maxDischargeDepth := 12}) only [gt_push, lt_push, lt_lowed, lowed_get, lMB, gMB]
                · simp (config := {maxDischargeDepth := 12}) only [gt_push, lt_push, lt_lowed, lowed_get, lAB, gAB]
                · rcases updN_mem hy with rfl | hy
                  · exact (merge_valid vo vx)
                  · exact hvM y hy
          · have tAe : ∃ tA, tA = t.put mA (mapN (updN A x)) := ⟨_, rfl⟩
            obtain ⟨tA, htA⟩ := tAe
            have hx0 : (x.x = 0) = False := eq_false hd
            have gMA : tA.get mM = some (mapN M) := by rw [htA, St.get_put_ne _ _ lA hne]; exact gM
            have gAA : tA.get mA = some (mapN (updN A x)) := by rw [htA]; exact St.get_put_same gA
            have hKA : Keep s tA := by rw [htA]; exact hK.put _ hmA' lA
            have hs1 : sameN t.next tA := by rw [htA]; rfl
            have mS := mset_map gA x
            rw [← htA] at mS
            have hvA2 : ∀ y ∈ updN A x, y.valid = true := fun y hy => by
              rcases updN_mem hy with rfl | hy
              · exact vx
              · exact hvA y hy
            rw [if_neg hd] at hfold
            have lMA := lt_of_get gMA
            cases hm : lookN M x.d with
            | none =>
              have lkM := look_miss gMA hm (.agg [.int .i64 0, .int .i64 0, .int .i64 0, .int .i64 0, .int .i64 0, .int .i32 0])
              have mM2 := mset_map gMA x
              rw [hm] at hfold
              simp only at hfold
              obtain ⟨tB, htB⟩ : ∃ tB, tB = tA.put mM (mapN (updN M x)) := ⟨_, rfl⟩
              rw [← htB] at mM2
              have gMB : tB.get mM = some (mapN (updN M x)) := by rw [htB]; exact St.get_put_same gMA
              have gAB : tB.get mA = some (mapN (updN A x)) := by rw [htB, St.get_put_ne _ _ lMA (Ne.symm hne)]; exact gAA
              have hKB : Keep s tB := by rw [htB]; exact hKA.put _ hmM' lMA
              have lMB := lt_of_get gMB
              have lAB := lt_of_get gAB
              have hs2 : sameN t.next tB := by rw [htB]; exact hs1
              simp (config := {contextual := true, maxDischargeDepth := 12}) only [tb, q_Merge, q_Dead, e23, e24, e25, e4, e5, he, hlt, hw2, a1, i1, lM, lA, lkA, hx0, mS, lkM, mM2, hs1, hs2, lMA, lMB, lAB, ↓bD0, ↓bD1, ↓bD2, ↓bD3, ↓bD4, ↓bD5, ↓bD6, bU0, bU1, bU2, bU3, bU4, bU5, bU6, bU7, bU8, bU9, bU10, bU11, bU12, bU13, forall_const, List.all_cons, List.all_nil, Option.map_some, List.map_cons, List.map_nil, ne_eq, implies_true, isNx, cs_dec, cs_not, cs_and, cs_or, cs_valid, eq_self, ↓wp_cond, ↓wp_loop, ↓reduceIte, reduceCtorEq, Nat.reduceEqDiff, Nat.reduceLT, Nat.reduceAdd, Nat.reduceMul, Int.ofNat_lt, Int.ofNat_le, exists_const, ae_app, ap_slc, Option.map_none, mkR_none, mkR_some, ar_look, ae_mset, ae_rng, ae_mkmap0, ar_ent, lookV_push, lookV_lowed, msetV_push, msetV_lowed, lt_put, same_put, sto_over, sto_lowed, cs_dead, Option.map_some]
              refine ⟨n - 1, by omega, ?_⟩
              rw [hI]
              refine ⟨by simp (config := {maxDischargeDepth := 12}) only [kt_push, kt_lowed, hKB], i + 1, updN M x, (updN A x), by omega, by simp only [E_pne, E_psame, elen_put, Nat.reduceEqDiff, ne_eq, not_false_eq_true, Nat.reduceLT, he], by simp only [E_pne, E_psame, elen_put, Nat.reduceEqDiff, ne_eq, not_false_eq_true, Nat.reduceLT, e23], by simp only [E_pne, E_psame, elen_put, Nat.reduceEqDiff, ne_eq, not_false_eq_true, Nat.reduceLT, e24], by simp only [E_pne, E_psame, elen_put, Nat.reduceEqDiff, ne_eq, not_false_eq_true, Nat.reduceLT, he], by simp only [E_pne, E_psame, elen_put, Nat.reduceEqDiff, ne_eq, not_false_eq_true, Nat.reduceLT, e4], by simp only [E_pne, E_psame, elen_put, Nat.reduceEqDiff, ne_eq, not_false_eq_true, Nat.reduceLT, e5], ?_, ?_, hfold, fun y hy => ?_, hvA2, by have := updN_len M x; omega, updN_nodup hnd⟩
              · simp (config := {maxDischargeDepth := 12}) only [gt_push, lt_push, lt_lowed, lowed_get, lMB, gMB]
              · simp (config := {maxDischargeDepth := 12}) only [gt_push, lt_push, lt_lowed, lowed_get, lAB, gAB]
              · rcases updN_mem hy with rfl | hy
                · exact vx
                · exact hvM y hy
            | some p =>
              obtain ⟨jj, old⟩ := p
              obtain ⟨ho1, ho2⟩ := lookN_some hm
              have vo := hvM old (List.mem_of_getElem? ho1)
              have lkM := look_hit gMA hm (.agg [.int .i64 0, .int .i64 0, .int .i64 0, .int .i64 0, .int .i64 0, .int .i32 0])
              rw [hm] at hfold
              simp only at hfold
              by_cases hc2 : old.clash x = true
              · have hg2 : mergeV old x = .tup [.agg (Nd.av nd0), .int .i64 15] := by simp [mergeV, vo, vx, hc2]
                rw [if_pos hc2] at hfold
                simp only at hfold
                rw [hfold] at hp
                injection hp with hp
                obtain ⟨rfl, rfl⟩ := Prod.mk.inj hp
                simp (config := {contextual := true, maxDischargeDepth := 12}) only [tb, q_Merge, q_Dead, e23, e24, e25, e4, e5, he, hlt, hw2, a1, i1, lM, lA, lkA, hx0, mS, lkM, hg2, h15, hs1, lMA, ↓bD0, ↓bD1, ↓bD2, ↓bD3, ↓bD4, ↓bD5, ↓bD6, bU0, bU1, bU2, bU3, bU4, bU5, bU6, bU7, bU8, bU9, bU10, bU11, bU12, bU13, forall_const, List.all_cons, List.all_nil, Option.map_some, List.map_cons, List.map_nil, ne_eq, implies_true, isNx, cs_dec, cs_not, cs_and, cs_or, cs_valid, eq_self, ↓wp_cond, ↓wp_loop, ↓reduceIte, reduceCtorEq, Nat.reduceEqDiff, Nat.reduceLT, Nat.reduceAdd, Nat.reduceMul, Int.ofNat_lt, Int.ofNat_le, exists_const, ae_app, ap_slc, Option.map_none, mkR_none, mkR_some, ar_look, ae_mset, ae_rng, ae_mkmap0, ar_ent, lookV_push, lookV_lowed, msetV_push, msetV_lowed, lt_put, same_put, sto_over, sto_lowed, cs_dead, Option.map_some]
                exact ⟨by simp (config := {maxDischargeDepth := 12}) only [kt_push, kt_lowed, hKA], _, rfl, .nil _ _ _⟩
              · have hg2 : mergeV old x = .tup [.agg (Nd.av (old.merge x)), .int .i64 0] := by simp [mergeV, vo, vx, hc2]
                rw [if_neg hc2] at hfold
                simp only at hfold
                have mM2 := mset_map gMA (old.merge x)
                obtain ⟨tB, htB⟩ : ∃ tB, tB = tA.put mM (mapN (updN M (old.merge x))) := ⟨_, rfl⟩
                rw [← htB] at mM2
                have gMB : tB.get mM = some (mapN (updN M (old.merge x))) := by rw [htB]; exact St.get_put_same gMA
                have gAB : tB.get mA = some (mapN (updN A x)) := by rw [htB, St.get_put_ne _ _ lMA (Ne.symm hne)]; exact gAA
                have hKB : Keep s tB := by rw [htB]; exact hKA.put _ hmM' lMA
                have lMB := lt_of_get gMB
                have lAB := lt_of_get gAB
                have hs2 : sameN t.next tB := by rw [htB]; exact hs1
                simp (config := {contextual := true, maxDischargeDepth := 12}) only [tb, q_Merge, q_Dead, e23, e24, e25, e4, e5, he, hlt, hw2, a1, i1, lM, lA, lkA, hx0, mS, hg2, lkM, mM2, hs1, hs2, lMA, lMB, lAB, ↓bD0, ↓bD1, ↓bD2, ↓bD3, ↓bD4, ↓bD5, ↓bD6, bU0, bU1, bU2, bU3, bU4, bU5, bU6, bU7, bU8, bU9, bU10, bU11, bU12, bU13, forall_const, List.all_cons, List.all_nil, Option.map_some, List.map_cons, List.map_nil, ne_eq, implies_true, isNx, cs_dec, cs_not, cs_and, cs_or, cs_valid, eq_self, ↓wp_cond, ↓wp_loop, ↓reduceIte, reduceCtorEq, Nat.reduceEqDiff, Nat.reduceLT, Nat.reduceAdd, Nat.reduceMul, Int.ofNat_lt, Int.ofNat_le, exists_const, ae_app, ap_slc, Option.map_none, mkR_none, mkR_some, ar_look, ae_mset, ae_rng, ae_mkmap0, ar_ent, lookV_push, lookV_lowed, msetV_push, msetV_lowed, lt_put, same_put, sto_over, sto_lowed, cs_dead, Option.map_some]
                refine ⟨n - 1, by omega, ?_⟩
                rw [hI]
                refine ⟨by simp (config := {maxDischargeDepth := 12}) only [kt_push, kt_lowed, hKB], i + 1, updN M (old.merge x), (updN A x), by omega, by simp only [E_pne, E_psame, elen_put, Nat.reduceEqDiff, ne_eq, not_false_eq_true, Nat.reduceLT, he], by simp only [E_pne, E_psame, elen_put, Nat.reduceEqDiff, ne_eq, not_false_eq_true, Nat.reduceLT, e23], by simp only [E_pne, E_psame, elen_put, Nat.reduceEqDiff, ne_eq, not_false_eq_true, Nat.reduceLT, e24], by simp only [E_pne, E_psame, elen_put, Nat.reduceEqDiff, ne_eq, not_false_eq_true, Nat.reduceLT, he], by simp only [E_pne, E_psame, elen_put, Nat.reduceEqDiff, ne_eq, not_false_eq_true, Nat.reduceLT, e4], by simp only [E_pne, E_psame, elen_put, Nat.reduceEqDiff, ne_eq, not_false_eq_true, Nat.reduceLT, e5], ?_, ?_, hfold, fun y hy => ?_, hvA2, by have := updN_len M (old.merge x); omega, updN_nodup hnd⟩
                · simp (config := {maxDischargeDepth := 12}) only [gt_push, lt_push, lt_lowed, lowed_get, lMB, gMB]
                · simp (config := {maxDischargeDepth := 12}) only [gt_push, lt_push, lt_lowed, lowed_get, lAB, gAB]
                · rcases updN_mem hy with rfl | hy
                  · exact (merge_valid vo vx)
                  · exact hvM y hy
        | some p =>
          obtain ⟨j0, x0⟩ := p
          obtain ⟨ho3, ho4⟩ := lookN_some ha2
          have v0 := hvA x0 (List.mem_of_getElem? ho3)
          have lkA := look_hit gA ha2 (.agg [.int .i64 0, .int .i64 0, .int .i64 0, .int .i64 0, .int .i64 0, .int .i32 0])
          rw [ha2] at hfold
          simp only at hfold
          by_cases hc1 : x0.clash x = true
          · have hg1 : mergeV x0 x = .tup [.agg (Nd.av nd0), .int .i64 15] := by simp [mergeV, v0, vx, hc1]
            rw [if_pos hc1] at hfold
            simp only at hfold
            rw [hfold] at hp
            injection hp with hp
            obtain ⟨rfl, rfl⟩ := Prod.mk.inj hp
            simp (config := {contextual := true, maxDischargeDepth := 12}) only [tb, q_Merge, q_Dead, e23, e24, e25, e4, e5, he, hlt, hw2, a1, i1, lM, lA, lkA, hg1, h15, ↓bD0, ↓bD1, ↓bD2, ↓bD3, ↓bD4, ↓bD5, ↓bD6, bU0, bU1, bU2, bU3, bU4, bU5, bU6, bU7, bU8, bU9, bU10, bU11, bU12, bU13, forall_const, List.all_cons, List.all_nil, Option.map_some, List.map_cons, List.map_nil, ne_eq, implies_true, isNx, cs_dec, cs_not, cs_and, cs_or, cs_valid, eq_self, ↓wp_cond, ↓wp_loop, ↓reduceIte, reduceCtorEq, Nat.reduceEqDiff, Nat.reduceLT, Nat.reduceAdd, Nat.reduceMul, Int.ofNat_lt, Int.ofNat_le, exists_const, ae_app, ap_slc, Option.map_none, mkR_none, mkR_some, ar_look, ae_mset, ae_rng, ae_mkmap0, ar_ent, lookV_push, lookV_lowed, msetV_push, msetV_lowed, lt_put, same_put, sto_over, sto_lowed, cs_dead, Option.map_some]
            exact ⟨by simp (config := {maxDischargeDepth := 12}) only [kt_push, kt_lowed, hK], _, rfl, .nil _ _ _⟩
          · have hg1 : mergeV x0 x = .tup [.agg (Nd.av (x0.merge x)), .int .i64 0] := by simp [mergeV, v0, vx, hc1]
            rw [if_neg hc1] at hfold
            by_cases hd : x.x = 0
            · have tAe : ∃ tA, tA = t := ⟨_, rfl⟩
              obtain ⟨tA, htA⟩ := tAe
              have hx0 : (x.x = 0) = True := eq_true hd
              have gMA : tA.get mM = some (mapN M) := by rw [htA]; exact gM
              have gAA : tA.get mA = some (mapN A) := by rw [htA]; exact gA
              have hKA : Keep s tA := by rw [htA]; exact hK
              have hs1 : sameN t.next tA := by rw [htA]; rfl
              have hvA2 := hvA
              rw [if_pos hd] at hfold
              have lMA := lt_of_get gMA
              cases hm : lookN M x.d with
              | none =>
                have lkM := look_miss gMA hm (.agg [.int .i64 0, .int .i64 0, .int .i64 0, .int .i64 0, .int .i64 0, .int .i32 0])
                have mM2 := mset_map gMA x
                rw [hm] at hfold
                simp only at hfold
                obtain ⟨tB, htB⟩ : ∃ tB, tB = tA.put mM (mapN (updN M x)) := ⟨_, rfl⟩
                rw [← htB] at mM2
                have gMB : tB.get mM = some (mapN (updN M x)) := by rw [htB]; exact St.get_put_same gMA
                have gAB : tB.get mA = some (mapN A) := by rw [htB, St.get_put_ne _ _ lMA (Ne.symm hne)]; exact gAA
                have hKB : Keep s tB := by rw [htB]; exact hKA.put _ hmM' lMA
                have lMB := lt_of_get gMB
                have lAB := lt_of_get gAB
                have hs2 : sameN t.next tB := by rw [htB]; exact hs1
                subst htA
                simp (config := {contextual := true, maxDischargeDepth := 12}) only [tb, q_Merge, q_Dead, e23, e24, e25, e4, e5, he, hlt, hw2, a1, i1, lM, lA, lkA, hg1, hx0, lkM, mM2, hs1, hs2, lMA, lMB, lAB, ↓bD0, ↓bD1, ↓bD2, ↓bD3, ↓bD4, ↓bD5, ↓bD6, bU0, bU1, bU2, bU3, bU4, bU5, bU6, bU7, bU8, bU9, bU10, bU11, bU12, bU13, forall_const, List.all_cons, List.all_nil, Option.map_some, List.map_cons, List.map_nil, ne_eq, implies_true, isNx, cs_dec, cs_not, cs_and, cs_or, cs_valid, eq_self, ↓wp_cond, ↓wp_loop, ↓reduceIte, reduceCtorEq, Nat.reduceEqDiff, Nat.reduceLT, Nat.reduceAdd, Nat.reduceMul, Int.ofNat_lt, Int.ofNat_le, exists_const, ae_app, ap_slc, Option.map_none, mkR_none, mkR_some, ar_look, ae_mset, ae_rng, ae_mkmap0, ar_ent, lookV_push, lookV_lowed, msetV_push, msetV_lowed, lt_put, same_put, sto_over, sto_lowed, cs_dead, Option.map_some]
                refine ⟨n - 1, by omega, ?_⟩
                rw [hI]
                refine ⟨by simp (config := {maxDischargeDepth := 12}) only [kt_push, kt_lowed, hKB], i + 1, updN M x, A, by omega, by simp only [E_pne, E_psame, elen_put, Nat.reduceEqDiff, ne_eq, not_false_eq_true, Nat.reduceLT, he], by simp only [E_pne, E_psame, elen_put, Nat.reduceEqDiff, ne_eq, not_false_eq_true, Nat.reduceLT, e23], by simp only [E_pne, E_psame, elen_put, Nat.reduceEqDiff, ne_eq, not_false_eq_true, Nat.reduceLT, e24], by simp only [E_pne, E_psame, elen_put, Nat.reduceEqDiff, ne_eq, not_false_eq_true, Nat.reduceLT, he], by simp only [E_pne, E_psame, elen_put, Nat.reduceEqDiff, ne_eq, not_false_eq_true, Nat.reduceLT, e4], by simp only [E_pne, E_psame, elen_put, Nat.reduceEqDiff, ne_eq, not_false_eq_true, Nat.reduceLT, e5], ?_, ?_, hfold, fun y hy => ?_, hvA2, by have := updN_len M x; omega, updN_nodup hnd⟩
                · simp (config := {maxDischargeDepth := 12}) only [gt_push, lt_push, lt_lowed, lowed_get, lMB, gMB]
                · simp (config := {maxDischargeDepth := 12}) only [gt_push, lt_push, lt_lowed, lowed_get, lAB, gAB]
                · rcases updN_mem hy with rfl | hy
                  · exact vx
                  · exact hvM y hy
              | some p =>
                obtain ⟨jj, old⟩ := p
                obtain ⟨ho1, ho2⟩ := lookN_some hm
                have vo := hvM old (List.mem_of_getElem? ho1)
                have lkM := look_hit gMA hm (.agg [.int .i64 0, .int .i64 0, .int .i64 0, .int .i64 0, .int .i64 0, .int .i32 0])
                rw [hm] at hfold
                simp only at hfold
                by_cases hc2 : old.clash x = true
                · have hg2 : mergeV old x = .tup [.agg (Nd.av nd0), .int .i64 15] := by simp [mergeV, vo, vx, hc2]
                  rw [if_pos hc2] at hfold
                  simp only at hfold
                  rw [hfold] at hp
                  injection hp with hp
                  obtain ⟨rfl, rfl⟩ := Prod.mk.inj hp
                  subst htA
                  simp (config := {contextual := true, maxDischargeDepth := 12}) only [tb, q_Merge, q_Dead, e23, e24, e25, e4, e5, he, hlt, hw2, a1, i1, lM, lA, lkA, hg1, hx0, lkM, hg2, h15, hs1, lMA, ↓bD0, ↓bD1, ↓bD2, ↓bD3, ↓bD4, ↓bD5, ↓bD6, bU0, bU1, bU2, bU3, bU4, bU5, bU6, bU7, bU8, bU9, bU10, bU11, bU12, bU13, forall_const, List.all_cons, List.all_nil, Option.map_some, List.map_cons, List.map_nil, ne_eq, implies_true, isNx, cs_dec, cs_not, cs_and, cs_or, cs_valid, eq_self, ↓wp_cond, ↓wp_loop, ↓reduceIte, reduceCtorEq, Nat.reduceEqDiff, Nat.reduceLT, Nat.reduceAdd, Nat.reduceMul, Int.ofNat_lt, Int.ofNat_le, exists_const, ae_app, ap_slc, Option.map_none, mkR_none, mkR_some, ar_look, ae_mset, ae_rng, ae_mkmap0, ar_ent, lookV_push, lookV_lowed, msetV_push, msetV_lowed, lt_put, same_put, sto_over, sto_lowed, cs_dead, Option.map_some]
                  exact ⟨by simp (config := {maxDischargeDepth := 12}) only [kt_push, kt_lowed, hKA], _, rfl, .nil _ _ _⟩
                · have hg2 : mergeV old x = .tup [.agg (Nd.av (old.merge x)), .int .i64 0] := by simp [mergeV, vo, vx, hc2]
                  rw [if_neg hc2] at hfold
                  simp only at hfold
                  have mM2 := mset_map gMA (old.merge x)
                  obtain ⟨tB, htB⟩ : ∃ tB, tB = tA.put mM (mapN (updN M (old.merge x))) := ⟨_, rfl⟩
                  rw [← htB] at mM2
                  have gMB : tB.get mM = some (mapN (updN M (old.merge x))) := by rw [htB]; exact St.get_put_same gMA
                  have gAB : tB.get mA = some (mapN A) := by rw [htB, St.get_put_ne _ _ lMA (Ne.symm hne)]; exact gAA
                  have hKB : Keep s tB := by rw [htB]; exact hKA.put _ hmM' lMA
                  have lMB := lt_of_get gMB
                  have lAB := lt_of_get gAB
                  have hs2 : sameN t.next tB := by rw [htB]; exact hs1
                  subst htA
                  simp (config := {contextual := true, maxDischargeDepth := 12}) only [tb, q_Merge, q_Dead, e23, e24, e25, e4, e5, he, hlt, hw2, a1, i1, lM, lA, lkA, hg1, hx0, hg2, lkM, mM2, hs1, hs2, lMA, lMB, lAB, ↓bD0, ↓bD1, ↓bD2, ↓bD3, ↓bD4, ↓bD5, ↓bD6, bU0, bU1, bU2, bU3, bU4, bU5, bU6, bU7, bU8, bU9, bU10, bU11, bU12, bU13, forall_const, List.all_cons, List.all_nil, Option.map_some, List.map_cons, List.map_nil, ne_eq, implies_true, isNx, cs_dec, cs_not, cs_and, cs_or, cs_valid, eq_self, ↓wp_cond, ↓wp_loop, ↓reduceIte, reduceCtorEq, Nat.reduceEqDiff, Nat.reduceLT, Nat.reduceAdd, Nat.reduceMul, Int.ofNat_lt, Int.ofNat_le, exists_const, ae_app, ap_slc, Option.map_none, mkR_none, mkR_some, ar_look, ae_mset, ae_rng, ae_mkmap0, ar_ent, lookV_push, lookV_lowed, msetV_push, msetV_lowed, lt_put, same_put, sto_over, sto_lowed, cs_dead, Option.map_some]
                  refine ⟨n - 1, by omega, ?_⟩
                  rw [hI]
                  refine ⟨by simp (config := {maxDischargeDepth := 12}) only [kt_push, kt_lowed, hKB], i + 1, updN M (old.merge x), A, by omega, by simp only [E_pne, E_psame, elen_put, Nat.reduceEqDiff, ne_eq, not_false_eq_true, Nat.reduceLT, he], by simp only [E_pne, E_psame, elen_put, Nat.reduceEqDiff, ne_eq, not_false_eq_true, Nat.reduceLT, e23], by simp only [E_pne, E_psame, elen_put, Nat.reduceEqDiff, ne_eq, not_false_eq_true, Nat.reduceLT, e24], by simp only [E_pne, E_psame, elen_put, Nat.reduceEqDiff, ne_eq, not_false_eq_true, Nat.reduceLT, he], by simp only [E_pne, E_psame, elen_put, Nat.reduceEqDiff, ne_eq, not_false_eq_true, Nat.reduceLT, e4], by simp only [E_pne, E_psame, elen_put, Nat.reduceEqDiff, ne_eq, not_false_eq_true, Nat.reduceLT, e5], ?_, ?_, hfold, fun y hy => ?_, hvA2, by have := updN_len M (old.merge x); omega, updN_nodup hnd⟩
                  · simp (config := {maxDischargeDepth := 12}) only [gt_push, lt_push, lt_lowed, lowed_get, lMB, gMB]
                  · simp (config := {maxDischargeDepth := 12}) only [gt_push, lt_push, lt_lowed, lowed_get, lAB, gAB]
                  · rcases updN_mem hy with rfl | hy
                    · exact (merge_valid vo vx)
                    · exact hvM y hy
            · have tAe : ∃ tA, tA = t.put mA (mapN (updN A x)) := ⟨_, rfl⟩
              obtain ⟨tA, htA⟩ := tAe
              have hx0 : (x.x = 0) = False := eq_false hd
              have gMA : tA.get mM = some (mapN M) := by rw [htA, St.get_put_ne _ _ lA hne]; exact gM
              have gAA : tA.get mA = some (mapN (updN A x)) := by rw [htA]; exact St.get_put_same gA
              have hKA : Keep s tA := by rw [htA]; exact hK.put _ hmA' lA
              have hs1 : sameN t.next tA := by rw [htA]; rfl
              have mS := mset_map gA x
              rw [← htA] at mS
              have hvA2 : ∀ y ∈ updN A x, y.valid = true := fun y hy => by
                rcases updN_mem hy with rfl | hy
                · exact vx
                · exact hvA y hy
              rw [if_neg hd] at hfold
              have lMA := lt_of_get gMA
              cases hm : lookN M x.d with
              | none =>
                have lkM := look_miss gMA hm (.agg [.int .i64 0, .int .i64 0, .int .i64 0, .int .i64 0, .int .i64 0, .int .i32 0])
                have mM2 := mset_map gMA x
                rw [hm] at hfold
                simp only at hfold
                obtain ⟨tB, htB⟩ : ∃ tB, tB = tA.put mM (mapN (updN M x)) := ⟨_, rfl⟩
                rw [← htB] at mM2
                have gMB : tB.get mM = some (mapN (updN M x)) := by rw [htB]; exact St.get_put_same gMA
                have gAB : tB.get mA = some (mapN (updN A x)) := by rw [htB, St.get_put_ne _ _ lMA (Ne.symm hne)]; exact gAA
                have hKB : Keep s tB := by rw [htB]; exact hKA.put _ hmM' lMA
                have lMB := lt_of_get gMB
                have lAB := lt_of_get gAB
                have hs2 : sameN t.next tB := by rw [htB]; exact hs1
                simp (config := {contextual := true, maxDischargeDepth := 12}) only [tb, q_Merge, q_Dead, e23, e24, e25, e4, e5, he, hlt, hw2, a1, i1, lM, lA, lkA, hg1, hx0, mS, lkM, mM2, hs1, hs2, lMA, lMB, lAB, ↓bD0, ↓bD1, ↓bD2, ↓bD3, ↓bD4, ↓bD5, ↓bD6, bU0, bU1, bU2, bU3, bU4, bU5, bU6, bU7, bU8, bU9, bU10, bU11, bU12, bU13, forall_const, List.all_cons, List.all_nil, Option.map_some, List.map_cons, List.map_nil, ne_eq, implies_true, isNx, cs_dec, cs_not, cs_and, cs_or, cs_valid, eq_self, ↓wp_cond, ↓wp_loop, ↓reduceIte, reduceCtorEq, Nat.reduceEqDiff, Nat.reduceLT, Nat.reduceAdd, Nat.reduceMul, Int.ofNat_lt, Int.ofNat_le, exists_const, ae_app, ap_slc, Option.map_none, mkR_none, mkR_some, ar_look, ae_mset, ae_rng, ae_mkmap0, ar_ent, lookV_push, lookV_lowed, msetV_push, msetV_lowed, lt_put, same_put, sto_over, sto_lowed, cs_dead, Option.map_some]
                refine ⟨n - 1, by omega, ?_⟩
                rw [hI]
                refine ⟨by simp (config := {maxDischargeDepth := 12}) only [kt_push, kt_lowed, hKB], i + 1, updN M x, (updN A x), by omega, by simp only [E_pne, E_psame, elen_put, Nat.reduceEqDiff, ne_eq, not_false_eq_true, Nat.reduceLT, he], by simp only [E_pne, E_psame, elen_put, Nat.reduceEqDiff, ne_eq, not_false_eq_true, Nat.reduceLT, e23], by simp only [E_pne, E_psame, elen_put, Nat.reduceEqDiff, ne_eq, not_false_eq_true, Nat.reduceLT, e24], by simp only [E_pne, E_psame, elen_put, Nat.reduceEqDiff, ne_eq, not_false_eq_true, Nat.reduceLT, he], by simp only [E_pne, E_psame, elen_put, Nat.reduceEqDiff, ne_eq, not_false_eq_true, Nat.reduceLT, e4], by simp only [E_pne, E_psame, elen_put, Nat.reduceEqDiff, ne_eq, not_false_eq_true, Nat.reduceLT, e5], ?_, ?_, hfold, fun y hy => ?_, hvA2, by have := updN_len M x; omega, updN_nodup hnd⟩
                · simp (config := {maxDischargeDepth := 12}) only [gt_push, lt_push, lt_lowed, lowed_get, lMB, gMB]
                · simp (config := {maxDischargeDepth := 12}) only [gt_push, lt_push, lt_lowed, lowed_get, lAB, gAB]
                · rcases updN_mem hy with rfl | hy
                  · exact vx
                  · exact hvM y hy
              | some p =>
                obtain ⟨jj, old⟩ := p
                obtain ⟨ho1, ho2⟩ := lookN_some hm
                have vo := hvM old (List.mem_of_getElem? ho1)
                have lkM := look_hit gMA hm (.agg [.int .i64 0, .int .i64 0, .int .i64 0, .int .i64 0, .int .i64 0, .int .i32 0])
                rw [hm] at hfold
                simp only at hfold
                by_cases hc2 : old.clash x = true
                · have hg2 : mergeV old x = .tup [.agg (Nd.av nd0), .int .i64 15] := by simp [mergeV, vo, vx, hc2]
                  rw [if_pos hc2] at hfold
                  simp only at hfold
                  rw [hfold] at hp
                  injection hp with hp
                  obtain ⟨rfl, rfl⟩ := Prod.mk.inj hp
                  simp (config := {contextual := true, maxDischargeDepth := 12}) only [tb, q_Merge, q_Dead, e23, e24, e25, e4, e5, he, hlt, hw2, a1, i1, lM, lA, lkA, hg1, hx0, mS, lkM, hg2, h15, hs1, lMA, ↓bD0, ↓bD1, ↓bD2, ↓bD3, ↓bD4, ↓bD5, ↓bD6, bU0, bU1, bU2, bU3, bU4, bU5, bU6, bU7, bU8, bU9, bU10, bU11, bU12, bU13, forall_const, List.all_cons, List.all_nil, Option.map_some, List.map_cons, List.map_nil, ne_eq, implies_true, isNx, cs_dec, cs_not, cs_and, cs_or, cs_valid, eq_self, ↓wp_cond, ↓wp_loop, ↓reduceIte, reduceCtorEq, Nat.reduceEqDiff, Nat.reduceLT, Nat.reduceAdd, Nat.reduceMul, Int.ofNat_lt, Int.ofNat_le, exists_const, ae_app, ap_slc, Option.map_none, mkR_none, mkR_some, ar_look, ae_mset, ae_rng, ae_mkmap0, ar_ent, lookV_push, lookV_lowed, msetV_push, msetV_lowed, lt_put, same_put, sto_over, sto_lowed, cs_dead, Option.map_some]
                  exact ⟨by simp (config := {maxDischargeDepth := 12}) only [kt_push, kt_lowed, hKA], _, rfl, .nil _ _ _⟩
                · have hg2 : mergeV old x = .tup [.agg (Nd.av (old.merge x)), .int .i64 0] := by simp [mergeV, vo, vx, hc2]
                  rw [if_neg hc2] at hfold
                  simp only at hfold
                  have mM2 := mset_map gMA (old.merge x)
                  obtain ⟨tB, htB⟩ : ∃ tB, tB = tA.put mM (mapN (updN M (old.merge x))) := ⟨_, rfl⟩
                  rw [← htB] at mM2
                  have gMB : tB.get mM = some (mapN (updN M (old.merge x))) := by rw [htB]; exact St.get_put_same gMA
                  have gAB : tB.get mA = some (mapN (updN A x)) := by rw [htB, St.get_put_ne _ _ lMA (Ne.symm hne)]; exact gAA
                  have hKB : Keep s tB := by rw [htB]; exact hKA.put _ hmM' lMA
                  have lMB := lt_of_get gMB
                  have lAB := lt_of_get gAB
                  have hs2 : sameN t.next tB := by rw [htB]; exact hs1
                  simp (config := {contextual := true, maxDischargeDepth := 12}) only [tb, q_Merge, q_Dead, e23, e24, e25, e4, e5, he, hlt, hw2, a1, i1, lM, lA, lkA, hg1, hx0, mS, hg2, lkM, mM2, hs1, hs2, lMA, lMB, lAB, ↓bD0, ↓bD1, ↓bD2, ↓bD3, ↓bD4, ↓bD5, ↓bD6, bU0, bU1, bU2, bU3, bU4, bU5, bU6, bU7, bU8, bU9, bU10, bU11, bU12, bU13, forall_const, List.all_cons, List.all_nil, Option.map_some, List.map_cons, List.map_nil, ne_eq, implies_true, isNx, cs_dec, cs_not, cs_and, cs_or, cs_valid, eq_self, ↓wp_cond, ↓wp_loop, ↓reduceIte, reduceCtorEq, Nat.reduceEqDiff, Nat.reduceLT, Nat.reduceAdd, Nat.reduceMul, Int.ofNat_lt, Int.ofNat_le, exists_const, ae_app, ap_slc, Option.map_none, mkR_none, mkR_some, ar_look, ae_mset, ae_rng, ae_mkmap0, ar_ent, lookV_push, lookV_lowed, msetV_push, msetV_lowed, lt_put, same_put, sto_over, sto_lowed, cs_dead, Option.map_some]
                  refine ⟨n - 1, by omega, ?_⟩
                  rw [hI]
                  refine ⟨by simp (config := {maxDischargeDepth := 12}) only [kt_push, kt_lowed, hKB], i + 1, updN M (old.merge x), (updN A x), by omega, by simp only [E_pne, E_psame, elen_put, Nat.reduceEqDiff, ne_eq, not_false_eq_true, Nat.reduceLT, he], by simp only [E_pne, E_psame, elen_put, Nat.reduceEqDiff, ne_eq, not_false_eq_true, Nat.reduceLT, e23], by simp only [E_pne, E_psame, elen_put, Nat.reduceEqDiff, ne_eq, not_false_eq_true, Nat.reduceLT, e24], by simp only [E_pne, E_psame, elen_put, Nat.reduceEqDiff, ne_eq, not_false_eq_true, Nat.reduceLT, he], by simp only [E_pne, E_psame, elen_put, Nat.reduceEqDiff, ne_eq, not_false_eq_true, Nat.reduceLT, e4], by simp only [E_pne, E_psame, elen_put, Nat.reduceEqDiff, ne_eq, not_false_eq_true, Nat.reduceLT, e5], ?_, ?_, hfold, fun y hy => ?_, hvA2, by have := updN_len M (old.merge x); omega, updN_nodup hnd⟩
                  · simp (config := {maxDischargeDepth := 12}) only [gt_push, lt_push, lt_lowed, lowed_get, lMB, gMB]
                  · simp (config := {maxDischargeDepth := 12}) only [gt_push, lt_push, lt_lowed, lowed_get, lAB, gAB]
                  · rcases updN_mem hy with rfl | hy
                    · exact (merge_valid vo vx)
                    · exact hvM y hy
      · obtain rfl : i = l.length := by omega
        rw [List.drop_length, ofFold] at hfold
        rw [hfold] at hp
        simp only at hp
        injection hp with hp
        obtain ⟨rfl, rfl⟩ := Prod.mk.inj hp
        have hrg := rng_map gM
        simp (config := {contextual := true, maxDischargeDepth := 12}) only [tb, e23, e24, e25, e4, e5, he, hlt, lM, lA, hrg, ↓st_nxt, ↓bD0, ↓bD1, ↓bD2, ↓bD3, ↓bD4, ↓bD5, ↓bD6, bU0, bU1, bU2, bU3, bU4, bU5, bU6, bU7, bU8, bU9, bU10, bU11, bU12, bU13, forall_const, List.all_cons, List.all_nil, Option.map_some, List.map_cons, List.map_nil, ne_eq, implies_true, isNx, cs_dec, cs_not, cs_and, cs_or, cs_valid, eq_self, ↓wp_cond, ↓wp_loop, ↓reduceIte, reduceCtorEq, Nat.reduceEqDiff, Nat.reduceLT, Nat.reduceAdd, Nat.reduceMul, Int.ofNat_lt, Int.ofNat_le, exists_const, ae_app, ap_slc, Option.map_none, mkR_none, mkR_some, ar_look, ae_mset, ae_rng, ae_mkmap0, ar_ent, lookV_push, lookV_lowed, msetV_push, msetV_lowed, lt_put, same_put, sto_over, sto_lowed, cs_dead, Option.map_some]
        obtain ⟨pI, hpI⟩ : ∃ pI, pI = t.next := ⟨_, rfl⟩
        obtain ⟨I2, hI2⟩ : ∃ I : Nat → Env → St → Prop, ∀ n e t, I n e t = (Keep s t ∧ ∃ (seen : List Nat) (acc : List Nd), n + seen.length = M.length ∧ elen e = 89 ∧ E e 77 = .ptr pI 0 ∧ t.get mM = some (mapN M) ∧ t.get pI = some (.iter (some mM) M.length seen M.length) ∧ Own ndC s t (E e 16) acc ∧ seen.Nodup ∧ (∀ i ∈ seen, i < M.length) ∧ acc.map some = seen.map fun i => M[i]?) := ⟨fun n e t => (Keep s t ∧ ∃ (seen : List Nat) (acc : List Nd), n + seen.length = M.length ∧ elen e = 89 ∧ E e 77 = .ptr pI 0 ∧ t.get mM = some (mapN M) ∧ t.get pI = some (.iter (some mM) M.length seen M.length) ∧ Own ndC s t (E e 16) acc ∧ seen.Nodup ∧ (∀ i ∈ seen, i < M.length) ∧ acc.map some = seen.map fun i => M[i]?), fun _ _ _ => rfl⟩
        refine lwp_inv I2 (n := M.length) ?_ ?_
        · rw [hI2]
          refine ⟨hK.push _, [], [], by simp, by simp only [E_pne, E_psame, elen_put, Nat.reduceEqDiff, ne_eq, not_false_eq_true, Nat.reduceLT, he], by rw [hpI]; simp only [E_pne, E_psame, elen_put, Nat.reduceEqDiff, ne_eq, not_false_eq_true, Nat.reduceLT, he], ?_, ?_, ?_, by simp, by simp, rfl⟩
          · rw [gt_push lM]; exact gM
          · rw [hpI]; exact St.get_push_new _ _
          · simp only [E_pne, E_psame, elen_put, Nat.reduceEqDiff, ne_eq, not_false_eq_true, Nat.reduceLT, he]; exact .nil _ _ _
        clear e23 e24 e25 e4 e5 he gM gA lM lA
        intro n2 e2 t2 hi2
        rw [hI2] at hi2
        obtain ⟨hK2, seen, acc, hn2, he2, e77, gM2, gI2, hO2, hsd, hsl, hac⟩ := hi2
        have hpI' : s.next ≤ pI := by rw [hpI]; exact hK.next
        have lI2 := lt_of_get gI2
        have lM2 := lt_of_get gM2
        have hMp : mM ≠ pI := by
          intro e
          rw [e, gI2] at gM2
          cases gM2
        simp only [↓wp_seq, ↓wp_reg, ↓st_nxt, aev_t, e77]
        refine next_map gM2 gI2 (fun hall => ?_) (fun i x hx hns => ?_)
        · have hpm := seen_perm hsd hsl hac hall
          have hal : acc.length ≤ lim := by rw [hpm.length_eq]; omega
          have hnd2 : (acc.map Nd.d).Nodup := (hpm.map Nd.d).nodup_iff.2 hnd
          obtain ⟨t3, hsrt, hK3, hO3⟩ := sort_own hK2 hO2 hnd2 hal 55
          have hsm : sortN acc = sortN M := sorted_unique _ _ ((sortN_perm acc).trans (hpm.trans (sortN_perm M).symm)) (sortN_sorted acc hnd2) (sortN_sorted M hnd)
          rw [hsm] at hO3
          simp (config := {contextual := true, maxDischargeDepth := 12}) only [tb, he2, e77, hsrt, ↓bD0, ↓bD1, ↓bD2, ↓bD3, ↓bD4, ↓bD5, ↓bD6, bU0, bU1, bU2, bU3, bU4, bU5, bU6, bU7, bU8, bU9, bU10, bU11, bU12, bU13, forall_const, List.all_cons, List.all_nil, Option.map_some, List.map_cons, List.map_nil, ne_eq, implies_true, isNx, cs_dec, cs_not, cs_and, cs_or, cs_valid, eq_self, ↓wp_cond, ↓wp_loop, ↓reduceIte, reduceCtorEq, Nat.reduceEqDiff, Nat.reduceLT, Nat.reduceAdd, Nat.reduceMul, Int.ofNat_lt, Int.ofNat_le, exists_const, ae_app, ap_slc, Option.map_none, mkR_none, mkR_some, ar_look, ae_mset, ae_rng, ae_mkmap0, ar_ent, lookV_push, lookV_lowed, msetV_push, msetV_lowed, lt_put, same_put, sto_over, sto_lowed, cs_dead, Option.map_some]
          exact ⟨hK3, _, rfl, hO3⟩
        · obtain ⟨t4, ht4⟩ : ∃ t4, t4 = t2.put pI (.iter (some mM) M.length (seen ++ [i]) M.length) := ⟨_, rfl⟩
          rw [← ht4]
          have gM4 : t4.get mM = some (mapN M) := by rw [ht4, St.get_put_ne _ _ lI2 hMp]; exact gM2
          have gI4 : t4.get pI = some (.iter (some mM) M.length (seen ++ [i]) M.length) := by rw [ht4]; exact St.get_put_same gI2
          have hK4 : Keep s t4 := by rw [ht4]; exact hK2.put _ hpI' lI2
          have hO4 : Own ndC s t4 (E e2 16) acc := by
            rcases hO2 with q | ⟨j, q1, q2, q3, q4⟩
            · exact .inl q
            · refine .inr ⟨j, q1, q2, q3, ?_⟩
              have : j ≠ pI := by
                intro e
                rw [e, gI2] at q4
                cases q4
              rw [ht4, St.get_put_ne _ _ lI2 this]
              exact q4
          have lI4 := lt_of_get gI4
          have lM4 := lt_of_get gM4
          have hen := ent_map gM4 gI4 hx
          obtain ⟨u, t5, hap, hK5, hO5⟩ := appV_one (C := ndC) (hK4.lowed.push (.row (Nd.av x) true)) (hO4.lowed.push _) x 48 (by
            have : acc.length = seen.length := by have := congrArg List.length hac; simpa using this
            unfold lim at *
            simp [roomBytes]
            omega)
          have hap : appV ((t4.lowed.push (.row (Nd.av x) true)).push (.row (Nd.av x) true)) 6 48 (E e2 16) (.sl (t4.lowed.push (.row (Nd.av x) true)).next 0 1 (some 1) 6) = some (u, t5) := hap
          simp (config := {contextual := true, maxDischargeDepth := 12}) only [tb, he2, e77, hen, hap, ↓bD0, ↓bD1, ↓bD2, ↓bD3, ↓bD4, ↓bD5, ↓bD6, bU0, bU1, bU2, bU3, bU4, bU5, bU6, bU7, bU8, bU9, bU10, bU11, bU12, bU13, forall_const, List.all_cons, List.all_nil, Option.map_some, List.map_cons, List.map_nil, ne_eq, implies_true, isNx, cs_dec, cs_not, cs_and, cs_or, cs_valid, eq_self, ↓wp_cond, ↓wp_loop, ↓reduceIte, reduceCtorEq, Nat.reduceEqDiff, Nat.reduceLT, Nat.reduceAdd, Nat.reduceMul, Int.ofNat_lt, Int.ofNat_le, exists_const, ae_app, ap_slc, Option.map_none, mkR_none, mkR_some, ar_look, ae_mset, ae_rng, ae_mkmap0, ar_ent, lookV_push, lookV_lowed, msetV_push, msetV_lowed, lt_put, same_put, sto_over, sto_lowed, cs_dead, Option.map_some]
          have hne1 : ∀ o n c z, E e2 16 ≠ .sl mM o n c z := by
            intro o n c z e
            rcases hO4 with ⟨q, _⟩ | ⟨j, q1, q2, q3, q4⟩
            · rw [q] at e; cases e
            · rw [q1] at e
              injection e with e
              rw [e, gM4] at q4
              cases q4
          have hne2 : ∀ o n c z, E e2 16 ≠ .sl pI o n c z := by
            intro o n c z e
            rcases hO4 with ⟨q, _⟩ | ⟨j, q1, q2, q3, q4⟩
            · rw [q] at e; cases e
            · rw [q1] at e
              injection e with e
              rw [e, gI4] at q4
              cases q4
          have hil := getlt hx
          refine ⟨n2 - 1, by
            have := room_left hsd hsl hil hns
            omega, ?_⟩
          rw [hI2]
          refine ⟨hK5, seen ++ [i], acc ++ [x], ?_, by simp only [E_pne, E_psame, elen_put, Nat.reduceEqDiff, ne_eq, not_false_eq_true, Nat.reduceLT, he2], by simp only [E_pne, E_psame, elen_put, Nat.reduceEqDiff, ne_eq, not_false_eq_true, Nat.reduceLT, e77], ?_, ?_, by simp only [E_pne, E_psame, elen_put, Nat.reduceEqDiff, ne_eq, not_false_eq_true, Nat.reduceLT, he2]; exact hO5, ?_, ?_, ?_⟩
          · have := room_left hsd hsl hil hns
            simp
            omega
          · exact appV_frame hap hne1 (get_push_some _ (get_push_some _ gM4))
          · exact appV_frame hap hne2 (get_push_some _ (get_push_some _ gI4))
          · rw [List.nodup_append]
            exact ⟨hsd, by simp, fun a ha b hb e => by simp at hb; subst hb; subst e; exact hns ha⟩
          · intro k hk
            rcases List.mem_append.1 hk with hk | hk
            · exact hsl k hk
            · simp at hk; omega
          · rw [List.map_append, List.map_append, hac]
            simp [hx]

end Go.AM
end
/-
  The chapter's examples: 'known' answers true. Own work of this project; in part printed by a program of it.
-/
section
set_option linter.unusedVariables false
set_option linter.unusedSimpArgs false
set_option maxRecDepth 100000
set_option maxHeartbeats 4000000
namespace Go.AM
open Go Go.Proofs

def joinF : Nat → List Nd → List Nd → Option (List Nd)
  | 0, a, b => some (a ++ b)
  | n + 1, [], b => some b
  | n + 1, x :: a, [] => some (x :: a)
  | n + 1, x :: a, y :: b =>
    if x.d.before y.d = true then (joinF n a (y :: b)).map (x :: ·)
    else if y.d.before x.d = true then (joinF n (x :: a) b).map (y :: ·)
    else if x.clash y = true then none
    else (joinF n a b).map (x.merge y :: ·)
theorem joinF_eq : ∀ (n : Nat) (a b : List Nd), a.length + b.length ≤ n → joinF n a b = joinL a b
  | 0, a, b, h => by
    have h1 : a = [] := List.length_eq_zero_iff.1 (by omega)
    have h2 : b = [] := List.length_eq_zero_iff.1 (by omega)
    subst h1; subst h2
    simp [joinF, joinL]
  | n + 1, [], b, _ => by simp [joinF, joinL]
  | n + 1, x :: a, [], _ => by simp [joinF, joinL]
  | n + 1, x :: a, y :: b, h => by
    simp only [List.length_cons] at h
    rw [joinF, joinL, joinF_eq n a (y :: b) (by simp; omega), joinF_eq n (x :: a) b (by simp; omega), joinF_eq n a b (by omega)]
def gJoinK (a b : List Nd) : Option (List Nd × Option AV) :=
  if storeL a = true ∧ storeL b = true then match joinF (a.length + b.length) a b with
    | some l => some (l, some (.int .i64 0))
    | none => some ([], some (.int .i64 15))
  else some ([], some (.int .i64 2))
theorem gJoinK_eq : gJoinK = gJoin := by
  funext a b
  rw [gJoinK, gJoin, joinF_eq _ a b (Nat.le_refl _)]
  rfl
theorem s_JoinK : SoundAt Try.prog 14 (conF ndC (pLL ndC ndC gJoinK)) := by
  rw [gJoinK_eq]
  exact s_Join
def tabK : Nat → AFun
  | 8 => .code a8
  | 26 => .code a26
  | 11 => .code a11
  | 10 => .code a10
  | 19 => .code a19
  | 18 => .code a18
  | 23 => .code a23
  | 21 => .code a21
  | 33 => .code a33
  | 14 => .con (conF ndC (pLL ndC ndC gJoinK))
  | 15 => .con (conLL ndC ndC fSame)
  | 25 => .con (conLL ndC ndC fSame)
  | 44 => .con (conF ndC (pL ndC gOf))
  | 20 => .con (conL ndC fValid)
  | _ => .no
theorem tabK_ok : ∀ f, FunOk Try.prog f (tabK f) := by
  intro f
  unfold tabK
  split
  · exact ⟨k8, _, Try.func8, c8⟩
  · exact ⟨k26, _, Try.func26, c26⟩
  · exact ⟨k11, _, Try.func11, c11⟩
  · exact ⟨k10, _, Try.func10, c10⟩
  · exact ⟨k19, _, Try.func19, c19⟩
  · exact ⟨k18, _, Try.func18, c18⟩
  · exact ⟨k23, _, Try.func23, c23⟩
  · exact ⟨k21, _, Try.func21, c21⟩
  · exact ⟨k33, _, Try.func33, c33⟩
  · exact s_JoinK
  · exact s_Same
  · exact s_JEqual
  · exact s_Of
  · exact s_JValid
  · trivial
def isTrue : Option (AV × St) → Bool
  | some (.bool true, _) => true
  | _ => false
theorem isTrue_ex {o : Option (AV × St)} (h : isTrue o = true) : ∃ s, o = some (.bool true, s) := by
  unfold isTrue at h
  split at h
  · exact ⟨_, rfl⟩
  · cases h
theorem known_run : isTrue (acalls tabK 100 8 8 [] St.empty) = true := by kernel_rfl
theorem s_known : SoundAt Try.prog 8 (closed [] (.bool true)) := by
  obtain ⟨s, hs⟩ := isTrue_ex known_run
  exact closed_sound (acalls_sound mixed tabK_ok 8 _) hs rfl
end Go.AM
end
/-
  Clone, Copy, Stain; the statement JoinValid in the abstract machine. Own work of this project; in part printed by a program of it.
-/
section
set_option linter.unusedVariables false
set_option linter.unusedSimpArgs false
set_option maxRecDepth 100000
set_option maxHeartbeats 8000000
namespace Go.AM
open Go Go.Proofs

theorem con_emb {P : Program} {call : Nat → List AV → St → Option (AV × St)} (hS : Sound P call) (hm : P.follows .mixedOrders = true) {g : Nat} {fn : Func} {afn : AFn} (hf : P.funcs[g]? = some fn) (hcal : callable P g = true) (hc : cfn P fn = some afn)
    {c : Con} (h : ∀ args s r s', c args s = some (r, s') → Grow s s' ∧ args.length ≤ afn.ntmps ∧ ∀ env : Env, elen env = afn.ntmps → (∀ i v, args[i]? = some v → E env i = v) →
      awp call afn.body (fun x env t => (∀ i, x ≠ .exit i) ∧ ∃ f, aresults env t afn.results = some (r.ren f) ∧ Emb f s s' t) env s) : SoundAt P g c := by
  refine con_sound hS hm hf hcal hc fun args s r s' hh => ?_
  obtain ⟨hg, hl, k⟩ := h args s r s' hh
  exact ⟨hg, start_env hl fun env h1 h2 => k env h1 h2⟩
/-- A row of plain cells of its own. -/
theorem emb_row {s t : St} (h : Keep s t) {cells : List AV} (hp : cells.all AV.plain = true) {j : Nat} (h1 : s.next ≤ j) (hj : t.get j = some (.row cells true)) : ∃ f : Nat → Nat, (∀ id, id < s.next → f id = id) ∧ Emb f s (s.lowed.push (.row cells true)) t ∧ f s.next = j := by
  have hn := h.next
  have hlow := h.low
  have hlt := St.get_lt hj
  have e2 : ∀ id, (s.lowed.push (.row cells true)).get id = if id = s.next then some (.row cells true) else s.get id := fun id => by rw [St.get_push]; rfl
  refine ⟨fun id => if id < s.next then id else if id = s.next then j else t.next + id, fun id hid => by simp [hid], ⟨by simp [lowed_next], ?_, fun id hid => by simp [hid], fun id hid => ?_, fun i k h1 h2 e => ?_, fun id b hb => ?_, fun id h1 h2 => ?_⟩, by simp⟩
  · exact hlow
  · simp only [St.next_push, lowed_next] at hid
    rw [if_neg (by omega), if_neg (by omega)]
    omega
  · simp only [St.next_push, lowed_next] at h1 h2
    by_cases a1 : i < s.next
    · by_cases a2 : k < s.next
      · rw [if_pos a1, if_pos a2] at e; exact e
      · rw [if_pos a1, if_neg a2, if_pos (by omega)] at e; omega
    · by_cases a2 : k < s.next
      · rw [if_neg a1, if_pos a2, if_pos (by omega)] at e; omega
      · omega
  · rw [e2] at hb
    split at hb
    · rename_i hid
      injection hb with hb
      subst hb
      refine .inr (.inl ?_)
      rw [if_neg (by omega), if_pos hid, hj, AB.ren, plains_rens _ hp]
    · have hid := St.get_lt hb
      exact .inr (.inr ⟨hid, hb, h.blk hb⟩)
  · rw [e2, if_neg (by omega)]
/-- What Clone answers. -/
def cloneC : Con := fun xs s => match xs with
  | [.nils] => some (.nils, s.lowed)
  | [.sl id off n cap z] => match read ndC s (.sl id off n cap z) with
    | some l => if l.length ≤ lim then
        if l.isEmpty then some (.sl s.next 0 0 (some 0) 6, s.lowed.push (.row [] true))
        else some (.sl s.next 0 l.length none 6, s.lowed.push (.row (ndC.cells l) true))
      else none
    | none => none
  | _ => none
theorem push_row_get (s : St) (b : AB) : (s.lowed.push b).get s.next = some b := St.get_push_new s.lowed b
theorem s_clone : SoundAt Try.prog 35 cloneC :=
  con_emb (tb_sound (l := []) (by simp)) mixed Try.func35 k35 c35 fun args s r s' h => by
    unfold cloneC at h
    split at h
    · injection h with h
      obtain ⟨rfl, rfl⟩ := Prod.mk.inj h
      refine ⟨(keep_lowed s).grow, by simp [a35], fun env hlen ha => ?_⟩
      have h0 : E env 0 = _ := ha 0 _ rfl
      simp only [a35] at hlen
      unfold a35
      have hb : binOp .eql .ns .nils .nils = some (.bool true) := rfl
      simp (config := {contextual := true, maxDischargeDepth := 12}) only [tb, h0, hlen, hb, ↓bD0, ↓bD1, ↓bD2, ↓bD3, ↓bD4, ↓bD5, ↓bD6, bU0, bU1, bU2, bU3, bU4, bU5, bU6, bU7, bU8, bU9, bU10, bU11, bU12, bU13, forall_const, List.all_cons, List.all_nil, Option.map_some, List.map_cons, List.map_nil, ne_eq, implies_true, isNx, cs_dec, cs_not, cs_and, cs_or, cs_valid, eq_self, ↓wp_cond, ↓wp_loop, ↓reduceIte, reduceCtorEq, Nat.reduceEqDiff, Nat.reduceLT, Nat.reduceAdd, Nat.reduceMul, Int.ofNat_lt, Int.ofNat_le, exists_const, ae_app, ap_slc, Option.map_none, mkR_none, mkR_some, ar_look, ae_mset, ae_rng, ae_mkmap0, ar_ent, lookV_push, lookV_lowed, msetV_push, msetV_lowed, lt_put, same_put, sto_over, sto_lowed, cs_dead, Option.map_some]
      obtain ⟨f, h1, h2⟩ := emb_keep (Keep.refl s)
      exact ⟨f, by simp [AV.ren], h2⟩
    · rename_i id off n cap z
      split at h
      · rename_i l hr
        split at h
        · rename_i hl
          have hb : binOp .eql .ns (.sl id off n cap z) .nils = some (.bool false) := rfl
          have hbs : ∀ (env : Env), aalloc env (.bsl [] 0 6 []) = some (fun id => .sl id 0 0 (some 0) 6, .row [] true) := fun _ => nrfl rfl
          split at h
          · rename_i he
            have hl0 : l = [] := by simpa using he
            subst hl0
            injection h with h
            obtain ⟨rfl, rfl⟩ := Prod.mk.inj h
            refine ⟨((keep_lowed s).push _).grow, by simp [a35], fun env hlen ha => ?_⟩
            have h0 : E env 0 = _ := ha 0 _ rfl
            simp only [a35] at hlen
            unfold a35
            have hap : appV (s.push (.row [] true)) 6 48 (.sl s.next 0 0 (some 0) 6) (.sl id off n cap z) = some (.sl s.next 0 0 (some 0) 6, s.push (.row [] true)) := by
              have hr2 : read ndC (s.push (.row [] true)) (.sl id off n cap z) = some [] := ((Keep.refl s).push _).read hr
              have e1 : shown (s.push (.row [] true)) 6 (.sl id off n cap z) = some [] := read_shown hr2
              have e2 : lenOf (.sl id off n cap z) = some 0 := read_len hr2
              simp only [appV, e1, e2, aappend, if_true, St.get_push_new]
            simp (config := {contextual := true, maxDischargeDepth := 12}) only [tb, h0, hlen, hb, hbs, hap, ↓bD0, ↓bD1, ↓bD2, ↓bD3, ↓bD4, ↓bD5, ↓bD6, bU0, bU1, bU2, bU3, bU4, bU5, bU6, bU7, bU8, bU9, bU10, bU11, bU12, bU13, forall_const, List.all_cons, List.all_nil, Option.map_some, List.map_cons, List.map_nil, ne_eq, implies_true, isNx, cs_dec, cs_not, cs_and, cs_or, cs_valid, eq_self, ↓wp_cond, ↓wp_loop, ↓reduceIte, reduceCtorEq, Nat.reduceEqDiff, Nat.reduceLT, Nat.reduceAdd, Nat.reduceMul, Int.ofNat_lt, Int.ofNat_le, exists_const, ae_app, ap_slc, Option.map_none, mkR_none, mkR_some, ar_look, ae_mset, ae_rng, ae_mkmap0, ar_ent, lookV_push, lookV_lowed, msetV_push, msetV_lowed, lt_put, same_put, sto_over, sto_lowed, cs_dead, Option.map_some]
            obtain ⟨f, h1, h2, h3⟩ := emb_row ((Keep.refl s).push (.row [] true)) (cells := []) rfl (Nat.le_refl _) (St.get_push_new _ _)
            exact ⟨f, by simp [AV.ren, h3], h2⟩
          · rename_i he
            have hl0 : l ≠ [] := by simpa using he
            injection h with h
            obtain ⟨rfl, rfl⟩ := Prod.mk.inj h
            refine ⟨((keep_lowed s).push _).grow, by simp [a35], fun env hlen ha => ?_⟩
            have h0 : E env 0 = _ := ha 0 _ rfl
            simp only [a35] at hlen
            unfold a35
            have hap : appV (s.push (.row [] true)) 6 48 (.sl s.next 0 0 (some 0) 6) (.sl id off n cap z) = some (.sl (s.push (.row [] true)).next 0 l.length none 6, (s.push (.row [] true)).push (.row (ndC.cells l) true)) := by
              have hr2 : read ndC (s.push (.row [] true)) (.sl id off n cap z) = some l := ((Keep.refl s).push _).read hr
              have e1 : shown (s.push (.row [] true)) 6 (.sl id off n cap z) = some (ndC.cells l) := read_shown hr2
              have e2 : lenOf (.sl id off n cap z) = some l.length := read_len hr2
              have e3 : l.length ≠ 0 := by simpa using hl0
              simp only [appV, e1, e2, aappend, if_true, St.get_push_new, if_neg e3]
              rw [if_pos ⟨by simp, by unfold lim at hl; simp [roomBytes]; omega⟩, if_neg (by omega)]
              simp
            simp (config := {contextual := true, maxDischargeDepth := 12}) only [tb, h0, hlen, hb, hbs, hap, ↓bD0, ↓bD1, ↓bD2, ↓bD3, ↓bD4, ↓bD5, ↓bD6, bU0, bU1, bU2, bU3, bU4, bU5, bU6, bU7, bU8, bU9, bU10, bU11, bU12, bU13, forall_const, List.all_cons, List.all_nil, Option.map_some, List.map_cons, List.map_nil, ne_eq, implies_true, isNx, cs_dec, cs_not, cs_and, cs_or, cs_valid, eq_self, ↓wp_cond, ↓wp_loop, ↓reduceIte, reduceCtorEq, Nat.reduceEqDiff, Nat.reduceLT, Nat.reduceAdd, Nat.reduceMul, Int.ofNat_lt, Int.ofNat_le, exists_const, ae_app, ap_slc, Option.map_none, mkR_none, mkR_some, ar_look, ae_mset, ae_rng, ae_mkmap0, ar_ent, lookV_push, lookV_lowed, msetV_push, msetV_lowed, lt_put, same_put, sto_over, sto_lowed, cs_dead, Option.map_some]
            obtain ⟨f, h1, h2, h3⟩ := emb_row (((Keep.refl s).push (.row [] true)).push (.row (ndC.cells l) true)) (cells_plain ndC l) (j := (s.push (.row [] true)).next) (by simp) (St.get_push_new _ _)
            exact ⟨f, by simp [AV.ren, h3], h2⟩
        · cases h
      · cases h
    · cases h
theorem acall_clone {s : St} {v : AV} {l : List Nd} (hr : read ndC s v = some l) (hl : l.length ≤ lim) :
    (v = .nils ∧ acall cloneC false [v] s = some (.nils, s)) ∨ (∃ id off n cap z, v = .sl id off n cap z) ∧ (l = [] ∧ acall cloneC false [v] s = some (.sl s.next 0 0 (some 0) 6, s.lowed.push (.row [] true)) ∨ l ≠ [] ∧ acall cloneC false [v] s = some (.sl s.next 0 l.length none 6, s.lowed.push (.row (ndC.cells l) true))) := by
  cases v with
  | nils => exact .inl ⟨rfl, acall_rol rfl rfl⟩
  | sl id off n cap z =>
    refine .inr ⟨⟨id, off, n, cap, z, rfl⟩, ?_⟩
    have hr' : read ndC { heap := s.heap, next := s.next, low := s.next } (.sl id off n cap z) = some l := hr
    by_cases h0 : l = []
    · subst h0
      refine .inl ⟨rfl, ?_⟩
      simp [acall, cloneC, hr', AV.ground, AV.plain, St.push, St.lowed]
    · have he : l.isEmpty = false := by simpa using h0
      refine .inr ⟨h0, ?_⟩
      simp [acall, cloneC, hr', hl, h0, AV.ground, AV.plain, St.push, St.lowed]
  | _ => simp [read] at hr
theorem s_jcopy : SoundAt Try.prog 24 cloneC :=
  con_emb (tb_sound (l := [(35, cloneC)]) (by simpa using s_clone)) mixed Try.func24 k24 c24 fun args s r s' h => by
    unfold cloneC at h
    split at h
    · injection h with h
      obtain ⟨rfl, rfl⟩ := Prod.mk.inj h
      refine ⟨(keep_lowed s).grow, by simp [a24], fun env hlen ha => ?_⟩
      have h0 : E env 0 = _ := ha 0 _ rfl
      simp only [a24] at hlen
      unfold a24
      have hc : acall cloneC false [.nils] s = some (.nils, s) := acall_rol rfl rfl
      simp (config := {contextual := true, maxDischargeDepth := 12}) only [tb, h0, hlen, hc, ↓bD0, ↓bD1, ↓bD2, ↓bD3, ↓bD4, ↓bD5, ↓bD6, bU0, bU1, bU2, bU3, bU4, bU5, bU6, bU7, bU8, bU9, bU10, bU11, bU12, bU13, forall_const, List.all_cons, List.all_nil, Option.map_some, List.map_cons, List.map_nil, ne_eq, implies_true, isNx, cs_dec, cs_not, cs_and, cs_or, cs_valid, eq_self, ↓wp_cond, ↓wp_loop, ↓reduceIte, reduceCtorEq, Nat.reduceEqDiff, Nat.reduceLT, Nat.reduceAdd, Nat.reduceMul, Int.ofNat_lt, Int.ofNat_le, exists_const, ae_app, ap_slc, Option.map_none, mkR_none, mkR_some, ar_look, ae_mset, ae_rng, ae_mkmap0, ar_ent, lookV_push, lookV_lowed, msetV_push, msetV_lowed, lt_put, same_put, sto_over, sto_lowed, cs_dead, Option.map_some]
      obtain ⟨f, h1, h2⟩ := emb_keep (Keep.refl s)
      exact ⟨f, by simp [AV.ren], h2⟩
    · rename_i id off n cap z
      split at h
      · rename_i l hr
        split at h
        · rename_i hl
          rcases acall_clone hr hl with ⟨q, _⟩ | ⟨_, ⟨h0, hc⟩ | ⟨h0, hc⟩⟩
          · cases q
          · subst h0
            simp only [List.isEmpty_nil, if_true] at h
            injection h with h
            obtain ⟨rfl, rfl⟩ := Prod.mk.inj h
            refine ⟨((keep_lowed s).push _).grow, by simp [a24], fun env hlen ha => ?_⟩
            have h0 : E env 0 = _ := ha 0 _ rfl
            simp only [a24] at hlen
            unfold a24
            simp (config := {contextual := true, maxDischargeDepth := 12}) only [tb, h0, hlen, hc, ↓bD0, ↓bD1, ↓bD2, ↓bD3, ↓bD4, ↓bD5, ↓bD6, bU0, bU1, bU2, bU3, bU4, bU5, bU6, bU7, bU8, bU9, bU10, bU11, bU12, bU13, forall_const, List.all_cons, List.all_nil, Option.map_some, List.map_cons, List.map_nil, ne_eq, implies_true, isNx, cs_dec, cs_not, cs_and, cs_or, cs_valid, eq_self, ↓wp_cond, ↓wp_loop, ↓reduceIte, reduceCtorEq, Nat.reduceEqDiff, Nat.reduceLT, Nat.reduceAdd, Nat.reduceMul, Int.ofNat_lt, Int.ofNat_le, exists_const, ae_app, ap_slc, Option.map_none, mkR_none, mkR_some, ar_look, ae_mset, ae_rng, ae_mkmap0, ar_ent, lookV_push, lookV_lowed, msetV_push, msetV_lowed, lt_put, same_put, sto_over, sto_lowed, cs_dead, Option.map_some]
            exact ⟨_root_.id, by rw [AV.ren_id], Emb.refl ((keep_lowed s).push _).grow⟩
          · have he : l.isEmpty = false := by simpa using h0
            simp only [he, Bool.false_eq_true, if_false] at h
            injection h with h
            obtain ⟨rfl, rfl⟩ := Prod.mk.inj h
            refine ⟨((keep_lowed s).push _).grow, by simp [a24], fun env hlen ha => ?_⟩
            have h0 : E env 0 = _ := ha 0 _ rfl
            simp only [a24] at hlen
            unfold a24
            simp (config := {contextual := true, maxDischargeDepth := 12}) only [tb, h0, hlen, hc, ↓bD0, ↓bD1, ↓bD2, ↓bD3, ↓bD4, ↓bD5, ↓bD6, bU0, bU1, bU2, bU3, bU4, bU5, bU6, bU7, bU8, bU9, bU10, bU11, bU12, bU13, forall_const, List.all_cons, List.all_nil, Option.map_some, List.map_cons, List.map_nil, ne_eq, implies_true, isNx, cs_dec, cs_not, cs_and, cs_or, cs_valid, eq_self, ↓wp_cond, ↓wp_loop, ↓reduceIte, reduceCtorEq, Nat.reduceEqDiff, Nat.reduceLT, Nat.reduceAdd, Nat.reduceMul, Int.ofNat_lt, Int.ofNat_le, exists_const, ae_app, ap_slc, Option.map_none, mkR_none, mkR_some, ar_look, ae_mset, ae_rng, ae_mkmap0, ar_ent, lookV_push, lookV_lowed, msetV_push, msetV_lowed, lt_put, same_put, sto_over, sto_lowed, cs_dead, Option.map_some]
            exact ⟨_root_.id, by rw [AV.ren_id], Emb.refl ((keep_lowed s).push _).grow⟩
        · cases h
      · cases h
    · cases h

/-! ### Stain -/
def stainN (x : Nd) : Nd := { x with t := IntKind.i64.wrap (x.t + 1), x := 88 }
theorem setAt_set {cs : List AV} {o : Nat} {v : AV} (h : o < cs.length) : setAt cs o [v] = cs.set o v := by
  simp only [setAt, List.length_singleton]
  rw [List.set_eq_take_append_cons_drop, if_pos h]
  simp
theorem cells_set {l : List Nd} {i k : Nat} {x y : Nd} {v : AV} (hx : l[i]? = some x) (hk : k < 6) (hy : Nd.av y = (Nd.av x).set k v) : (ndC.cells l).set (i * 6 + k) v = ndC.cells (l.set i y) := by
  have hil := getlt hx
  have hcl : (ndC.cells l).length = l.length * 6 := cells_len ndC l
  apply List.ext_getElem?
  intro t
  rw [List.getElem?_set, cells_get, cells_get, List.getElem?_set]
  by_cases ht : i * 6 + k = t
  · subst ht
    have e1 : (i * 6 + k) / 6 = i := by omega
    have e2 : (i * 6 + k) % 6 = k := by omega
    have h6 : (Nd.av x).length = 6 := rfl
    rw [if_pos rfl, if_pos (by rw [hcl]; omega), e1, e2, if_pos rfl, if_pos hil, Option.bind_some, hy, List.getElem?_set_self (by omega)]
  · rw [if_neg ht]
    by_cases hti : i = t / 6
    · subst hti
      have hne : k ≠ t % 6 := by omega
      rw [if_pos rfl, if_pos hil, hx, Option.bind_some, Option.bind_some, hy, List.getElem?_set_ne hne]
    · rw [if_neg hti]
theorem put_put (s : St) (j : Nat) (a b : AB) : (s.put j a).put j b = s.put j b := by
  simp only [St.put, List.set_set]
  congr 1
  omega
theorem sto_field {t : St} {j i k : Nat} {l : List Nd} {x y : Nd} {v : AV} (hg : t.get j = some (.row (ndC.cells l) true)) (hx : l[i]? = some x) (hk : k < 6) (hy : Nd.av y = (Nd.av x).set k v) (hv : v.one = true) (hc : v.cells = [v]) :
    sto t 1 (.ptr j (i * 6 + k)) v = some (.und, t.put j (.row (ndC.cells (l.set i y)) true)) := by
  have hil := getlt hx
  have hcl : (ndC.cells l).length = l.length * 6 := cells_len ndC l
  simp only [sto, hg, hc, List.length_singleton, List.all_cons, hv, List.all_nil, Bool.and_self, true_and]
  rw [if_pos (by omega), setAt_set (by omega), cells_set hx hk hy]
def stainC : Con := fun xs s => match xs with
  | [.nils] => some (.tup [], s.lowed)
  | [.sl j 0 n cap 6] => if n = 0 then some (.tup [], s.lowed) else match s.get j with
    | some (.row cs true) => match decL ndC n cs with
      | some l => if cs.length = n * 6 ∧ n ≤ lim then some (.tup [], s.put j (.row (ndC.cells (l.map stainN)) true)) else none
      | none => none
    | _ => none
  | _ => none
def stainTo (i : Nat) (l : List Nd) : List Nd := (l.take i).map stainN ++ l.drop i
theorem stainTo_at {l : List Nd} {i : Nat} {x : Nd} (hx : l[i]? = some x) : (stainTo i l)[i]? = some x := by
  have hil := getlt hx
  have h : ((l.take i).map stainN).length = i := by simp; omega
  unfold stainTo
  rw [List.getElem?_append_right (by omega), h, Nat.sub_self, List.getElem?_drop]
  simpa using hx
theorem stainTo_succ {l : List Nd} {i : Nat} {x : Nd} (hx : l[i]? = some x) : (stainTo i l).set i (stainN x) = stainTo (i + 1) l := by
  have hil := getlt hx
  have h : ((l.take i).map stainN).length = i := by simp; omega
  unfold stainTo
  have hd : l.drop i = x :: l.drop (i + 1) := by
    rw [List.drop_eq_getElem_cons hil]
    congr 1
    exact (List.getElem?_eq_some_iff.1 hx).2
  rw [hd, take_snoc hx, List.set_append_right _ _ (by omega), h, Nat.sub_self]
  simp
theorem s_stain : SoundAt Try.prog 17 stainC :=
  con_emb (tb_sound (l := []) (by simp)) mixed Try.func17 k17 c17 fun args s r s' h => by
    have none : ∀ (v : AV), lenV v = some (.int .i64 0) → args = [v] → r = .tup [] → s' = s.lowed → Grow s s' ∧ args.length ≤ a17.ntmps ∧ ∀ env : Env, elen env = a17.ntmps → (∀ i v, args[i]? = some v → E env i = v) →
        awp (tb []) a17.body (fun x env t => (∀ i, x ≠ .exit i) ∧ ∃ f, aresults env t a17.results = some (r.ren f) ∧ Emb f s s' t) env s := by
      rintro v hL rfl rfl rfl
      refine ⟨(keep_lowed s).grow, by simp [a17], fun env hlen ha => ?_⟩
      have h0 : E env 0 = _ := ha 0 _ rfl
      simp only [a17] at hlen
      unfold a17
      simp (config := {contextual := true, maxDischargeDepth := 12}) only [tb, h0, hlen, ↓bD0, ↓bD1, ↓bD2, ↓bD3, ↓bD4, ↓bD5, ↓bD6, bU0, bU1, bU2, bU3, bU4, bU5, bU6, bU7, bU8, bU9, bU10, bU11, bU12, bU13, forall_const, List.all_cons, List.all_nil, Option.map_some, List.map_cons, List.map_nil, ne_eq, implies_true, isNx, cs_dec, cs_not, cs_and, cs_or, cs_valid, eq_self, ↓wp_cond, ↓wp_loop, ↓reduceIte, reduceCtorEq, Nat.reduceEqDiff, Nat.reduceLT, Nat.reduceAdd, Nat.reduceMul, Int.ofNat_lt, Int.ofNat_le, exists_const, ae_app, ap_slc, Option.map_none, mkR_none, mkR_some, ar_look, ae_mset, ae_rng, ae_mkmap0, ar_ent, lookV_push, lookV_lowed, msetV_push, msetV_lowed, lt_put, same_put, sto_over, sto_lowed, cs_dead, Option.map_some]
      refine lwp_inv (fun n e t => t = s ∧ elen e = 21 ∧ E e 0 = v ∧ E e 2 = .int .i64 0) (n := 0) ⟨rfl, by simp only [E_pne, E_psame, elen_put, Nat.reduceEqDiff, ne_eq, not_false_eq_true, Nat.reduceLT, hlen], by simp only [E_pne, E_psame, elen_put, Nat.reduceEqDiff, ne_eq, not_false_eq_true, Nat.reduceLT, h0], by simp only [E_pne, E_psame, elen_put, Nat.reduceEqDiff, ne_eq, not_false_eq_true, Nat.reduceLT, hlen]⟩ ?_
      rintro n e t ⟨rfl, he, e0, e2⟩
      have hz : ((0 : Int) < 0) = False := by decide
      simp (config := {contextual := true, maxDischargeDepth := 12}) only [tb, e0, e2, he, hL, hz, ↓bD0, ↓bD1, ↓bD2, ↓bD3, ↓bD4, ↓bD5, ↓bD6, bU0, bU1, bU2, bU3, bU4, bU5, bU6, bU7, bU8, bU9, bU10, bU11, bU12, bU13, forall_const, List.all_cons, List.all_nil, Option.map_some, List.map_cons, List.map_nil, ne_eq, implies_true, isNx, cs_dec, cs_not, cs_and, cs_or, cs_valid, eq_self, ↓wp_cond, ↓wp_loop, ↓reduceIte, reduceCtorEq, Nat.reduceEqDiff, Nat.reduceLT, Nat.reduceAdd, Nat.reduceMul, Int.ofNat_lt, Int.ofNat_le, exists_const, ae_app, ap_slc, Option.map_none, mkR_none, mkR_some, ar_look, ae_mset, ae_rng, ae_mkmap0, ar_ent, lookV_push, lookV_lowed, msetV_push, msetV_lowed, lt_put, same_put, sto_over, sto_lowed, cs_dead, Option.map_some]
      obtain ⟨f, h1, h2⟩ := emb_keep (Keep.refl t)
      exact ⟨f, by simp [AV.ren, AV.rens], h2⟩
    unfold stainC at h
    split at h
    · injection h with h
      obtain ⟨rfl, rfl⟩ := Prod.mk.inj h
      exact none .nils rfl rfl rfl rfl
    · rename_i j n cap
      split at h
      · rename_i hn
        subst hn
        injection h with h
        obtain ⟨rfl, rfl⟩ := Prod.mk.inj h
        exact none _ rfl rfl rfl rfl
      · rename_i hn
        split at h
        · rename_i cs hg
          split at h
          · rename_i l hd
            split at h
            · rename_i hc
              obtain ⟨hc1, hlim⟩ := hc
              injection h with h
              obtain ⟨rfl, rfl⟩ := Prod.mk.inj h
              obtain ⟨d1, d2, d3⟩ := decL_some hd
              have hcs : cs = ndC.cells l := by rw [← d3, show n * ndC.sz = cs.length from hc1.symm]; simp
              subst hcs
              subst d1
              refine ⟨grow_put _ hg, by simp [a17], fun env hlen ha => ?_⟩
              have h0 : E env 0 = _ := ha 0 _ rfl
              simp only [a17] at hlen
              unfold a17
              simp (config := {contextual := true, maxDischargeDepth := 12}) only [tb, h0, hlen, ↓bD0, ↓bD1, ↓bD2, ↓bD3, ↓bD4, ↓bD5, ↓bD6, bU0, bU1, bU2, bU3, bU4, bU5, bU6, bU7, bU8, bU9, bU10, bU11, bU12, bU13, forall_const, List.all_cons, List.all_nil, Option.map_some, List.map_cons, List.map_nil, ne_eq, implies_true, isNx, cs_dec, cs_not, cs_and, cs_or, cs_valid, eq_self, ↓wp_cond, ↓wp_loop, ↓reduceIte, reduceCtorEq, Nat.reduceEqDiff, Nat.reduceLT, Nat.reduceAdd, Nat.reduceMul, Int.ofNat_lt, Int.ofNat_le, exists_const, ae_app, ap_slc, Option.map_none, mkR_none, mkR_some, ar_look, ae_mset, ae_rng, ae_mkmap0, ar_ent, lookV_push, lookV_lowed, msetV_push, msetV_lowed, lt_put, same_put, sto_over, sto_lowed, cs_dead, Option.map_some]
              obtain ⟨I, hI⟩ : ∃ I : Nat → Env → St → Prop, ∀ n e t, I n e t = (∃ i : Nat, n + i = l.length ∧ elen e = 21 ∧ E e 0 = .sl j 0 l.length cap 6 ∧ E e 2 = .int .i64 (i : Int) ∧ t.get j = some (.row (ndC.cells (stainTo i l)) true) ∧ (i = 0 ∧ t = s ∨ 0 < i ∧ t = s.put j (.row (ndC.cells (stainTo i l)) true))) := ⟨fun n e t => (∃ i : Nat, n + i = l.length ∧ elen e = 21 ∧ E e 0 = .sl j 0 l.length cap 6 ∧ E e 2 = .int .i64 (i : Int) ∧ t.get j = some (.row (ndC.cells (stainTo i l)) true) ∧ (i = 0 ∧ t = s ∨ 0 < i ∧ t = s.put j (.row (ndC.cells (stainTo i l)) true))), fun _ _ _ => rfl⟩
              refine lwp_inv I (n := l.length) ?_ ?_
              · rw [hI]
                exact ⟨0, by omega, by simp only [E_pne, E_psame, elen_put, Nat.reduceEqDiff, ne_eq, not_false_eq_true, Nat.reduceLT, hlen], by simp only [E_pne, E_psame, elen_put, Nat.reduceEqDiff, ne_eq, not_false_eq_true, Nat.reduceLT, h0], by simp only [E_pne, E_psame, elen_put, Nat.reduceEqDiff, ne_eq, not_false_eq_true, Nat.reduceLT, hlen]; rfl, by simpa [stainTo] using hg, .inl ⟨rfl, rfl⟩⟩
              intro n e t hi
              rw [hI] at hi
              obtain ⟨i, hni, he, e0, e2, gj, ht⟩ := hi
              have hL : lenV (.sl j 0 l.length cap 6) = some (.int .i64 (l.length : Int)) := rfl
              by_cases hlt : i < l.length
              · obtain ⟨x, hx⟩ := getsome hlt
                have hw2 := wrap_add1 (n := i) (by unfold lim at hlim; omega)
                have i1 : iadV 6 (.sl j 0 l.length cap 6) (.int .i64 (i : Int)) = some (.ptr j (i * 6)) := by
                  have := iadV_nat (sz := 6) (id := j) (off := 0) (cap := cap) (k := .i64) hlt
                  rwa [Nat.zero_add] at this
                have hsx := stainTo_at hx
                have hl1 : lod1 t (.ptr j (i * 6 + 4)) = some (.int .i64 x.t) := by
                  simp only [lod1, gj]
                  rw [cells_get, show (i * 6 + 4) / 6 = i by omega, show (i * 6 + 4) % 6 = 4 by omega, hsx]
                  rfl
                have s1 := sto_field (y := { x with t := IntKind.i64.wrap (x.t + 1) }) (v := .int .i64 (IntKind.i64.wrap (x.t + 1))) gj hsx (k := 4) (by omega) rfl rfl rfl
                obtain ⟨t1, ht1⟩ : ∃ t1, t1 = t.put j (.row (ndC.cells ((stainTo i l).set i { x with t := IntKind.i64.wrap (x.t + 1) })) true) := ⟨_, rfl⟩
                rw [← ht1] at s1
                have g1 : t1.get j = some (.row (ndC.cells ((stainTo i l).set i { x with t := IntKind.i64.wrap (x.t + 1) })) true) := by rw [ht1]; exact St.get_put_same gj
                have hsx1 : ((stainTo i l).set i { x with t := IntKind.i64.wrap (x.t + 1) })[i]? = some { x with t := IntKind.i64.wrap (x.t + 1) } := List.getElem?_set_self (getlt hsx)
                have s2 := sto_field (y := stainN x) (v := .int .i32 88) g1 hsx1 (k := 5) (by omega) rfl rfl rfl
                rw [List.set_set, stainTo_succ hx] at s2
                obtain ⟨t2, ht2⟩ : ∃ t2, t2 = t1.put j (.row (ndC.cells (stainTo (i + 1) l)) true) := ⟨_, rfl⟩
                rw [← ht2] at s2
                simp (config := {contextual := true, maxDischargeDepth := 12}) only [tb, e0, e2, he, hL, hlt, hw2, i1, hl1, s1, s2, ↓bD0, ↓bD1, ↓bD2, ↓bD3, ↓bD4, ↓bD5, ↓bD6, bU0, bU1, bU2, bU3, bU4, bU5, bU6, bU7, bU8, bU9, bU10, bU11, bU12, bU13, forall_const, List.all_cons, List.all_nil, Option.map_some, List.map_cons, List.map_nil, ne_eq, implies_true, isNx, cs_dec, cs_not, cs_and, cs_or, cs_valid, eq_self, ↓wp_cond, ↓wp_loop, ↓reduceIte, reduceCtorEq, Nat.reduceEqDiff, Nat.reduceLT, Nat.reduceAdd, Nat.reduceMul, Int.ofNat_lt, Int.ofNat_le, exists_const, ae_app, ap_slc, Option.map_none, mkR_none, mkR_some, ar_look, ae_mset, ae_rng, ae_mkmap0, ar_ent, lookV_push, lookV_lowed, msetV_push, msetV_lowed, lt_put, same_put, sto_over, sto_lowed, cs_dead, Option.map_some]
                refine ⟨n - 1, by omega, ?_⟩
                rw [hI]
                refine ⟨i + 1, by omega, by simp only [E_pne, E_psame, elen_put, Nat.reduceEqDiff, ne_eq, not_false_eq_true, Nat.reduceLT, he], by simp only [E_pne, E_psame, elen_put, Nat.reduceEqDiff, ne_eq, not_false_eq_true, Nat.reduceLT, e0], by simp only [E_pne, E_psame, elen_put, Nat.reduceEqDiff, ne_eq, not_false_eq_true, Nat.reduceLT, he], by rw [ht2]; exact St.get_put_same g1, .inr ⟨by omega, ?_⟩⟩
                rw [ht2, ht1, put_put]
                rcases ht with ⟨_, rfl⟩ | ⟨_, rfl⟩
                · rfl
                · rw [put_put]
              · obtain rfl : i = l.length := by omega
                rcases ht with ⟨q, _⟩ | ⟨_, rfl⟩
                · omega
                simp (config := {contextual := true, maxDischargeDepth := 12}) only [tb, e0, e2, he, hL, hlt, ↓bD0, ↓bD1, ↓bD2, ↓bD3, ↓bD4, ↓bD5, ↓bD6, bU0, bU1, bU2, bU3, bU4, bU5, bU6, bU7, bU8, bU9, bU10, bU11, bU12, bU13, forall_const, List.all_cons, List.all_nil, Option.map_some, List.map_cons, List.map_nil, ne_eq, implies_true, isNx, cs_dec, cs_not, cs_and, cs_or, cs_valid, eq_self, ↓wp_cond, ↓wp_loop, ↓reduceIte, reduceCtorEq, Nat.reduceEqDiff, Nat.reduceLT, Nat.reduceAdd, Nat.reduceMul, Int.ofNat_lt, Int.ofNat_le, exists_const, ae_app, ap_slc, Option.map_none, mkR_none, mkR_some, ar_look, ae_mset, ae_rng, ae_mkmap0, ar_ent, lookV_push, lookV_lowed, msetV_push, msetV_lowed, lt_put, same_put, sto_over, sto_lowed, cs_dead, Option.map_some]
                have e1 : stainTo l.length l = l.map stainN := by simp [stainTo]
                rw [e1]
                exact ⟨_root_.id, by simp [AV.ren, AV.rens], Emb.refl (grow_put _ hg)⟩
            · cases h
          · cases h
        · cases h
    · cases h

end Go.AM
end
/-
  The statement JoinValid in the abstract machine. Own work of this project; in part printed by a program of it.
-/
section
set_option linter.unusedVariables false
set_option linter.unusedSimpArgs false
set_option maxRecDepth 100000
set_option maxHeartbeats 8000000
namespace Go.AM
open Go Go.Proofs

theorem cs_true (A B : Prop) : cstep (.bool (decide True)) A B = A := by simp [cstep]
theorem q_known (cl : Bool) (s : St) : acall (closed [] (.bool true)) cl [] s = some (.bool true, s) := acall_ro (by simp [closed]) rfl
/-- A statement of two lists: true. -/
def law2 : Con := fun xs s => match xs with
  | [v, w] => match read ndC s v, read ndC s w with
    | some _, some _ => some (.bool true, s.lowed)
    | _, _ => none
  | _ => none
theorem law2_some {xs : List AV} {s : St} {r : AV} {s' : St} (h : law2 xs s = some (r, s')) : ∃ v w l m, xs = [v, w] ∧ read ndC s v = some l ∧ read ndC s w = some m ∧ r = .bool true ∧ s' = s.lowed := by
  unfold law2 at h
  split at h
  · split at h
    · rename_i v w _ _ l m hr hw
      injection h with h
      obtain ⟨rfl, rfl⟩ := Prod.mk.inj h
      exact ⟨v, w, l, m, rfl, hr, hw, rfl, rfl⟩
    · cases h
  · cases h
theorem clone_stain {s : St} {v : AV} {l : List Nd} (hr : read ndC s v = some l) (hl : l.length ≤ lim) : ∃ c t2, acall cloneC false [v] s = some (c, t2) ∧ Keep s t2 ∧ read ndC t2 c = some l ∧ ∃ t3, acall stainC false [c] t2 = some (.tup [], t3) ∧ Keep s t3 := by
  rcases acall_clone hr hl with ⟨rfl, hc⟩ | ⟨_, ⟨rfl, hc⟩ | ⟨h0, hc⟩⟩
  · exact ⟨_, _, hc, .refl s, hr, s, acall_rol rfl rfl, .refl s⟩
  · have hK := (keep_lowed s).push (.row [] true)
    refine ⟨_, _, hc, hK, ?_, _, acall_rol rfl rfl, hK⟩
    exact read_of (C := ndC) (n := 0) rfl (push_row_get s _) (by simp) rfl
  · have hK := (keep_lowed s).push (.row (ndC.cells l) true)
    have hg := push_row_get s (.row (ndC.cells l) true)
    obtain ⟨t2, ht2⟩ : ∃ t2, t2 = s.lowed.push (.row (ndC.cells l) true) := ⟨_, rfl⟩
    rw [← ht2] at hK hg hc
    have hcl : (ndC.cells l).length = l.length * 6 := cells_len ndC l
    have hd : decL ndC l.length (ndC.cells l) = some l := by
      have := decL_cells ndC l []
      rwa [List.append_nil] at this
    have hlt := St.get_lt hg
    have hn : l.length ≠ 0 := by simpa using h0
    refine ⟨_, _, hc, hK, ?_, t2.put s.next (.row (ndC.cells (l.map stainN)) true), ?_, hK.put _ (Nat.le_refl _) hlt⟩
    · exact read_of (C := ndC) rfl hg (by rw [hcl]; simp [ndC]) (by rw [List.drop_zero, ← cells_len]; simp)
    · have hcs : stainC [.sl s.next 0 l.length none 6] { heap := t2.heap, next := t2.next, low := t2.next } = some (.tup [], ({ heap := t2.heap, next := t2.next, low := t2.next } : St).put s.next (.row (ndC.cells (l.map stainN)) true)) := by
        have hg' : ({ heap := t2.heap, next := t2.next, low := t2.next } : St).get s.next = some (.row (ndC.cells l) true) := hg
        simp only [stainC, if_neg hn, hg', hd, hcl, hl, and_self, if_true]
      simp only [acall, hcs]
      have e : (AV.tup []).ground = true := rfl
      have e3 : decide (t2.next ≤ (({ heap := t2.heap, next := t2.next, low := t2.next } : St).put s.next (.row (ndC.cells (l.map stainN)) true)).low) = false := decide_eq_false (by simp only [St.low_put]; omega)
      rw [e, e3]
      simp only [Bool.and_false, Bool.false_eq_true, if_false, St.put]
      congr 3
      omega
theorem s_JoinValid : SoundAt Try.prog 7 (law2) :=
  con_keep (tb_sound (l := [(8, closed [] (.bool true)), (9, conL ndC fStore), (13, conF ndC (pL ndC gCopy)), (15, conLL ndC ndC fSame), (17, stainC), (20, conL ndC fValid), (24, cloneC), (25, conLL ndC ndC fSame)]) (by simpa using ⟨s_known, s_Store, s_RCopy, s_Same, s_stain, s_JValid, s_jcopy, s_JEqual⟩)) mixed Try.func7 k7 c7 fun args s r s' h => by
    obtain ⟨v, w, l, m, rfl, hr, hw, rfl, rfl⟩ := law2_some h
    refine ⟨rfl, rfl, by simp [a7], fun env hlen ha => ?_⟩
    have h0 : E env 0 = _ := ha 0 _ rfl
    have h1 : E env 1 = _ := ha 1 _ rfl
    have hlen : elen env = _ := hlen
    simp only [a7] at hlen
    unfold a7
    have hL := lenV_read hr
    have hM := lenV_read hw
    by_cases h1l : (60 : Int) < (l.length : Int)
    · have hz1 := eq_true h1l
      simp (config := {contextual := true, maxDischargeDepth := 12}) only [tb, q_known, h0, h1, hlen, hL, hM, hz1, ↓bD0, ↓bD1, ↓bD2, ↓bD3, ↓bD4, ↓bD5, ↓bD6, bU0, bU1, bU2, bU3, bU4, bU5, bU6, bU7, bU8, bU9, bU10, bU11, bU12, bU13, forall_const, List.all_cons, List.all_nil, Option.map_some, List.map_cons, List.map_nil, ne_eq, implies_true, isNx, cs_dec, cs_not, cs_and, cs_or, cs_valid, eq_self, ↓wp_cond, ↓wp_loop, ↓reduceIte, reduceCtorEq, Nat.reduceEqDiff, Nat.reduceLT, Nat.reduceAdd, Nat.reduceMul, Int.ofNat_lt, Int.ofNat_le, exists_const, ae_app, ap_slc, Option.map_none, mkR_none, mkR_some, ar_look, ae_mset, ae_rng, ae_mkmap0, ar_ent, lookV_push, lookV_lowed, msetV_push, msetV_lowed, lt_put, same_put, sto_over, sto_lowed, cs_dead, Option.map_some, beq_self_eq_true, decide_true, cs_true]
    · have hz1 := eq_false h1l
      by_cases h2l : (60 : Int) < (m.length : Int)
      · have hz2 := eq_true h2l
        simp (config := {contextual := true, maxDischargeDepth := 12}) only [tb, q_known, h0, h1, hlen, hL, hM, hz1, hz2, ↓bD0, ↓bD1, ↓bD2, ↓bD3, ↓bD4, ↓bD5, ↓bD6, bU0, bU1, bU2, bU3, bU4, bU5, bU6, bU7, bU8, bU9, bU10, bU11, bU12, bU13, forall_const, List.all_cons, List.all_nil, Option.map_some, List.map_cons, List.map_nil, ne_eq, implies_true, isNx, cs_dec, cs_not, cs_and, cs_or, cs_valid, eq_self, ↓wp_cond, ↓wp_loop, ↓reduceIte, reduceCtorEq, Nat.reduceEqDiff, Nat.reduceLT, Nat.reduceAdd, Nat.reduceMul, Int.ofNat_lt, Int.ofNat_le, exists_const, ae_app, ap_slc, Option.map_none, mkR_none, mkR_some, ar_look, ae_mset, ae_rng, ae_mkmap0, ar_ent, lookV_push, lookV_lowed, msetV_push, msetV_lowed, lt_put, same_put, sto_over, sto_lowed, cs_dead, Option.map_some, beq_self_eq_true, decide_true, cs_true]
      · have hz2 := eq_false h2l
        have hl : l.length ≤ lim := by unfold lim; omega
        have hm : m.length ≤ lim := by unfold lim; omega
        obtain ⟨w1, t1, hcp, hK1, hO1⟩ := fresh_L (D := ndC) (f := gCopy) hr hl rfl (by simp)
        rw [mkR_none] at hcp
        obtain ⟨c, t2, hc, hK2, hrc, t3, hs, hK3⟩ := clone_stain (hK1.read hr) hl
        have hr2 := hK2.read (hK1.read hr)
        have hw2 := hK2.read (hK1.read hw)
        have q1 := q_StValid false hr2 hl
        have q2 := q_Store false hr2 hl
        have q3 := q_JEqual false hr2 hw2 hl hm
        have q4 := q_Same false hr2 hw2 hl hm
        have q5 := q_JEqual false hw2 hw2 hm hm
        have q6 := q_Same false hrc hr2 hl hl
        have q7 := q_Same false (hK3.read (hK1.read hr)) (hK3.read hO1.read) hl hl
        simp (config := {contextual := true, maxDischargeDepth := 12}) only [tb, q_known, h0, h1, hlen, hL, hM, hz1, hz2, hcp, hc, hs, q1, q2, q3, q4, q5, q6, q7, ↓bD0, ↓bD1, ↓bD2, ↓bD3, ↓bD4, ↓bD5, ↓bD6, bU0, bU1, bU2, bU3, bU4, bU5, bU6, bU7, bU8, bU9, bU10, bU11, bU12, bU13, forall_const, List.all_cons, List.all_nil, Option.map_some, List.map_cons, List.map_nil, ne_eq, implies_true, isNx, cs_dec, cs_not, cs_and, cs_or, cs_valid, eq_self, ↓wp_cond, ↓wp_loop, ↓reduceIte, reduceCtorEq, Nat.reduceEqDiff, Nat.reduceLT, Nat.reduceAdd, Nat.reduceMul, Int.ofNat_lt, Int.ofNat_le, exists_const, ae_app, ap_slc, Option.map_none, mkR_none, mkR_some, ar_look, ae_mset, ae_rng, ae_mkmap0, ar_ent, lookV_push, lookV_lowed, msetV_push, msetV_lowed, lt_put, same_put, sto_over, sto_lowed, cs_dead, Option.map_some, beq_self_eq_true, decide_true, cs_true]
        exact hK1.trans hK3

end Go.AM
end
/-
  The row's last part: a call that leaves what was there alone, and answers true. Own work of this project.
-/
section
set_option linter.unusedVariables false
set_option linter.unusedSimpArgs false
namespace Go.AM
open Go Go.ChangeShapes Go.WideShapes Go.ChangeAt Go.RowKit

variable {H : Type} {enc : TypeId × Value → H} {P : Program}

theorem Clean.below {W W' : World} (h : Clean W W') : Below W.heap.size W W' := ⟨h.os, h.tape, h.output, h.size, h.block⟩
theorem Clean.frozen {W W' : World} (h : Clean W W') {a : Addr} (ha : a.block < W.heap.size) : W'.frozen? a = W.frozen? a := h.below.frozen ha

theorem trodAll_clean (hl : laidOutB P = true) {W W' : World} (hc : Clean W W') (sp : Nat → Bool) : ∀ {ts : List TypeId} {vs : List Value} {ds : List (DataW H)} {ps : List MemPlace}, (∀ t ∈ ts, P.readableRec t = true ∧ t < P.types.size) →
    DataW.TrodAll enc P W 0 (fun _ => true) true ts vs ds ps → (∀ p ∈ ps, sp p.block = true) → DataW.TrodAll enc P W' 0 sp true ts vs ds ps
  | [], vs, ds, ps, _, h, _ => by
    obtain ⟨rfl, rfl, rfl⟩ := trodAll_nil h
    rfl
  | t :: ts, vs, ds, ps, hr, h, hs => by
    obtain ⟨v, vs1, d, ds1, a, b, rfl, rfl, rfl, h1, h2⟩ := trodAll_cons h
    have hlt := DataW.TrodAll.lt h
    refine ⟨a, b, ?_, trodAll_clean hl hc sp (fun t ht => hr t (by simp [ht])) h2 fun p hp => hs p (by simp [hp]), rfl⟩
    exact WideElems.Trod_stays hl (hr t (by simp)).1 (hr t (by simp)).2 h1 (fun x hx => hc.below.same (hlt x (by simp [hx]))) fun x hx => hs x (by simp [hx])

theorem post_of_clean {f : Func} {s : ChangeSpec} {apart fresh handsOn again : Bool} {W W' : World} {args : Array Value} {ds gs : List (DataW H)} {before : List MemPlace} {tb : TypeId} (hl : laidOutB P = true)
    (hread : ∀ t ∈ f.params.toList, P.readableRec t = true ∧ t < P.types.size) (hW : DataW.Whole enc P f.params.toList s.vars apart W args.toList ds gs before) (hv : s.vars = [])
    (hres : (s.fn H (ds ++ gs)).results = [.lit (.bool true)]) (hargs : (s.fn H (ds ++ gs)).args = ds) (hvars : (s.fn H (ds ++ gs)).vars = []) (hrt : f.resultTypes = #[tb]) (hb : P.underlying tb = some .bool) (hc : Clean W W') :
    s.post enc P f apart fresh handsOn again W args (.bool true) W' := by
  have hlt : ∀ p ∈ before, p.block < W.heap.size := hW.lt
  have hW0 := hW
  obtain ⟨pa, pv, hA, hV, rfl, hz, hn⟩ := hW
  have hpv : pv = [] := by
    rw [hv] at hV
    cases gs with
    | nil => exact hV
    | cons g gs => exact hV.elim
  subst hpv
  simp only [List.append_nil] at hW0 hlt hz hn
  have hR : ∀ (b : Nat) (sp : Nat → Bool) (hd : Bool), DataW.TrodAll enc P W' b sp hd [tb] [.bool true] [.lit (.bool true)] [] := fun b sp hd => trodAll_mk1 (shut_bool hb true)
  have hrl : (Value.bool true).resultList f.resultTypes.size = [.bool true] := by simp [hrt, Value.resultList]
  refine ⟨ds, gs, pa, [], pa, [], hW0, ?_, ?_, ?_, ?_, fun _ => ⟨fun j t r h1 h2 => ?_, ?_⟩⟩
  · rw [hrl, hres, hrt]
    exact hR _ _ _
  · rw [hargs]
    exact trodAll_clean hl hc _ hread hA fun p hp => by simpa using hlt p hp
  · rw [hvars, hv]
    rfl
  · exact hc.below.frame _
  · rw [hrl] at h2
    rw [hrt] at h1
    cases j with
    | zero =>
      simp at h1 h2
      subst h1; subst h2
      simp [Value.okWide, hb, Cell.okWide, Cell.ok]
    | succ j => simp at h1
  · refine ⟨[.lit (.bool true)] ++ ds, [], pa, ⟨[] ++ pa, [], ?_, ?_, by simp, ?_, ?_⟩, fun p hp _ => hp⟩
    · rw [hrl, hrt]
      exact trodAll_append (trodAll_clean hl hc _ hread hA fun _ _ => rfl) (hR _ _ _)
    · rw [hv]
      rfl
    · intro b off hp
      rw [hc.frozen (hlt _ hp)]
      exact hz b off hp
    · intro ha
      simpa using hn ha

end Go.AM
end
/-
  From a row's reading of an argument to the abstract machine's memory. Own work of this project.
-/
section
set_option linter.unusedVariables false
set_option linter.unusedSimpArgs false
namespace Go.AM
open Go Go.ChangeShapes Go.WideShapes Go.ChangeAt Go.RowKit Go.Deep

/-- The kinds of plain cells. -/
inductive CK where
  | b | i (k : IntKind) | s
def CK.ok : CK → AV → Prop
  | .b, v => ∃ x, v = .bool x
  | .i k, v => ∃ n, v = .int k n ∧ (Lit.int k n).wf = true
  | .s, v => ∃ x, v = .str x
def CKs : List CK → List AV → Prop
  | [], vs => vs = []
  | k :: ks, vs => ∃ v r, vs = v :: r ∧ k.ok v ∧ CKs ks r
theorem CKs.append : ∀ {ks ks' : List CK} {vs vs' : List AV}, CKs ks vs → CKs ks' vs' → CKs (ks ++ ks') (vs ++ vs')
  | [], ks', vs, vs', h, h' => by simp only [CKs] at h; subst h; exact h'
  | k :: ks, ks', vs, vs', h, h' => by
    simp only [CKs] at h
    obtain ⟨v, r, rfl, h1, h2⟩ := h
    exact ⟨v, r ++ vs', rfl, h1, CKs.append h2 h'⟩
theorem CKs.len : ∀ {ks : List CK} {vs : List AV}, CKs ks vs → vs.length = ks.length
  | [], vs, h => by simp only [CKs] at h; subst h; rfl
  | k :: ks, vs, h => by
    simp only [CKs] at h
    obtain ⟨v, r, rfl, h1, h2⟩ := h
    simp [CKs.len h2]
theorem CK.ok_one {k : CK} {v : AV} (h : k.ok v) : v.one = true := by
  cases k <;> simp only [CK.ok] at h
  · obtain ⟨x, rfl⟩ := h; rfl
  · obtain ⟨x, rfl, _⟩ := h; rfl
  · obtain ⟨x, rfl⟩ := h; rfl
theorem CKs.one : ∀ {ks : List CK} {vs : List AV}, CKs ks vs → vs.all AV.one = true
  | [], vs, h => by simp only [CKs] at h; subst h; rfl
  | k :: ks, vs, h => by
    simp only [CKs] at h
    obtain ⟨v, r, rfl, h1, h2⟩ := h
    simp [CK.ok_one h1, CKs.one h2]

variable (P : Program)
def cks : Nat → TypeId → Option (List CK)
  | 0, _ => none
  | d + 1, t =>
    match P.underlying t with
    | some .bool => some [.b]
    | some (.int k) => some [.i k]
    | some .string => some [.s]
    | some (.struct fs) => cksF (cks d) fs.toList 0 (P.cellsOf t)
    | _ => none
where
  cksF (ok : TypeId → Option (List CK)) : List Field → Nat → Nat → Option (List CK)
    | [], at_, sz => if sz = at_ then some [] else none
    | f :: r, at_, sz =>
      if f.offset = at_ then
        match ok f.type with
        | some ks => if ks.length = P.cellsOf f.type then (cksF ok r (at_ + ks.length) sz).map (ks ++ ·) else none
        | none => none
      else none

variable {P}
variable {H : Type} {enc : TypeId × Value → H} {w : World} {base : Nat} {spare : Nat → Bool} {held : Bool}
def FlatOpen (P : Program) (enc : TypeId × Value → H) (w : World) (base : Nat) (spare : Nat → Bool) (held : Bool) (t : TypeId) (ks : List CK) : Prop :=
  ∀ (fuel : Nat) (cs : List Value) (x : DataW H × List MemPlace), DataW.trod enc P w base spare held fuel t cs = some x → ∃ vs, CKs ks vs ∧ ∀ ρ, VRs ρ vs cs
theorem flat_fields {ok : TypeId → Option (List CK)} (IH : ∀ t ks, ok t = some ks → FlatOpen P enc w base spare held t ks) {n : Nat} {cs : List Value} {sz : Nat} (hcs : cs.length = sz) : ∀ (fs : List Field) (at_ : Nat) (ks : List CK),
    cks.cksF P ok fs at_ sz = some ks → (∀ f ∈ fs, ∃ x, DataW.trod enc P w base spare held n f.type ((cs.drop f.offset).take (P.cellsOf f.type)) = some x) → ∃ vs, CKs ks vs ∧ ∀ ρ, VRs ρ vs (cs.drop at_)
  | [], at_, ks, h, _ => by
    simp only [cks.cksF] at h
    split at h
    · rename_i hsz
      injection h with h; subst h
      refine ⟨[], rfl, fun ρ => ?_⟩
      rw [List.drop_eq_nil_of_le (by omega)]
      exact VRs_nil
    · cases h
  | f :: r, at_, ks, h, hx => by
    simp only [cks.cksF] at h
    split at h
    · rename_i hoff
      split at h
      · rename_i ks1 hk
        split at h
        · rename_i hl
          obtain ⟨ks2, h2, rfl⟩ := Option.map_eq_some_iff.1 h
          obtain ⟨x, hxf⟩ := hx f (by simp)
          obtain ⟨vs1, c1, r1⟩ := IH f.type ks1 hk n _ x hxf
          obtain ⟨vs2, c2, r2⟩ := flat_fields IH hcs r (at_ + ks1.length) ks2 h2 fun g hg => hx g (by simp [hg])
          refine ⟨vs1 ++ vs2, c1.append c2, fun ρ => ?_⟩
          have := (r1 ρ).append (r2 ρ)
          rw [hoff, hl, ← List.drop_drop, List.take_append_drop] at this
          exact this
        · cases h
      · cases h
    · cases h
theorem flat_open : ∀ (d : Nat) (t : TypeId) (ks : List CK), cks P d t = some ks → FlatOpen P enc w base spare held t ks
  | 0, t, ks, h => by simp [cks] at h
  | d + 1, t, ks, h => by
    intro fuel cs x hx
    simp only [cks] at h
    split at h
    · rename_i hu
      injection h with h; subst h
      obtain ⟨b, rfl, _⟩ := DataW.trod_bool hu hx
      exact ⟨[.bool b], ⟨_, _, rfl, ⟨b, rfl⟩, rfl⟩, fun ρ => VRs_cons.2 ⟨by simp [VR], VRs_nil⟩⟩
    · rename_i k hu
      injection h with h; subst h
      obtain ⟨b, rfl, _, hw⟩ := DataW.trod_int hu hx
      exact ⟨[.int k b], ⟨_, _, rfl, ⟨b, rfl, hw⟩, rfl⟩, fun ρ => VRs_cons.2 ⟨by simp [VR], VRs_nil⟩⟩
    · rename_i hu
      injection h with h; subst h
      obtain ⟨b, rfl, _⟩ := DataW.trod_string hu hx
      exact ⟨[.str b], ⟨_, _, rfl, ⟨b, rfl⟩, rfl⟩, fun ρ => VRs_cons.2 ⟨by simp [VR], VRs_nil⟩⟩
    · rename_i fs hu
      obtain ⟨xs, n, _, _, hl, hxl, hf⟩ := DataW.trod_struct hu hx
      obtain ⟨vs, h1, h2⟩ := flat_fields (fun t ks hk => flat_open d t ks hk) hl fs.toList 0 ks h (n := n) fun f hmem => by
        obtain ⟨i, hi⟩ := List.getElem?_of_mem hmem
        have hi' : fs[i]? = some f := by simpa using hi
        have hlt : i < xs.length := by
          have := (Array.getElem?_eq_some_iff.1 hi').1
          omega
        exact ⟨xs[i], by rw [hf i f hi']; simp [hlt]⟩
      exact ⟨vs, h1, fun ρ => by simpa using h2 ρ⟩
    · cases h

theorem cell_some {a : Addr} {v : Value} (h : w.cell? a = some v) : ∃ cells el fr, w.heap[a.block]? = some (.cells cells el fr) ∧ a.spot = none := by
  unfold World.cell? at h
  split at h
  · rename_i c el fr hh
    split at h
    · cases h
    · rename_i hs
      exact ⟨c, el, fr, hh, by simpa using hs⟩
  · cases h
theorem addr_block (a : Addr) (i : Nat) : (a.add i).block = a.block := by unfold Addr.add; split <;> rfl
theorem addr_spot (a : Addr) (i : Nat) (h : (a.add i).spot = none) (h0 : i = 0 ∨ True) : i = 0 → a.spot = none := by
  intro hi
  subst hi
  unfold Addr.add at h
  simpa using h

/-- Cells, each kind in its turn, again and again. -/
def Rows (ks : List CK) (rows : List (List AV)) : Prop := ∀ r ∈ rows, CKs ks r
/-- A slice of plain elements: nil, or its elements lie in a row. -/
theorem slice_open {t e : TypeId} {ks : List CK} {d fuel : Nat} {cs : List Value} {x : DataW H × List MemPlace} (hu : P.underlying t = some (.slice e)) (hk : cks P d e = some ks) (hlen : ks.length = P.cellsOf e) (h0 : ks.length ≠ 0)
    (h : DataW.trod enc P w base (fun _ => true) held fuel t cs = some x) : cs = [.slice none 0 0] ∨
    (∃ a, cs = [.slice (some a) 0 0]) ∨
    ∃ (b off len cap : Nat) (cells : Array Value) (el : TypeId) (fr : Nat × Nat) (rows : List (List AV)), cs = [.slice (some ⟨b, off, none⟩) len cap] ∧ 0 < cap ∧ len ≤ cap ∧ cap ≤ maxLen ∧ w.heap[b]? = some (.cells cells el fr) ∧ off + cap * ks.length ≤ cells.size ∧
      rows.length = cap ∧ Rows ks rows ∧ ∀ ρ, VRs ρ rows.flatten ((cells.toList.drop off).take (cap * ks.length)) := by
  rcases open_slice hu h with ⟨rfl, _⟩ | ⟨a, len, cap, m, n, D, Pl, rfl, hb, hl, hm, hmm, _, hx⟩
  · exact .inl rfl
  right
  simp only [if_true] at hmm
  subst hmm
  by_cases hc : m = 0
  · left
    subst hc
    have : len = 0 := by omega
    subst this
    exact ⟨a, rfl⟩
  right
  have hcell : ∀ i, i < m → ∃ cs' vs, w.cells? base (a.add (i * P.cellsOf e)) (P.cellsOf e) = some cs' ∧ CKs ks vs ∧ ∀ ρ, VRs ρ vs cs' := by
    intro i hi
    obtain ⟨cs', h1, h2⟩ := hx i hi
    obtain ⟨vs, h3, h4⟩ := flat_open d e ks hk n cs' _ h2
    exact ⟨cs', vs, h1, h3, h4⟩
  -- the block
  obtain ⟨cs0, vs0, h1, _, _⟩ := hcell 0 (by omega)
  obtain ⟨_, hl0, hat0⟩ := World.cells?_some h1
  have hc0 := hat0 0 (by omega)
  obtain ⟨b, off, spot⟩ := a
  have hsome : ∃ v, cs0[0]? = some v := ⟨cs0[0]'(by omega), by simp⟩
  obtain ⟨v0, hv0⟩ := hsome
  rw [hv0] at hc0
  obtain ⟨cells, el, fr, hh, hsp⟩ := cell_some hc0
  rw [addr_block, addr_block] at hh
  simp only at hh
  have hspot : spot = none := by
    have h2 := addr_spot _ 0 hsp (.inl rfl) rfl
    have h3 := addr_spot _ (0 * P.cellsOf e) h2 (.inr trivial) (by simp)
    exact h3
  subst hspot
  have hat : ∀ i, i < m → ∃ vs, CKs ks vs ∧ off + (i + 1) * ks.length ≤ cells.size ∧ ∀ ρ, VRs ρ vs ((cells.toList.drop (off + i * ks.length)).take ks.length) := by
    intro i hi
    obtain ⟨cs', vs, e1, e2, e3⟩ := hcell i hi
    obtain ⟨_, hl', hat'⟩ := World.cells?_some e1
    have hget : ∀ j, j < P.cellsOf e → cells[off + i * P.cellsOf e + j]? = cs'[j]? := by
      intro j hj
      have := hat' j hj
      rw [addr_add, addr_add, cell_at hh] at this
      exact this
    have hsz : off + (i + 1) * ks.length ≤ cells.size := by
      have hj : P.cellsOf e - 1 < P.cellsOf e := by omega
      have := hget _ hj
      rw [List.getElem?_eq_getElem (by omega)] at this
      have hlt := (Array.getElem?_eq_some_iff.1 this).1
      rw [hlen, Nat.succ_mul]
      omega
    refine ⟨vs, e2, hsz, fun ρ => ?_⟩
    have : (cells.toList.drop (off + i * ks.length)).take ks.length = cs' := by
      apply List.ext_getElem?
      intro j
      by_cases hj : j < ks.length
      · rw [List.getElem?_take_of_lt hj, List.getElem?_drop, hlen]
        have := hget j (by omega)
        simpa using this
      · rw [List.getElem?_eq_none (by simp; omega), List.getElem?_eq_none (by omega)]
    rw [this]
    exact e3 ρ
  have hrows : ∀ k, k ≤ m → ∃ rows : List (List AV), rows.length = k ∧ Rows ks rows ∧ ∀ ρ, VRs ρ rows.flatten ((cells.toList.drop off).take (k * ks.length)) := by
    intro k
    induction k with
    | zero => exact fun _ => ⟨[], rfl, fun r hr => by simp at hr, fun ρ => by simpa using VRs_nil⟩
    | succ k ih =>
      intro hk'
      obtain ⟨rows, r1, r2, r3⟩ := ih (by omega)
      obtain ⟨vs, q1, q2, q3⟩ := hat k (by omega)
      refine ⟨rows ++ [vs], by simp [r1], fun r hr => ?_, fun ρ => ?_⟩
      · rcases List.mem_append.1 hr with hr | hr
        · exact r2 r hr
        · simp at hr; subst hr; exact q1
      · have := (r3 ρ).append (q3 ρ)
        rw [List.flatten_append, List.flatten_singleton, Nat.succ_mul]
        rw [← List.drop_drop, ← List.take_add] at this
        exact this
  obtain ⟨rows, r1, r2, r3⟩ := hrows m (Nat.le_refl _)
  obtain ⟨_, _, q2, _⟩ := hat (m - 1) (by omega)
  rw [show m - 1 + 1 = m by omega] at q2
  exact ⟨b, off, len, m, cells, el, fr, rows, rfl, by omega, hl, hm, hh, q2, r1, r2, r3⟩

end Go.AM
end
/-
  From a row's reading of lists of nodes to the abstract machine's memory; JoinValid's statement. Own work of this project.
-/
section
set_option linter.unusedVariables false
set_option linter.unusedSimpArgs false
set_option maxRecDepth 100000
namespace Go.AM
open Go Go.Proofs Go.ChangeShapes Go.WideShapes Go.ChangeAt Go.RowKit Go.Deep

def ndKs : List CK := [.i .i64, .i .i64, .i .i64, .i .i64, .i .i64, .i .i32]
theorem nd_cks : cks Try.prog 8 44 = some ndKs := by kernel_rfl
theorem nd_of_ks {r : List AV} (h : CKs ndKs r) : ∃ x : Nd, r = Nd.av x := by
  simp only [ndKs, CKs] at h
  obtain ⟨_, _, rfl, ⟨a, rfl, _⟩, _, _, rfl, ⟨b, rfl, _⟩, _, _, rfl, ⟨c, rfl, _⟩, _, _, rfl, ⟨d, rfl, _⟩, _, _, rfl, ⟨e, rfl, _⟩, _, _, rfl, ⟨x, rfl, _⟩, rfl⟩ := h
  exact ⟨⟨⟨a, b⟩, ⟨c, d⟩, e, x⟩, rfl⟩
theorem nds_of_rows : ∀ {rows : List (List AV)}, Rows ndKs rows → ∃ l : List Nd, rows.flatten = ndC.cells l ∧ l.length = rows.length
  | [], _ => ⟨[], rfl, rfl⟩
  | r :: rows, h => by
    obtain ⟨x, rfl⟩ := nd_of_ks (h r (by simp))
    obtain ⟨l, h1, h2⟩ := nds_of_rows (rows := rows) fun r' hr' => h r' (by simp [hr'])
    exact ⟨x :: l, by rw [List.flatten_cons, h1, cells_cons]; rfl, by simp [h2]⟩

/-- Some block of cells is there. -/
def HasCells (W : World) : Prop := ∃ (b : Nat) (cs : Array Value) (e : TypeId) (fr : Nat × Nat), W.heap[b]? = some (Obj.cells cs e fr)
/-- What the abstract machine knows of an argument. -/
structure Arg (W : World) (id : Nat) (v : Value) where
  av : AV
  blk : AB
  loc : Loc
  l : List Nd
  lt : loc.b < W.heap.size
  ok : ∀ ρ, BlkOk ρ loc W blk
  own : blk.owned = false
  vr : ∀ ρ : Ren, ρ id = some loc → VR ρ av v
  rd : ∀ s : St, s.get id = some blk → read ndC s av = some l
theorem dummy {W : World} (h : HasCells W) : ∃ L : Loc, L.b < W.heap.size ∧ ∀ ρ, BlkOk ρ L W (.row [] false) := by
  obtain ⟨b, cs, e, fr, hb⟩ := h
  refine ⟨⟨b, 0, cs.size⟩, (Array.getElem?_eq_some_iff.1 hb).1, fun ρ => ?_⟩
  simp only [BlkOk]
  exact ⟨cs, e, fr, hb, rfl, by simp, fun i v h => by simp at h, by simp, rfl⟩
variable {H : Type} {enc : TypeId × Value → H} {base : Nat} {held : Bool}
theorem arg_open {t : TypeId} (hu : Try.prog.underlying t = some (.slice 44)) (hlen : ndKs.length = Try.prog.cellsOf 44) {W : World} {v : Value} {d : DataW H} {p : List MemPlace} (hc : HasCells W)
    (h : DataW.Trod enc Try.prog W base (fun _ => true) held t v d p) {b0 : Nat} (hval : Value.okWide Try.prog W .any b0 t v) (id : Nat) : Nonempty (Arg W id v) := by
  obtain ⟨fuel, h⟩ := h
  obtain ⟨L, hL1, hL2⟩ := dummy hc
  obtain ⟨va, vl, vc, hvs⟩ := okWide_slice hu hval
  have hvc : v.cells.toList = [v] := by rw [hvs]; rfl
  rw [hvc] at h
  rcases slice_open (ks := ndKs) (d := 8) hu nd_cks hlen (by decide) h with hv | ⟨a, hv⟩ | ⟨b, off, len, cap, cells, el, fr, rows, hv, h2, h3, h4, h5, h6, h7, h8, h9⟩
  · have hv : v = .slice none 0 0 := by injection hv
    subst hv
    exact ⟨⟨.nils, .row [] false, L, [], hL1, hL2, rfl, fun ρ _ => by simp [VR], fun s _ => rfl⟩⟩
  · have hv : v = .slice (some a) 0 0 := by injection hv
    subst hv
    refine ⟨⟨.sl id 0 0 (some 0) 6, .row [] false, L, [], hL1, hL2, rfl, fun ρ hρ => ?_, fun s hs => ?_⟩⟩
    · simp only [VR]
      exact ⟨L, a, 0, hρ, rfl, Nat.le_refl _, fun k hk => by injection hk, .inl rfl⟩
    · exact read_of (C := ndC) (n := 0) rfl hs (by simp) rfl
  · have hv : v = .slice (some ⟨b, off, none⟩) len cap := by injection hv
    subst hv
    obtain ⟨l, e1, e2⟩ := nds_of_rows h8
    have h66 : ndKs.length = 6 := rfl
    rw [h66] at h6 h9
    rw [h7] at e2
    have hlt := (Array.getElem?_eq_some_iff.1 h5).1
    refine ⟨⟨.sl id 0 len (some cap) 6, .row (ndC.cells l) false, ⟨b, off, cells.size⟩, l.take len, hlt, fun ρ => ?_, rfl, fun ρ hρ => ?_, fun s hs => ?_⟩⟩
    · simp only [BlkOk]
      have hcl : (ndC.cells l).length = l.length * 6 := cells_len ndC l
      refine ⟨cells, el, fr, h5, rfl, by rw [hcl, e2]; exact h6, fun i v hi => ?_, by simp, cells_one' ndC l⟩
      have h10 := h9 ρ
      rw [e1] at h10
      have hi' := (List.getElem?_eq_some_iff.1 hi).1
      obtain ⟨c, hc1, hc2⟩ := VRs.at_ i h10 hi
      refine ⟨c, ?_, hc2⟩
      rw [List.getElem?_take_of_lt (by omega), List.getElem?_drop] at hc1
      simpa using hc1
    · simp only [VR]
      exact ⟨⟨b, off, cells.size⟩, ⟨b, off, none⟩, cap, hρ, rfl, h3, fun k hk => by injection hk, .inr ⟨by simp, by simpa using h6⟩⟩
    · have hall : read ndC s (.sl id 0 cap (some cap) 6) = some l := by
        refine read_of (C := ndC) e2.symm hs ?_ ?_
        · rw [cells_len, e2]; simp
        · rw [List.drop_zero, ← e2, ← cells_len]; simp
      exact read_take hall len h3

theorem two_args {W : World} {v0 v1 : Value} (a0 : Arg W 0 v0) (a1 : Arg W 1 v1) {f : Nat} (hs : SoundAt Try.prog f law2) : Calls Try.prog f #[v0, v1] W fun e W' => e = .returned (.bool true) ∧ Clean W W' := by
  have g0 : (⟨[a1.blk, a0.blk], 2, 0⟩ : St).get 0 = some a0.blk := rfl
  have g1 : (⟨[a1.blk, a0.blk], 2, 0⟩ : St).get 1 = some a1.blk := rfl
  have hg : ∀ id b, (⟨[a1.blk, a0.blk], 2, 0⟩ : St).get id = some b → (id = 0 ∧ b = a0.blk) ∨ (id = 1 ∧ b = a1.blk) := by
    intro id b h
    have := St.get_lt h
    have : id = 0 ∨ id = 1 := by
      have : id < 2 := this
      omega
    rcases this with rfl | rfl
    · rw [g0] at h; injection h with h; exact .inl ⟨rfl, h.symm⟩
    · rw [g1] at h; injection h with h; exact .inr ⟨rfl, h.symm⟩
  have hown : ∀ id b, (⟨[a1.blk, a0.blk], 2, 0⟩ : St).get id = some b → b.owned = false := by
    intro id b h
    rcases hg id b h with ⟨_, rfl⟩ | ⟨_, rfl⟩
    · exact a0.own
    · exact a1.own
  have hR : R ⟨[a1.blk, a0.blk], 2, 0⟩ (fun i => if i = 0 then some a0.loc else if i = 1 then some a1.loc else none) W := by
    refine ⟨fun id L h => ?_, fun id b L h1 h2 => ?_, fun i j L M bi bj _ _ _ e3 _ e5 _ => ?_⟩
    · split at h
      · injection h with h; subst h; exact a0.lt
      · split at h
        · injection h with h; subst h; exact a1.lt
        · cases h
    · rcases hg id b h1 with ⟨rfl, rfl⟩ | ⟨rfl, rfl⟩
      · simp at h2; subst h2; exact a0.ok _
      · simp at h2; subst h2; exact a1.ok _
    · rw [hown i bi e3] at e5; cases e5
  obtain ⟨_, _, h⟩ := hs [a0.av, a1.av] ⟨[a1.blk, a0.blk], 2, 0⟩ (.bool true) (St.lowed ⟨[a1.blk, a0.blk], 2, 0⟩) (by
    simp only [law2, a0.rd _ g0, a1.rd _ g1])
  have := h _ W [v0, v1] (fun id hid => by
    have : 2 ≤ id := hid
    simp [show id ≠ 0 by omega, show id ≠ 1 by omega]) hR (VRs_cons.2 ⟨a0.vr _ rfl, VRs_cons.2 ⟨a1.vr _ rfl, VRs_nil⟩⟩)
  refine Calls.mono (by simpa using this) fun e W' hp => ?_
  obtain ⟨ρ', v, rfl, hv, hst, _⟩ := hp
  simp only [VR] at hv
  subst hv
  exact ⟨rfl, hst.size, hst.os, hst.tape, hst.output, hst.drawn, fun b hb => hst.frame b hb fun id L blk _ _ h1 h2 => by rw [hown id blk h1] at h2; cases h2⟩

def isCells : Option Obj → Bool
  | some (.cells ..) => true
  | _ => false
theorem seat_hasCells {W : World} (h : W.ShapedOpen Try.prog) : HasCells W := by
  have h0 : decide (Try.prog.globals.size ≤ 0) = true := by kernel_rfl
  have h1 : decide (0 < (begin Try.prog (fun _ _ => 0) default).world.heap.size) = true := by kernel_rfl
  have h2 : isCells ((begin Try.prog (fun _ _ => 0) default).world.heap[0]?) = true := by kernel_rfl
  have h0 := of_decide_eq_true h0
  obtain ⟨o, o0, e1, e2, e3⟩ := h.2 0 h0 (of_decide_eq_true h1)
  have hl : World.looseAt (0 - Try.prog.globals.size) = false := by
    have : 0 - Try.prog.globals.size = 0 := by omega
    rw [this]
    rfl
  rw [hl] at e3
  simp only [Bool.false_eq_true, if_false] at e3
  subst e3
  rw [e2] at h2
  cases o with
  | cells cs e fr => exact ⟨0, cs, e, fr, e1⟩
  | _ => cases h2
end Go.AM
end
/-
  The reference's Agree, put, Join; the program's Agree and Within; the helpers of the statements. Own work of this project; in part printed by a program of it.
-/
section
set_option linter.unusedVariables false
set_option linter.unusedSimpArgs false
set_option maxRecDepth 100000
set_option maxHeartbeats 8000000
namespace Go.AM
open Go Go.Proofs

theorem cs_false (A B : Prop) : cstep (.bool (decide False)) A B = B := by simp [cstep]
theorem cs_ref (a b : Bool) (A B : Prop) : cstep (.bool (a && b)) A B = ((a = true ∧ b = true → A) ∧ ((a && b) = false → B)) := cs_and a b A B
theorem findL_look (l : List Nd) (d : Dot) : findL l d = match lookN l d with
    | some (j, _) => (j : Int)
    | none => -1 := by
  induction l with
  | nil => rfl
  | cons x r ih =>
    simp only [findL, lookN]
    by_cases h : x.d = d
    · simp [h]
    · simp only [h, if_false]
      rw [ih]
      cases hr : lookN r d with
      | none => simp
      | some p =>
        obtain ⟨j, y⟩ := p
        simp only [Option.map_some]
        rw [if_neg (by omega)]
        simp
def agreeL (l m : List Nd) : Bool := l.all fun x => match lookN m x.d with
  | some (_, y) => !x.clash y
  | none => true
theorem agreeL_cons (x : Nd) (l m : List Nd) : agreeL (x :: l) m = ((match lookN m x.d with
  | some (_, y) => !x.clash y
  | none => true) && agreeL l m) := rfl
def fAgree (l m : List Nd) : AV := .bool (agreeL l m)
theorem s_RAgree : SoundAt Try.prog 12 (conLL ndC ndC fAgree) :=
  con_keep (tb_sound (l := [(22, conLD ndC fFind), (29, conNN fRefMerge)]) (by simpa using ⟨s_Find, s_RefMerge⟩)) mixed Try.func12 k12 c12 fun args s r s' h => by
    obtain ⟨v, w, l, m, rfl, hr, hw, hl, hm, rfl, rfl⟩ := conLL_some h
    refine ⟨rfl, rfl, by simp [a12], fun env hlen ha => ?_⟩
    have h0 : E env 0 = _ := ha 0 _ rfl
    have h1 : E env 1 = _ := ha 1 _ rfl
    have hlen : elen env = _ := hlen
    simp only [a12] at hlen
    unfold a12
    have hL := lenV_read hr
    simp (config := {contextual := true, maxDischargeDepth := 12}) only [tb, h0, h1, hlen, hL, ↓bD0, ↓bD1, ↓bD2, ↓bD3, ↓bD4, ↓bD5, ↓bD6, bU0, bU1, bU2, bU3, bU4, bU5, bU6, bU7, bU8, bU9, bU10, bU11, bU12, bU13, forall_const, List.all_cons, List.all_nil, Option.map_some, List.map_cons, List.map_nil, ne_eq, implies_true, isNx, cs_dec, cs_not, cs_and, cs_or, cs_valid, eq_self, ↓wp_cond, ↓wp_loop, ↓reduceIte, reduceCtorEq, Nat.reduceEqDiff, Nat.reduceLT, Nat.reduceAdd, Nat.reduceMul, Int.ofNat_lt, Int.ofNat_le, exists_const, ae_app, ap_slc, Option.map_none, mkR_none, mkR_some, ar_look, ae_mset, ae_rng, ae_mkmap0, ar_ent, lookV_push, lookV_lowed, msetV_push, msetV_lowed, lt_put, same_put, sto_over, sto_lowed, cs_dead, Option.map_some, beq_self_eq_true, decide_true, cs_true, cs_false]
    obtain ⟨I, hI⟩ : ∃ I : Nat → Env → St → Prop, ∀ n e t, I n e t = (Keep s t ∧ ∃ i : Nat, n + i = l.length ∧ elen e = 38 ∧ E e 0 = v ∧ E e 1 = w ∧ E e 5 = .int .i64 (i : Int) ∧ (agreeL (l.drop i) m = agreeL l m)) := ⟨fun n e t => (Keep s t ∧ ∃ i : Nat, n + i = l.length ∧ elen e = 38 ∧ E e 0 = v ∧ E e 1 = w ∧ E e 5 = .int .i64 (i : Int) ∧ (agreeL (l.drop i) m = agreeL l m)), fun _ _ _ => rfl⟩
    refine lwp_inv I (n := l.length) ?_ ?_
    · rw [hI]
      exact ⟨.refl s, 0, by omega, by simp only [E_pne, E_psame, elen_put, Nat.reduceEqDiff, ne_eq, not_false_eq_true, Nat.reduceLT, hlen], by simp only [E_pne, E_psame, elen_put, Nat.reduceEqDiff, ne_eq, not_false_eq_true, Nat.reduceLT, h0], by simp only [E_pne, E_psame, elen_put, Nat.reduceEqDiff, ne_eq, not_false_eq_true, Nat.reduceLT, h1], by simp only [E_pne, E_psame, elen_put, Nat.reduceEqDiff, ne_eq, not_false_eq_true, Nat.reduceLT, hlen]; rfl, rfl⟩
    intro n e t hi
    rw [hI] at hi
    obtain ⟨hK, i, hn, he, e0, e1, e5, hag⟩ := hi
    by_cases hlt : i < l.length
    · obtain ⟨x, hx⟩ := getsome hlt
      have hw2 := wrap_add1 (n := i) (by unfold lim at hl; omega)
      obtain ⟨a1, a2, _, _, _, al⟩ := nd_lods hr hK hx
      have i1 := nd_idx hr hx .i64
      have hdr : l.drop i = x :: l.drop (i + 1) := by
        rw [List.drop_eq_getElem_cons hlt]
        congr 1
        exact (List.getElem?_eq_some_iff.1 hx).2
      rw [hdr] at hag
      rw [agreeL_cons] at hag
      have qf := q_Find false (hK.read hw) hm x.d
      rw [findL_look] at qf
      cases hf : lookN m x.d with
      | none =>
        rw [hf] at qf hag
        simp only [Bool.true_and] at qf hag
        have hz : ((0 : Int) ≤ -1) = False := by decide
        simp (config := {contextual := true, maxDischargeDepth := 12}) only [tb, e0, e1, e5, he, hL, hlt, hw2, a1, a2, al, i1, qf, hz, ↓bD0, ↓bD1, ↓bD2, ↓bD3, ↓bD4, ↓bD5, ↓bD6, bU0, bU1, bU2, bU3, bU4, bU5, bU6, bU7, bU8, bU9, bU10, bU11, bU12, bU13, forall_const, List.all_cons, List.all_nil, Option.map_some, List.map_cons, List.map_nil, ne_eq, implies_true, isNx, cs_dec, cs_not, cs_and, cs_or, cs_valid, eq_self, ↓wp_cond, ↓wp_loop, ↓reduceIte, reduceCtorEq, Nat.reduceEqDiff, Nat.reduceLT, Nat.reduceAdd, Nat.reduceMul, Int.ofNat_lt, Int.ofNat_le, exists_const, ae_app, ap_slc, Option.map_none, mkR_none, mkR_some, ar_look, ae_mset, ae_rng, ae_mkmap0, ar_ent, lookV_push, lookV_lowed, msetV_push, msetV_lowed, lt_put, same_put, sto_over, sto_lowed, cs_dead, Option.map_some, beq_self_eq_true, decide_true, cs_true, cs_false]
        refine ⟨n - 1, by omega, ?_⟩
        rw [hI]
        exact ⟨hK, i + 1, by omega, by simp only [E_pne, E_psame, elen_put, Nat.reduceEqDiff, ne_eq, not_false_eq_true, Nat.reduceLT, he], by simp only [E_pne, E_psame, elen_put, Nat.reduceEqDiff, ne_eq, not_false_eq_true, Nat.reduceLT, e0], by simp only [E_pne, E_psame, elen_put, Nat.reduceEqDiff, ne_eq, not_false_eq_true, Nat.reduceLT, e1], by simp only [E_pne, E_psame, elen_put, Nat.reduceEqDiff, ne_eq, not_false_eq_true, Nat.reduceLT, he], hag⟩
      | some p =>
        obtain ⟨j, y⟩ := p
        obtain ⟨hy, hyd⟩ := lookN_some hf
        rw [hf] at qf hag
        simp only at qf hag
        have hz : ((0 : Int) ≤ (j : Int)) = True := eq_true (by omega)
        obtain ⟨b1, _, _, _, _, bl⟩ := nd_lods hw hK hy
        have i2 := nd_idx hw hy .i64
        by_cases hc : x.clash y = true
        · have hMg : refMergeV x y = .tup [.agg (Nd.av nd0), .bool false] := by simp [refMergeV, hc]
          have hres : agreeL l m = false := by
            rw [← hag, hc]
            rfl
          simp (config := {contextual := true, maxDischargeDepth := 12}) only [tb, q_RefMerge, e0, e1, e5, he, hL, hlt, hw2, a1, a2, al, i1, qf, hz, b1, bl, i2, hMg, ↓bD0, ↓bD1, ↓bD2, ↓bD3, ↓bD4, ↓bD5, ↓bD6, bU0, bU1, bU2, bU3, bU4, bU5, bU6, bU7, bU8, bU9, bU10, bU11, bU12, bU13, forall_const, List.all_cons, List.all_nil, Option.map_some, List.map_cons, List.map_nil, ne_eq, implies_true, isNx, cs_dec, cs_not, cs_and, cs_or, cs_valid, eq_self, ↓wp_cond, ↓wp_loop, ↓reduceIte, reduceCtorEq, Nat.reduceEqDiff, Nat.reduceLT, Nat.reduceAdd, Nat.reduceMul, Int.ofNat_lt, Int.ofNat_le, exists_const, ae_app, ap_slc, Option.map_none, mkR_none, mkR_some, ar_look, ae_mset, ae_rng, ae_mkmap0, ar_ent, lookV_push, lookV_lowed, msetV_push, msetV_lowed, lt_put, same_put, sto_over, sto_lowed, cs_dead, Option.map_some, beq_self_eq_true, decide_true, cs_true, cs_false]
          exact ⟨by simp [fAgree, hres], hK.lowed.push _⟩
        · have hMg : refMergeV x y = .tup [.agg (Nd.av (x.merge y)), .bool true] := by simp [refMergeV, hc]
          have hc' : x.clash y = false := by simpa using hc
          rw [hc'] at hag
          simp only [Bool.not_false, Bool.true_and] at hag
          simp (config := {contextual := true, maxDischargeDepth := 12}) only [tb, q_RefMerge, e0, e1, e5, he, hL, hlt, hw2, a1, a2, al, i1, qf, hz, b1, bl, i2, hMg, ↓bD0, ↓bD1, ↓bD2, ↓bD3, ↓bD4, ↓bD5, ↓bD6, bU0, bU1, bU2, bU3, bU4, bU5, bU6, bU7, bU8, bU9, bU10, bU11, bU12, bU13, forall_const, List.all_cons, List.all_nil, Option.map_some, List.map_cons, List.map_nil, ne_eq, implies_true, isNx, cs_dec, cs_not, cs_and, cs_or, cs_valid, eq_self, ↓wp_cond, ↓wp_loop, ↓reduceIte, reduceCtorEq, Nat.reduceEqDiff, Nat.reduceLT, Nat.reduceAdd, Nat.reduceMul, Int.ofNat_lt, Int.ofNat_le, exists_const, ae_app, ap_slc, Option.map_none, mkR_none, mkR_some, ar_look, ae_mset, ae_rng, ae_mkmap0, ar_ent, lookV_push, lookV_lowed, msetV_push, msetV_lowed, lt_put, same_put, sto_over, sto_lowed, cs_dead, Option.map_some, beq_self_eq_true, decide_true, cs_true, cs_false]
          refine ⟨n - 1, by omega, ?_⟩
          rw [hI]
          exact ⟨hK.lowed.push _, i + 1, by omega, by simp only [E_pne, E_psame, elen_put, Nat.reduceEqDiff, ne_eq, not_false_eq_true, Nat.reduceLT, he], by simp only [E_pne, E_psame, elen_put, Nat.reduceEqDiff, ne_eq, not_false_eq_true, Nat.reduceLT, e0], by simp only [E_pne, E_psame, elen_put, Nat.reduceEqDiff, ne_eq, not_false_eq_true, Nat.reduceLT, e1], by simp only [E_pne, E_psame, elen_put, Nat.reduceEqDiff, ne_eq, not_false_eq_true, Nat.reduceLT, he], hag⟩
    · have : agreeL l m = true := by
        rw [← hag, List.drop_eq_nil_of_le (by omega)]
        rfl
      simp (config := {contextual := true, maxDischargeDepth := 12}) only [tb, e0, e1, e5, he, hL, hlt, ↓bD0, ↓bD1, ↓bD2, ↓bD3, ↓bD4, ↓bD5, ↓bD6, bU0, bU1, bU2, bU3, bU4, bU5, bU6, bU7, bU8, bU9, bU10, bU11, bU12, bU13, forall_const, List.all_cons, List.all_nil, Option.map_some, List.map_cons, List.map_nil, ne_eq, implies_true, isNx, cs_dec, cs_not, cs_and, cs_or, cs_valid, eq_self, ↓wp_cond, ↓wp_loop, ↓reduceIte, reduceCtorEq, Nat.reduceEqDiff, Nat.reduceLT, Nat.reduceAdd, Nat.reduceMul, Int.ofNat_lt, Int.ofNat_le, exists_const, ae_app, ap_slc, Option.map_none, mkR_none, mkR_some, ar_look, ae_mset, ae_rng, ae_mkmap0, ar_ent, lookV_push, lookV_lowed, msetV_push, msetV_lowed, lt_put, same_put, sto_over, sto_lowed, cs_dead, Option.map_some, beq_self_eq_true, decide_true, cs_true, cs_false]
      exact ⟨by simp [fAgree, this], hK⟩
theorem q_RAgree (cl : Bool) {v w : AV} {l m : List Nd} {s : St} (h : read ndC s v = some l) (k : read ndC s w = some m) (hl : l.length ≤ lim) (hm : m.length ≤ lim) : acall (conLL ndC ndC fAgree) cl [v, w] s = some (.bool (agreeL l m), s) := conLL_call (fun _ _ => rfl) h k hl hm cl

def agreeV (l m : List Nd) : AV := match gJoin l m with
  | some (_, some (.int .i64 0)) => .tup [.bool true, .int .i64 0]
  | some (_, some (.int .i64 15)) => .tup [.bool false, .int .i64 0]
  | _ => .tup [.bool false, .int .i64 2]
def withinV (l m : List Nd) : AV := match gJoin l m with
  | some (j, some (.int .i64 0)) => .tup [.bool (decide (j = m)), .int .i64 0]
  | some (_, some (.int .i64 15)) => .tup [.bool false, .int .i64 15]
  | _ => .tup [.bool false, .int .i64 2]
theorem gJoin_cases (l m : List Nd) : (∃ j, storeL l = true ∧ storeL m = true ∧ joinL l m = some j ∧ gJoin l m = some (j, some (.int .i64 0))) ∨ (storeL l = true ∧ storeL m = true ∧ joinL l m = none ∧ gJoin l m = some ([], some (.int .i64 15))) ∨ (¬ (storeL l = true ∧ storeL m = true) ∧ gJoin l m = some ([], some (.int .i64 2))) := by
  unfold gJoin
  by_cases h : storeL l = true ∧ storeL m = true
  · rw [if_pos h]
    cases hj : joinL l m with
    | none => exact .inr (.inl ⟨h.1, h.2, rfl, rfl⟩)
    | some j => exact .inl ⟨j, h.1, h.2, rfl, rfl⟩
  · rw [if_neg h]
    exact .inr (.inr ⟨h, rfl⟩)
theorem joinL_len : ∀ (l m : List Nd) (j : List Nd), joinL l m = some j → j.length ≤ l.length + m.length := by
  intro l m
  induction l, m using joinL.induct with
  | case1 b => intro j h; simp [joinL] at h; subst h; simp
  | case2 x a => intro j h; simp [joinL] at h; subst h; simp
  | case3 x a y b h1 ih =>
    intro j h
    rw [joinL, if_pos h1, Option.map_eq_some_iff] at h
    obtain ⟨j', h2, rfl⟩ := h
    have := ih j' h2
    simp at this ⊢
    omega
  | case4 x a y b h1 h2 ih =>
    intro j h
    rw [joinL, if_neg h1, if_pos h2, Option.map_eq_some_iff] at h
    obtain ⟨j', h2, rfl⟩ := h
    have := ih j' h2
    simp at this ⊢
    omega
  | case5 x a y b h1 h2 h3 =>
    intro j h
    simp [joinL, h1, h2, h3] at h
  | case6 x a y b h1 h2 h3 ih =>
    intro j h
    rw [joinL, if_neg h1, if_neg h2, if_neg h3, Option.map_eq_some_iff] at h
    obtain ⟨j', h2, rfl⟩ := h
    have := ih j' h2
    simp at this ⊢
    omega
theorem agreeV_ground (l m : List Nd) : (agreeV l m).ground = true := by
  rcases gJoin_cases l m with ⟨j, _, _, _, h⟩ | ⟨_, _, _, h⟩ | ⟨_, h⟩ <;> (unfold agreeV; rw [h]; rfl)
theorem withinV_ground (l m : List Nd) : (withinV l m).ground = true := by
  rcases gJoin_cases l m with ⟨j, _, _, _, h⟩ | ⟨_, _, _, h⟩ | ⟨_, h⟩ <;> (unfold withinV; rw [h]; rfl)
/-- Two lists, each short. -/
def conLLs (f : List Nd → List Nd → AV) : Con := fun xs s => match xs with
  | [v, w] => match read ndC s v, read ndC s w with
    | some l, some m => if l.length ≤ 100000 ∧ m.length ≤ 100000 then some (f l m, s.lowed) else none
    | _, _ => none
  | _ => none
theorem conLLs_some {f : List Nd → List Nd → AV} {xs : List AV} {s : St} {r : AV} {s' : St} (h : conLLs f xs s = some (r, s')) : ∃ v w l m, xs = [v, w] ∧ read ndC s v = some l ∧ read ndC s w = some m ∧ l.length ≤ 100000 ∧ m.length ≤ 100000 ∧ r = f l m ∧ s' = s.lowed := by
  unfold conLLs at h
  split at h
  · split at h
    · split at h
      · rename_i v w _ _ l m hr hw hl
        injection h with h
        obtain ⟨rfl, rfl⟩ := Prod.mk.inj h
        exact ⟨v, w, l, m, rfl, hr, hw, hl.1, hl.2, rfl, rfl⟩
      · cases h
    · cases h
  · cases h
theorem conLLs_call {f : List Nd → List Nd → AV} (hf : ∀ l m, (f l m).ground = true) {s : St} {v w : AV} {l m : List Nd} (h : read ndC s v = some l) (k : read ndC s w = some m) (hl : l.length ≤ 100000) (hm : m.length ≤ 100000) (cl : Bool) : acall (conLLs f) cl [v, w] s = some (f l m, s) :=
  acall_rol (by simp only [conLLs, read_low, h, k, hl, hm, and_self, if_true]) (hf l m)
theorem s_Agree : SoundAt Try.prog 23 (conLLs agreeV) :=
  con_keep (tb_sound (l := [(14, conF ndC (pLL ndC ndC gJoin)), (25, conLL ndC ndC fSame)]) (by simpa using ⟨s_Join, s_JEqual⟩)) mixed Try.func23 k23 c23 fun args s r s' h => by
    obtain ⟨v, w, l, m, rfl, hr, hw, hls, hms, rfl, rfl⟩ := conLLs_some h
    refine ⟨rfl, agreeV_ground _ _, by simp [a23], fun env hlen ha => ?_⟩
    have h0 : E env 0 = _ := ha 0 _ rfl
    have h1 : E env 1 = _ := ha 1 _ rfl
    have hlen : elen env = _ := hlen
    simp only [a23] at hlen
    unfold a23
    have hl : l.length ≤ lim := by unfold lim; omega
    have hm : m.length ≤ lim := by unfold lim; omega
    have k1 : ((2 : Int) = 0) = False := by decide
    have k2 : ((15 : Int) = 0) = False := by decide
    have k3 : ((2 : Int) = 15) = False := by decide
    have k4 : ((0 : Int) = 15) = False := by decide
    rcases gJoin_cases l m with ⟨j, hv1, hv2, hj, hg⟩ | ⟨hv1, hv2, hj, hg⟩ | ⟨hv, hg⟩
    all_goals
      obtain ⟨u, t, hc, hK, hO⟩ := fresh_LL (D := ndC) (f := gJoin) hr hw hl hm hg (gJoin_plain hg)
      rw [mkR_some] at hc
    · have qe := q_JEqual false hO.read (hK.read hw) (by have := joinL_len _ _ _ hj; unfold lim; omega) hm
      simp (config := {contextual := true, maxDischargeDepth := 12}) only [tb, h0, h1, hlen, hc, k1, k2, k3, k4, qe, ↓bD0, ↓bD1, ↓bD2, ↓bD3, ↓bD4, ↓bD5, ↓bD6, bU0, bU1, bU2, bU3, bU4, bU5, bU6, bU7, bU8, bU9, bU10, bU11, bU12, bU13, forall_const, List.all_cons, List.all_nil, Option.map_some, List.map_cons, List.map_nil, ne_eq, implies_true, isNx, cs_dec, cs_not, cs_and, cs_or, cs_valid, eq_self, ↓wp_cond, ↓wp_loop, ↓reduceIte, reduceCtorEq, Nat.reduceEqDiff, Nat.reduceLT, Nat.reduceAdd, Nat.reduceMul, Int.ofNat_lt, Int.ofNat_le, exists_const, ae_app, ap_slc, Option.map_none, mkR_none, mkR_some, ar_look, ae_mset, ae_rng, ae_mkmap0, ar_ent, lookV_push, lookV_lowed, msetV_push, msetV_lowed, lt_put, same_put, sto_over, sto_lowed, cs_dead, Option.map_some, beq_self_eq_true, decide_true, cs_true, cs_false]
      exact ⟨by unfold agreeV; rw [hg]; rfl, hK⟩
    · have qe := trivial
      simp (config := {contextual := true, maxDischargeDepth := 12}) only [tb, h0, h1, hlen, hc, k1, k2, k3, k4, ↓bD0, ↓bD1, ↓bD2, ↓bD3, ↓bD4, ↓bD5, ↓bD6, bU0, bU1, bU2, bU3, bU4, bU5, bU6, bU7, bU8, bU9, bU10, bU11, bU12, bU13, forall_const, List.all_cons, List.all_nil, Option.map_some, List.map_cons, List.map_nil, ne_eq, implies_true, isNx, cs_dec, cs_not, cs_and, cs_or, cs_valid, eq_self, ↓wp_cond, ↓wp_loop, ↓reduceIte, reduceCtorEq, Nat.reduceEqDiff, Nat.reduceLT, Nat.reduceAdd, Nat.reduceMul, Int.ofNat_lt, Int.ofNat_le, exists_const, ae_app, ap_slc, Option.map_none, mkR_none, mkR_some, ar_look, ae_mset, ae_rng, ae_mkmap0, ar_ent, lookV_push, lookV_lowed, msetV_push, msetV_lowed, lt_put, same_put, sto_over, sto_lowed, cs_dead, Option.map_some, beq_self_eq_true, decide_true, cs_true, cs_false]
      exact ⟨by unfold agreeV; rw [hg]; rfl, hK⟩
    · have qe := trivial
      simp (config := {contextual := true, maxDischargeDepth := 12}) only [tb, h0, h1, hlen, hc, k1, k2, k3, k4, ↓bD0, ↓bD1, ↓bD2, ↓bD3, ↓bD4, ↓bD5, ↓bD6, bU0, bU1, bU2, bU3, bU4, bU5, bU6, bU7, bU8, bU9, bU10, bU11, bU12, bU13, forall_const, List.all_cons, List.all_nil, Option.map_some, List.map_cons, List.map_nil, ne_eq, implies_true, isNx, cs_dec, cs_not, cs_and, cs_or, cs_valid, eq_self, ↓wp_cond, ↓wp_loop, ↓reduceIte, reduceCtorEq, Nat.reduceEqDiff, Nat.reduceLT, Nat.reduceAdd, Nat.reduceMul, Int.ofNat_lt, Int.ofNat_le, exists_const, ae_app, ap_slc, Option.map_none, mkR_none, mkR_some, ar_look, ae_mset, ae_rng, ae_mkmap0, ar_ent, lookV_push, lookV_lowed, msetV_push, msetV_lowed, lt_put, same_put, sto_over, sto_lowed, cs_dead, Option.map_some, beq_self_eq_true, decide_true, cs_true, cs_false]
      exact ⟨by unfold agreeV; rw [hg]; rfl, hK⟩
theorem q_Agree (cl : Bool) {v w : AV} {l m : List Nd} {s : St} (h : read ndC s v = some l) (k : read ndC s w = some m) (hl : l.length ≤ 100000) (hm : m.length ≤ 100000) : acall (conLLs agreeV) cl [v, w] s = some (agreeV l m, s) := conLLs_call agreeV_ground h k hl hm cl
theorem s_Within : SoundAt Try.prog 21 (conLLs withinV) :=
  con_keep (tb_sound (l := [(14, conF ndC (pLL ndC ndC gJoin)), (25, conLL ndC ndC fSame)]) (by simpa using ⟨s_Join, s_JEqual⟩)) mixed Try.func21 k21 c21 fun args s r s' h => by
    obtain ⟨v, w, l, m, rfl, hr, hw, hls, hms, rfl, rfl⟩ := conLLs_some h
    refine ⟨rfl, withinV_ground _ _, by simp [a21], fun env hlen ha => ?_⟩
    have h0 : E env 0 = _ := ha 0 _ rfl
    have h1 : E env 1 = _ := ha 1 _ rfl
    have hlen : elen env = _ := hlen
    simp only [a21] at hlen
    unfold a21
    have hl : l.length ≤ lim := by unfold lim; omega
    have hm : m.length ≤ lim := by unfold lim; omega
    have k1 : ((2 : Int) = 0) = False := by decide
    have k2 : ((15 : Int) = 0) = False := by decide
    have k3 : ((2 : Int) = 15) = False := by decide
    have k4 : ((0 : Int) = 15) = False := by decide
    rcases gJoin_cases l m with ⟨j, hv1, hv2, hj, hg⟩ | ⟨hv1, hv2, hj, hg⟩ | ⟨hv, hg⟩
    all_goals
      obtain ⟨u, t, hc, hK, hO⟩ := fresh_LL (D := ndC) (f := gJoin) hr hw hl hm hg (gJoin_plain hg)
      rw [mkR_some] at hc
    · have qe := q_JEqual false hO.read (hK.read hw) (by have := joinL_len _ _ _ hj; unfold lim; omega) hm
      simp (config := {contextual := true, maxDischargeDepth := 12}) only [tb, h0, h1, hlen, hc, k1, k2, k3, k4, qe, ↓bD0, ↓bD1, ↓bD2, ↓bD3, ↓bD4, ↓bD5, ↓bD6, bU0, bU1, bU2, bU3, bU4, bU5, bU6, bU7, bU8, bU9, bU10, bU11, bU12, bU13, forall_const, List.all_cons, List.all_nil, Option.map_some, List.map_cons, List.map_nil, ne_eq, implies_true, isNx, cs_dec, cs_not, cs_and, cs_or, cs_valid, eq_self, ↓wp_cond, ↓wp_loop, ↓reduceIte, reduceCtorEq, Nat.reduceEqDiff, Nat.reduceLT, Nat.reduceAdd, Nat.reduceMul, Int.ofNat_lt, Int.ofNat_le, exists_const, ae_app, ap_slc, Option.map_none, mkR_none, mkR_some, ar_look, ae_mset, ae_rng, ae_mkmap0, ar_ent, lookV_push, lookV_lowed, msetV_push, msetV_lowed, lt_put, same_put, sto_over, sto_lowed, cs_dead, Option.map_some, beq_self_eq_true, decide_true, cs_true, cs_false]
      exact ⟨by unfold withinV; rw [hg]; rfl, hK⟩
    · have qe := trivial
      simp (config := {contextual := true, maxDischargeDepth := 12}) only [tb, h0, h1, hlen, hc, k1, k2, k3, k4, ↓bD0, ↓bD1, ↓bD2, ↓bD3, ↓bD4, ↓bD5, ↓bD6, bU0, bU1, bU2, bU3, bU4, bU5, bU6, bU7, bU8, bU9, bU10, bU11, bU12, bU13, forall_const, List.all_cons, List.all_nil, Option.map_some, List.map_cons, List.map_nil, ne_eq, implies_true, isNx, cs_dec, cs_not, cs_and, cs_or, cs_valid, eq_self, ↓wp_cond, ↓wp_loop, ↓reduceIte, reduceCtorEq, Nat.reduceEqDiff, Nat.reduceLT, Nat.reduceAdd, Nat.reduceMul, Int.ofNat_lt, Int.ofNat_le, exists_const, ae_app, ap_slc, Option.map_none, mkR_none, mkR_some, ar_look, ae_mset, ae_rng, ae_mkmap0, ar_ent, lookV_push, lookV_lowed, msetV_push, msetV_lowed, lt_put, same_put, sto_over, sto_lowed, cs_dead, Option.map_some, beq_self_eq_true, decide_true, cs_true, cs_false]
      exact ⟨by unfold withinV; rw [hg]; rfl, hK⟩
    · have qe := trivial
      simp (config := {contextual := true, maxDischargeDepth := 12}) only [tb, h0, h1, hlen, hc, k1, k2, k3, k4, ↓bD0, ↓bD1, ↓bD2, ↓bD3, ↓bD4, ↓bD5, ↓bD6, bU0, bU1, bU2, bU3, bU4, bU5, bU6, bU7, bU8, bU9, bU10, bU11, bU12, bU13, forall_const, List.all_cons, List.all_nil, Option.map_some, List.map_cons, List.map_nil, ne_eq, implies_true, isNx, cs_dec, cs_not, cs_and, cs_or, cs_valid, eq_self, ↓wp_cond, ↓wp_loop, ↓reduceIte, reduceCtorEq, Nat.reduceEqDiff, Nat.reduceLT, Nat.reduceAdd, Nat.reduceMul, Int.ofNat_lt, Int.ofNat_le, exists_const, ae_app, ap_slc, Option.map_none, mkR_none, mkR_some, ar_look, ae_mset, ae_rng, ae_mkmap0, ar_ent, lookV_push, lookV_lowed, msetV_push, msetV_lowed, lt_put, same_put, sto_over, sto_lowed, cs_dead, Option.map_some, beq_self_eq_true, decide_true, cs_true, cs_false]
      exact ⟨by unfold withinV; rw [hg]; rfl, hK⟩
theorem q_Within (cl : Bool) {v w : AV} {l m : List Nd} {s : St} (h : read ndC s v = some l) (k : read ndC s w = some m) (hl : l.length ≤ 100000) (hm : m.length ≤ 100000) : acall (conLLs withinV) cl [v, w] s = some (withinV l m, s) := conLLs_call withinV_ground h k hl hm cl

end Go.AM
end
/-
  The reference's put and Join. Own work of this project; in part printed by a program of it.
-/
section
set_option linter.unusedVariables false
set_option linter.unusedSimpArgs false
set_option maxRecDepth 100000
set_option maxHeartbeats 8000000
namespace Go.AM
open Go Go.Proofs

/-- Where a node goes: behind all that come before it, from the start on. -/
def posL (x : Nd) : List Nd → Nat
  | [] => 0
  | y :: r => if y.d.before x.d = true then posL x r + 1 else 0
def putL (l : List Nd) (x : Nd) : List Nd := l.take (posL x l) ++ x :: l.drop (posL x l)
theorem posL_le (x : Nd) : ∀ l, posL x l ≤ l.length
  | [] => Nat.le_refl _
  | y :: r => by
    have := posL_le x r
    simp only [posL]
    split <;> simp <;> omega
theorem posL_eq (x : Nd) : ∀ (l : List Nd) (i : Nat), i ≤ l.length → (∀ k y, k < i → l[k]? = some y → y.d.before x.d = true) → (∀ y, l[i]? = some y → y.d.before x.d = false) → posL x l = i
  | [], i, h, _, _ => by simp at h; subst h; rfl
  | y :: r, 0, _, _, h => by
    have := h y rfl
    simp [posL, this]
  | y :: r, i + 1, hi, hp, hs => by
    have h1 := hp 0 y (by omega) rfl
    have := posL_eq x r i (by simpa using hi) (fun k z hk hz => hp (k + 1) z (by omega) (by simpa using hz)) fun z hz => hs z (by simpa using hz)
    simp [posL, h1, this]
/-- Appending to a slice of one element without room. -/
theorem app_cap1 {s t : St} {x : Nd} {v : AV} {m : List Nd} (hK : Keep s t) (hr : read ndC t v = some m) (hm : m.length ≤ lim) : ∃ u t', appV (t.push (.row (Nd.av x) true)) 6 48 (.sl t.next 0 1 (some 1) 6) v = some (u, t') ∧ Keep s t' ∧ read ndC t' u = some (x :: m) ∧ Keep t t' := by
  have hr1 : read ndC (t.push (.row (Nd.av x) true)) v = some m := ((Keep.refl t).push _).read hr
  have e1 : shown (t.push (.row (Nd.av x) true)) 6 v = some (ndC.cells m) := read_shown hr1
  have e2 : lenOf v = some m.length := read_len hr1
  have hg := St.get_push_new t (.row (Nd.av x) true)
  by_cases h0 : m = []
  · subst h0
    refine ⟨.sl t.next 0 1 (some 1) 6, t.push (.row (Nd.av x) true), ?_, hK.push _, ?_, (Keep.refl t).push _⟩
    · simp only [appV, e1, e2, aappend, if_true, hg, List.length_nil]
    · exact read_of (C := ndC) (n := 1) rfl hg (by simp [ndC, Nd.av]) rfl
  · have h0' : m.length ≠ 0 := by simpa using h0
    refine ⟨.sl (t.push (.row (Nd.av x) true)).next 0 (1 + m.length) none 6, (t.push (.row (Nd.av x) true)).push (.row (Nd.av x ++ ndC.cells m) true), ?_, (hK.push _).push _, ?_, ((Keep.refl t).push _).push _⟩
    · simp only [appV, e1, e2, aappend, if_true, hg, if_neg h0']
      rw [if_pos ⟨by simp [Nd.av], by unfold lim at hm; simp [roomBytes]; omega⟩, if_neg (by omega)]
      simp [Nd.av]
    · have hc : Nd.av x ++ ndC.cells m = ndC.cells (x :: m) := rfl
      rw [hc]
      refine read_of (C := ndC) (by simp; omega) (St.get_push_new _ _) ?_ ?_
      · rw [cells_len, List.length_cons, Nat.add_comm 1]; omega
      · have : (1 + m.length) * ndC.sz = (ndC.cells (x :: m)).length := by rw [cells_len, List.length_cons, Nat.add_comm]
        rw [this]
        simp
def capNone : AV → Bool
  | .sl _ _ _ (some _) _ => false
  | _ => true
def pPut : List AV → St → Option (List Nd × Option AV) := fun xs s => match xs with
  | [v, .agg cs] => match read ndC s v, ndC.dec cs with
    | some l, some x => if l.length ≤ 100000 ∧ capNone v = true then some (putL l x, none) else none
    | _, _ => none
  | _ => none
theorem capNone_slc {v : AV} (h : capNone v = true) : ∀ id off n c z, v = .sl id off n (some c) z → n ≤ c := by
  rintro id off n c z rfl
  cases h
theorem pPut_some {xs : List AV} {s : St} {r : List Nd × Option AV} (h : pPut xs s = some r) : ∃ v l x, xs = [v, .agg (Nd.av x)] ∧ read ndC s v = some l ∧ l.length ≤ 100000 ∧ capNone v = true ∧ r = (putL l x, none) := by
  unfold pPut at h
  split at h
  · split at h
    · split at h
      · rename_i v _ _ _ l x hr hx hc
        injection h with h
        have := ndC.enc_dec _ _ hx
        exact ⟨v, l, x, by rw [this]; rfl, hr, hc.1, hc.2, h.symm⟩
      · cases h
    · cases h
  · cases h
theorem s_Put : SoundAt Try.prog 32 (conF ndC pPut) :=
  con_fresh (tb_sound (l := [(28, conDD fBefore)]) (by simpa using s_Before)) mixed Try.func32 k32 c32 fun args s r ee h => by
    obtain ⟨v, l, x, rfl, hr, hls, hcap, hres⟩ := pPut_some h
    obtain ⟨rfl, rfl⟩ := Prod.mk.inj hres
    refine ⟨by simp, by simp [a32], fun env hlen ha => ?_⟩
    have h0 : E env 0 = _ := ha 0 _ rfl
    have h1 : E env 1 = _ := ha 1 _ rfl
    have hlen : elen env = _ := hlen
    simp only [a32] at hlen
    unfold a32
    have hl : l.length ≤ lim := by unfold lim; omega
    have hL := lenV_read hr
    simp (config := {contextual := true, maxDischargeDepth := 12}) only [tb, h0, h1, hlen, hL, ↓bD0, ↓bD1, ↓bD2, ↓bD3, ↓bD4, ↓bD5, ↓bD6, bU0, bU1, bU2, bU3, bU4, bU5, bU6, bU7, bU8, bU9, bU10, bU11, bU12, bU13, forall_const, List.all_cons, List.all_nil, Option.map_some, List.map_cons, List.map_nil, ne_eq, implies_true, isNx, cs_dec, cs_not, cs_and, cs_or, cs_valid, eq_self, ↓wp_cond, ↓wp_loop, ↓reduceIte, reduceCtorEq, Nat.reduceEqDiff, Nat.reduceLT, Nat.reduceAdd, Nat.reduceMul, Int.ofNat_lt, Int.ofNat_le, exists_const, ae_app, ap_slc, Option.map_none, mkR_none, mkR_some, ar_look, ae_mset, ae_rng, ae_mkmap0, ar_ent, lookV_push, lookV_lowed, msetV_push, msetV_lowed, lt_put, same_put, sto_over, sto_lowed, cs_dead, Option.map_some, beq_self_eq_true, decide_true, cs_true, cs_false]
    obtain ⟨I, hI⟩ : ∃ I : Nat → Env → St → Prop, ∀ n e t, I n e t = (t = s.push (.row (Nd.av x) true) ∧ ∃ i : Nat, n + i = l.length ∧ elen e = 35 ∧ E e 0 = v ∧ E e 3 = .ptr s.next 0 ∧ E e 5 = .int .i64 (i : Int) ∧ ∀ k y, k < i → l[k]? = some y → y.d.before x.d = true) := ⟨fun n e t => (t = s.push (.row (Nd.av x) true) ∧ ∃ i : Nat, n + i = l.length ∧ elen e = 35 ∧ E e 0 = v ∧ E e 3 = .ptr s.next 0 ∧ E e 5 = .int .i64 (i : Int) ∧ ∀ k y, k < i → l[k]? = some y → y.d.before x.d = true), fun _ _ _ => rfl⟩
    refine lwp_inv I (n := l.length) ?_ ?_
    · rw [hI]
      exact ⟨rfl, 0, by omega, by simp only [E_pne, E_psame, elen_put, Nat.reduceEqDiff, ne_eq, not_false_eq_true, Nat.reduceLT, hlen], by simp only [E_pne, E_psame, elen_put, Nat.reduceEqDiff, ne_eq, not_false_eq_true, Nat.reduceLT, h0], by simp only [E_pne, E_psame, elen_put, Nat.reduceEqDiff, ne_eq, not_false_eq_true, Nat.reduceLT, hlen], by simp only [E_pne, E_psame, elen_put, Nat.reduceEqDiff, ne_eq, not_false_eq_true, Nat.reduceLT, hlen]; rfl, fun k y hk => by omega⟩
    intro n e t hi
    rw [hI] at hi
    obtain ⟨rfl, i, hn, he, e0, e3, e5, hpre⟩ := hi
    by_cases hlt : i < l.length
    · obtain ⟨y, hy⟩ := getsome hlt
      have hw2 := wrap_add1 (n := i) (by omega)
      obtain ⟨a1, a2, _, _, _, al⟩ := nd_lods hr (.refl _) hy
      have i1 := nd_idx hr hy .i64
      cases hb : y.d.before x.d
      · have hpos : posL x l = i := posL_eq x l i (by omega) hpre (fun z hz => by rw [hy] at hz; cases hz; exact hb)
        obtain ⟨v1, hs1, hr1⟩ := slc_lo hr (k := .i64) (i := (i : Int)) (n := i) rfl (by omega)
        obtain ⟨v2, hs2, hr2⟩ := slc_hi hr (capNone_slc hcap) (k := .i64) (i := (i : Int)) (n := i) rfl (by omega)
        have hs1 : slcV 6 v (some (.int .i64 (i : Int))) none = some v1 := hs1
        have hs2 : slcV 6 v none (some (.int .i64 (i : Int))) = some v2 := hs2
        have hKb := (Keep.refl s).push (.row (Nd.av x) true)
        obtain ⟨u, t1, hap1, hK1, hru, hKt⟩ := app_cap1 (x := x) hKb (hr1 _ hKb) (by simp; omega)
        obtain ⟨u2, t2, hap2, hK2, hO2⟩ := appV_list (.refl t1) (.nil ndC t1 t1) (hr2 _ hK1) 48 (by simp [roomBytes]; omega)
        obtain ⟨u3, t3, hap3, hK3, hO3⟩ := appV_list (hK1.trans hK2) (hO2.from hK1.next) (hK2.read hru) 48 (by simp [roomBytes]; omega)
        have hap1 : appV ((s.push (.row (Nd.av x) true)).push (.row (Nd.av x) true)) 6 48 (.sl (s.push (.row (Nd.av x) true)).next 0 1 (some 1) 6) v1 = some (u, t1) := hap1
        have hap2 : appV t1 6 48 .nils v2 = some (u2, t2) := hap2
        have hap3 : appV t2 6 48 u2 u = some (u3, t3) := hap3
        simp (config := {contextual := true, maxDischargeDepth := 12}) only [tb, q_Before, e0, e3, e5, he, hL, hlt, hw2, a2, al, i1, hb, hs1, hs2, hap1, hap2, hap3, ↓bD0, ↓bD1, ↓bD2, ↓bD3, ↓bD4, ↓bD5, ↓bD6, bU0, bU1, bU2, bU3, bU4, bU5, bU6, bU7, bU8, bU9, bU10, bU11, bU12, bU13, forall_const, List.all_cons, List.all_nil, Option.map_some, List.map_cons, List.map_nil, ne_eq, implies_true, isNx, cs_dec, cs_not, cs_and, cs_or, cs_valid, eq_self, ↓wp_cond, ↓wp_loop, ↓reduceIte, reduceCtorEq, Nat.reduceEqDiff, Nat.reduceLT, Nat.reduceAdd, Nat.reduceMul, Int.ofNat_lt, Int.ofNat_le, exists_const, ae_app, ap_slc, Option.map_none, mkR_none, mkR_some, ar_look, ae_mset, ae_rng, ae_mkmap0, ar_ent, lookV_push, lookV_lowed, msetV_push, msetV_lowed, lt_put, same_put, sto_over, sto_lowed, cs_dead, Option.map_some, beq_self_eq_true, decide_true, cs_true, cs_false]
        exact ⟨hK3, _, rfl, by simpa [putL, hpos] using hO3⟩
      · skip
        simp (config := {contextual := true, maxDischargeDepth := 12}) only [tb, q_Before, e0, e3, e5, he, hL, hlt, hw2, a2, al, i1, hb, ↓bD0, ↓bD1, ↓bD2, ↓bD3, ↓bD4, ↓bD5, ↓bD6, bU0, bU1, bU2, bU3, bU4, bU5, bU6, bU7, bU8, bU9, bU10, bU11, bU12, bU13, forall_const, List.all_cons, List.all_nil, Option.map_some, List.map_cons, List.map_nil, ne_eq, implies_true, isNx, cs_dec, cs_not, cs_and, cs_or, cs_valid, eq_self, ↓wp_cond, ↓wp_loop, ↓reduceIte, reduceCtorEq, Nat.reduceEqDiff, Nat.reduceLT, Nat.reduceAdd, Nat.reduceMul, Int.ofNat_lt, Int.ofNat_le, exists_const, ae_app, ap_slc, Option.map_none, mkR_none, mkR_some, ar_look, ae_mset, ae_rng, ae_mkmap0, ar_ent, lookV_push, lookV_lowed, msetV_push, msetV_lowed, lt_put, same_put, sto_over, sto_lowed, cs_dead, Option.map_some, beq_self_eq_true, decide_true, cs_true, cs_false]
        refine ⟨n - 1, by omega, ?_⟩
        rw [hI]
        refine ⟨rfl, i + 1, by omega, by simp only [E_pne, E_psame, elen_put, Nat.reduceEqDiff, ne_eq, not_false_eq_true, Nat.reduceLT, he], by simp only [E_pne, E_psame, elen_put, Nat.reduceEqDiff, ne_eq, not_false_eq_true, Nat.reduceLT, e0], by simp only [E_pne, E_psame, elen_put, Nat.reduceEqDiff, ne_eq, not_false_eq_true, Nat.reduceLT, e3], by simp only [E_pne, E_psame, elen_put, Nat.reduceEqDiff, ne_eq, not_false_eq_true, Nat.reduceLT, he], fun k z hk hz => ?_⟩
        by_cases hki : k = i
        · subst hki
          rw [hy] at hz; cases hz
          exact hb
        · exact hpre k z (by omega) hz
    · have hpos : posL x l = i := posL_eq x l i (by omega) hpre (fun z hz => by have := getlt hz; omega)
      obtain ⟨v1, hs1, hr1⟩ := slc_lo hr (k := .i64) (i := (i : Int)) (n := i) rfl (by omega)
      obtain ⟨v2, hs2, hr2⟩ := slc_hi hr (capNone_slc hcap) (k := .i64) (i := (i : Int)) (n := i) rfl (by omega)
      have hs1 : slcV 6 v (some (.int .i64 (i : Int))) none = some v1 := hs1
      have hs2 : slcV 6 v none (some (.int .i64 (i : Int))) = some v2 := hs2
      have hKb := (Keep.refl s).push (.row (Nd.av x) true)
      obtain ⟨u, t1, hap1, hK1, hru, hKt⟩ := app_cap1 (x := x) hKb (hr1 _ hKb) (by simp; omega)
      obtain ⟨u2, t2, hap2, hK2, hO2⟩ := appV_list (.refl t1) (.nil ndC t1 t1) (hr2 _ hK1) 48 (by simp [roomBytes]; omega)
      obtain ⟨u3, t3, hap3, hK3, hO3⟩ := appV_list (hK1.trans hK2) (hO2.from hK1.next) (hK2.read hru) 48 (by simp [roomBytes]; omega)
      have hap1 : appV ((s.push (.row (Nd.av x) true)).push (.row (Nd.av x) true)) 6 48 (.sl (s.push (.row (Nd.av x) true)).next 0 1 (some 1) 6) v1 = some (u, t1) := hap1
      have hap2 : appV t1 6 48 .nils v2 = some (u2, t2) := hap2
      have hap3 : appV t2 6 48 u2 u = some (u3, t3) := hap3
      simp (config := {contextual := true, maxDischargeDepth := 12}) only [tb, q_Before, e0, e3, e5, he, hL, hlt, hs1, hs2, hap1, hap2, hap3, ↓bD0, ↓bD1, ↓bD2, ↓bD3, ↓bD4, ↓bD5, ↓bD6, bU0, bU1, bU2, bU3, bU4, bU5, bU6, bU7, bU8, bU9, bU10, bU11, bU12, bU13, forall_const, List.all_cons, List.all_nil, Option.map_some, List.map_cons, List.map_nil, ne_eq, implies_true, isNx, cs_dec, cs_not, cs_and, cs_or, cs_valid, eq_self, ↓wp_cond, ↓wp_loop, ↓reduceIte, reduceCtorEq, Nat.reduceEqDiff, Nat.reduceLT, Nat.reduceAdd, Nat.reduceMul, Int.ofNat_lt, Int.ofNat_le, exists_const, ae_app, ap_slc, Option.map_none, mkR_none, mkR_some, ar_look, ae_mset, ae_rng, ae_mkmap0, ar_ent, lookV_push, lookV_lowed, msetV_push, msetV_lowed, lt_put, same_put, sto_over, sto_lowed, cs_dead, Option.map_some, beq_self_eq_true, decide_true, cs_true, cs_false]
      exact ⟨hK3, _, rfl, by simpa [putL, hpos] using hO3⟩

/-! ### The reference's Join -/
def rmerge (x y : Nd) : Nd := if x.clash y = true then nd0 else x.merge y
def jstep (out : List Nd) (y : Nd) : List Nd := match lookN out y.d with
  | some (k, x) => out.set k (rmerge x y)
  | none => putL out y
def refJ (l m : List Nd) : List Nd := m.foldl jstep l
theorem putL_len (l : List Nd) (x : Nd) : (putL l x).length = l.length + 1 := by
  have := posL_le x l
  simp [putL]
  omega
theorem jstep_len (l : List Nd) (x : Nd) : (jstep l x).length ≤ l.length + 1 := by
  unfold jstep
  split
  · simp
  · rw [putL_len]; exact Nat.le_refl _
theorem cells_take (l : List Nd) (k : Nat) (hk : k ≤ l.length) : (ndC.cells l).take (k * 6) = ndC.cells (l.take k) := by
  conv => lhs; rw [← List.take_append_drop k l, cells_append]
  have : k * 6 = (ndC.cells (l.take k)).length := by rw [cells_len, List.length_take, Nat.min_eq_left (by omega)]; rfl
  rw [this, List.take_left]
theorem cells_drop (l : List Nd) (k : Nat) (hk : k ≤ l.length) : (ndC.cells l).drop (k * 6) = ndC.cells (l.drop k) := by
  conv => lhs; rw [← List.take_append_drop k l, cells_append]
  have : k * 6 = (ndC.cells (l.take k)).length := by rw [cells_len, List.length_take, Nat.min_eq_left (by omega)]; rfl
  rw [this, List.drop_left]
theorem cells_setAt {l : List Nd} {k : Nat} (hk : k < l.length) (z : Nd) : setAt (ndC.cells l) (k * 6) (Nd.av z) = ndC.cells (l.set k z) := by
  have e : k * 6 + (Nd.av z).length = (k + 1) * 6 := by
    have : (Nd.av z).length = 6 := rfl
    omega
  rw [setAt, e, cells_take l k (by omega), cells_drop l (k + 1) (by omega), List.set_eq_take_append_cons_drop, if_pos hk, cells_append, cells_cons, List.append_assoc]
  rfl
theorem own_set {s t : St} {v : AV} {out : List Nd} (hK : Keep s t) (hO : Own ndC s t v out) {k : Nat} (hk : k < out.length) (z : Nd) : ∃ t', sto t 6 (.ptr (bid v) (boff v + k * 6)) (.agg (Nd.av z)) = some (.und, t') ∧ Keep s t' ∧ Own ndC s t' v (out.set k z) := by
  rcases hO with ⟨rfl, rfl⟩ | ⟨j, rfl, h0, h1, h⟩
  · simp at hk
  · refine ⟨t.put j (.row (ndC.cells (out.set k z)) true), ?_, hK.put _ h1 (St.get_lt h), .inr ⟨j, by simp, by intro e; exact h0 (by have := congrArg List.length e; simpa using this), h1, St.get_put_same h⟩⟩
    have hcl : (ndC.cells out).length = out.length * 6 := cells_len ndC out
    have h6 : (Nd.av z).length = 6 := rfl
    have ho : (Nd.av z).all AV.one = true := rfl
    simp only [bid, boff, Nat.zero_add, sto, h, AV.cells, h6, ho, true_and]
    rw [if_pos (by omega), cells_setAt hk]
theorem own_capNone {s t : St} {v : AV} {out : List Nd} (hO : Own ndC s t v out) : capNone v = true := by
  rcases hO with ⟨rfl, rfl⟩ | ⟨j, rfl, _⟩ <;> rfl
def gRJoin (l m : List Nd) : Option (List Nd × Option AV) := if l.length ≤ 10000 ∧ m.length ≤ 10000 then some (refJ l m, none) else none
theorem s_RJoin : SoundAt Try.prog 16 (conF ndC (pLL ndC ndC gRJoin)) :=
  con_fresh (tb_sound (l := [(22, conLD ndC fFind), (29, conNN fRefMerge), (32, conF ndC pPut)]) (by simpa using ⟨s_Find, s_RefMerge, s_Put⟩)) mixed Try.func16 k16 c16 fun args s r ee h => by
    obtain ⟨v, w, l, m, rfl, hr, hw, hl, hm, hp⟩ := pLL_some h
    unfold gRJoin at hp
    split at hp
    rotate_left
    · cases hp
    rename_i hs
    injection hp with hp
    obtain ⟨rfl, rfl⟩ := Prod.mk.inj hp
    refine ⟨by simp, by simp [a16], fun env hlen ha => ?_⟩
    have h0 : E env 0 = _ := ha 0 _ rfl
    have h1 : E env 1 = _ := ha 1 _ rfl
    have hlen : elen env = _ := hlen
    simp only [a16] at hlen
    unfold a16
    have hL := lenV_read hr
    have hM := lenV_read hw
    obtain ⟨u0, t0, hap0, hK0, hO0⟩ := appV_list (.refl s) (.nil ndC s s) hr 48 (by unfold lim at hl; simp [roomBytes]; omega)
    have hap0 : appV s 6 48 .nils v = _ := hap0
    simp (config := {contextual := true, maxDischargeDepth := 12}) only [tb, h0, h1, hlen, hL, hap0, ↓bD0, ↓bD1, ↓bD2, ↓bD3, ↓bD4, ↓bD5, ↓bD6, bU0, bU1, bU2, bU3, bU4, bU5, bU6, bU7, bU8, bU9, bU10, bU11, bU12, bU13, forall_const, List.all_cons, List.all_nil, Option.map_some, List.map_cons, List.map_nil, ne_eq, implies_true, isNx, cs_dec, cs_not, cs_and, cs_or, cs_valid, eq_self, ↓wp_cond, ↓wp_loop, ↓reduceIte, reduceCtorEq, Nat.reduceEqDiff, Nat.reduceLT, Nat.reduceAdd, Nat.reduceMul, Int.ofNat_lt, Int.ofNat_le, exists_const, ae_app, ap_slc, Option.map_none, mkR_none, mkR_some, ar_look, ae_mset, ae_rng, ae_mkmap0, ar_ent, lookV_push, lookV_lowed, msetV_push, msetV_lowed, lt_put, same_put, sto_over, sto_lowed, cs_dead, Option.map_some, beq_self_eq_true, decide_true, cs_true, cs_false]
    obtain ⟨I, hI⟩ : ∃ I : Nat → Env → St → Prop, ∀ n e t, I n e t = (Keep s t ∧ ∃ (i : Nat) (out : List Nd), n + i = m.length ∧ elen e = 47 ∧ E e 1 = w ∧ E e 6 = .int .i64 (i : Int) ∧ Own ndC s t (E e 5) out ∧ out.length ≤ l.length + i ∧ refJ out (m.drop i) = refJ l m) := ⟨fun n e t => (Keep s t ∧ ∃ (i : Nat) (out : List Nd), n + i = m.length ∧ elen e = 47 ∧ E e 1 = w ∧ E e 6 = .int .i64 (i : Int) ∧ Own ndC s t (E e 5) out ∧ out.length ≤ l.length + i ∧ refJ out (m.drop i) = refJ l m), fun _ _ _ => rfl⟩
    refine lwp_inv I (n := m.length) ?_ ?_
    · rw [hI]
      exact ⟨hK0, 0, l, by omega, by simp only [E_pne, E_psame, elen_put, Nat.reduceEqDiff, ne_eq, not_false_eq_true, Nat.reduceLT, hlen], by simp only [E_pne, E_psame, elen_put, Nat.reduceEqDiff, ne_eq, not_false_eq_true, Nat.reduceLT, h1], by simp only [E_pne, E_psame, elen_put, Nat.reduceEqDiff, ne_eq, not_false_eq_true, Nat.reduceLT, hlen]; rfl, by simp only [E_pne, E_psame, elen_put, Nat.reduceEqDiff, ne_eq, not_false_eq_true, Nat.reduceLT, hlen]; simpa using hO0, by omega, rfl⟩
    intro n e t hi
    rw [hI] at hi
    obtain ⟨hK, i, out, hn, he, e1, e6, hO, hol, hrj⟩ := hi
    by_cases hlt : i < m.length
    · obtain ⟨y, hy⟩ := getsome hlt
      have hw2 := wrap_add1 (n := i) (by omega)
      obtain ⟨a1, a2, _, _, _, al⟩ := nd_lods hw hK hy
      have i1 := nd_idx hw hy .i64
      have hdr : m.drop i = y :: m.drop (i + 1) := by
        rw [List.drop_eq_getElem_cons hlt]
        congr 1
        exact (List.getElem?_eq_some_iff.1 hy).2
      rw [hdr] at hrj
      have hrj : refJ (jstep out y) (m.drop (i + 1)) = refJ l m := hrj
      have hro := hO.read
      have qf := q_Find false hro (by unfold lim; omega) y.d
      rw [findL_look] at qf
      cases hf : lookN out y.d with
      | none =>
        rw [hf] at qf
        simp only at qf
        have hz : ((0 : Int) ≤ -1) = False := by decide
        have hj : jstep out y = putL out y := by unfold jstep; rw [hf]
        rw [hj] at hrj
        obtain ⟨u, t1, hc, hK1, hO1⟩ := acall_fresh (D := ndC) (p := pPut) (xs := [E e 5, .agg (Nd.av y)]) (s := t) (l := putL out y) (e := none) (by
          have e1 : read ndC { heap := t.heap, next := t.next, low := t.next } (E e 5) = some out := hro
          have e2 : ndC.dec (Nd.av y) = some y := rfl
          simp only [pPut, e1, e2, own_capNone hO]
          rw [if_pos ⟨by omega, trivial⟩]) (by simp)
        rw [mkR_none] at hc
        simp (config := {contextual := true, maxDischargeDepth := 12}) only [tb, e1, e6, he, hL, hM, hlt, hw2, a1, a2, al, i1, qf, hz, hc, ↓bD0, ↓bD1, ↓bD2, ↓bD3, ↓bD4, ↓bD5, ↓bD6, bU0, bU1, bU2, bU3, bU4, bU5, bU6, bU7, bU8, bU9, bU10, bU11, bU12, bU13, forall_const, List.all_cons, List.all_nil, Option.map_some, List.map_cons, List.map_nil, ne_eq, implies_true, isNx, cs_dec, cs_not, cs_and, cs_or, cs_valid, eq_self, ↓wp_cond, ↓wp_loop, ↓reduceIte, reduceCtorEq, Nat.reduceEqDiff, Nat.reduceLT, Nat.reduceAdd, Nat.reduceMul, Int.ofNat_lt, Int.ofNat_le, exists_const, ae_app, ap_slc, Option.map_none, mkR_none, mkR_some, ar_look, ae_mset, ae_rng, ae_mkmap0, ar_ent, lookV_push, lookV_lowed, msetV_push, msetV_lowed, lt_put, same_put, sto_over, sto_lowed, cs_dead, Option.map_some, beq_self_eq_true, decide_true, cs_true, cs_false]
        refine ⟨n - 1, by omega, ?_⟩
        rw [hI]
        exact ⟨hK.trans hK1, i + 1, putL out y, by omega, by simp only [E_pne, E_psame, elen_put, Nat.reduceEqDiff, ne_eq, not_false_eq_true, Nat.reduceLT, he], by simp only [E_pne, E_psame, elen_put, Nat.reduceEqDiff, ne_eq, not_false_eq_true, Nat.reduceLT, e1], by simp only [E_pne, E_psame, elen_put, Nat.reduceEqDiff, ne_eq, not_false_eq_true, Nat.reduceLT, he], by simp only [E_pne, E_psame, elen_put, Nat.reduceEqDiff, ne_eq, not_false_eq_true, Nat.reduceLT, he]; exact hO1.from hK.next, by rw [putL_len]; omega, hrj⟩
      | some p =>
        obtain ⟨k, x⟩ := p
        obtain ⟨hx, hxd⟩ := lookN_some hf
        rw [hf] at qf
        simp only at qf
        have hz : ((0 : Int) ≤ (k : Int)) = True := eq_true (by omega)
        obtain ⟨b1, _, _, _, _, bl⟩ := nd_lods hro (.refl _) hx
        have i2 := nd_idx hro hx .i64
        have hj : jstep out y = out.set k (rmerge x y) := by unfold jstep; rw [hf]
        rw [hj] at hrj
        obtain ⟨b, hMg⟩ : ∃ b, refMergeV x y = .tup [.agg (Nd.av (rmerge x y)), .bool b] := by
          unfold refMergeV rmerge
          split
          · exact ⟨_, rfl⟩
          · exact ⟨_, rfl⟩
        obtain ⟨t1, hst, hK1, hO1⟩ := own_set hK hO (getlt hx) (rmerge x y)
        simp (config := {contextual := true, maxDischargeDepth := 12}) only [tb, q_RefMerge, e1, e6, he, hL, hM, hlt, hw2, a1, a2, al, i1, qf, hz, b1, bl, i2, hMg, hst, ↓bD0, ↓bD1, ↓bD2, ↓bD3, ↓bD4, ↓bD5, ↓bD6, bU0, bU1, bU2, bU3, bU4, bU5, bU6, bU7, bU8, bU9, bU10, bU11, bU12, bU13, forall_const, List.all_cons, List.all_nil, Option.map_some, List.map_cons, List.map_nil, ne_eq, implies_true, isNx, cs_dec, cs_not, cs_and, cs_or, cs_valid, eq_self, ↓wp_cond, ↓wp_loop, ↓reduceIte, reduceCtorEq, Nat.reduceEqDiff, Nat.reduceLT, Nat.reduceAdd, Nat.reduceMul, Int.ofNat_lt, Int.ofNat_le, exists_const, ae_app, ap_slc, Option.map_none, mkR_none, mkR_some, ar_look, ae_mset, ae_rng, ae_mkmap0, ar_ent, lookV_push, lookV_lowed, msetV_push, msetV_lowed, lt_put, same_put, sto_over, sto_lowed, cs_dead, Option.map_some, beq_self_eq_true, decide_true, cs_true, cs_false]
        refine ⟨n - 1, by omega, ?_⟩
        rw [hI]
        exact ⟨hK1, i + 1, out.set k (rmerge x y), by omega, by simp only [E_pne, E_psame, elen_put, Nat.reduceEqDiff, ne_eq, not_false_eq_true, Nat.reduceLT, he], by simp only [E_pne, E_psame, elen_put, Nat.reduceEqDiff, ne_eq, not_false_eq_true, Nat.reduceLT, e1], by simp only [E_pne, E_psame, elen_put, Nat.reduceEqDiff, ne_eq, not_false_eq_true, Nat.reduceLT, he], by simp only [E_pne, E_psame, elen_put, Nat.reduceEqDiff, ne_eq, not_false_eq_true, Nat.reduceLT, he]; exact hO1, by simp; omega, hrj⟩
    · obtain rfl : i = m.length := by omega
      rw [List.drop_length] at hrj
      have hrj : out = refJ l m := hrj
      simp (config := {contextual := true, maxDischargeDepth := 12}) only [tb, e1, e6, he, hL, hM, hlt, ↓bD0, ↓bD1, ↓bD2, ↓bD3, ↓bD4, ↓bD5, ↓bD6, bU0, bU1, bU2, bU3, bU4, bU5, bU6, bU7, bU8, bU9, bU10, bU11, bU12, bU13, forall_const, List.all_cons, List.all_nil, Option.map_some, List.map_cons, List.map_nil, ne_eq, implies_true, isNx, cs_dec, cs_not, cs_and, cs_or, cs_valid, eq_self, ↓wp_cond, ↓wp_loop, ↓reduceIte, reduceCtorEq, Nat.reduceEqDiff, Nat.reduceLT, Nat.reduceAdd, Nat.reduceMul, Int.ofNat_lt, Int.ofNat_le, exists_const, ae_app, ap_slc, Option.map_none, mkR_none, mkR_some, ar_look, ae_mset, ae_rng, ae_mkmap0, ar_ent, lookV_push, lookV_lowed, msetV_push, msetV_lowed, lt_put, same_put, sto_over, sto_lowed, cs_dead, Option.map_some, beq_self_eq_true, decide_true, cs_true, cs_false]
      exact ⟨hK, _, rfl, by rw [← hrj]; exact hO⟩

end Go.AM
end
/-
  Plain laws: the program's join is the reference's. Own work of this project.
-/
section
set_option linter.unusedVariables false
set_option linter.unusedSimpArgs false
namespace Go.AM
open Go Go.Proofs

theorem chain_pairwise : ∀ {l : List Nd}, chain ndLt l = true → l.Pairwise ltP
  | [], _ => .nil
  | [x], _ => by simp
  | x :: y :: r, h => by
    rw [chain, Bool.and_eq_true] at h
    have ih := chain_pairwise (l := y :: r) h.2
    have hxy : ltP x y := h.1
    rw [List.pairwise_cons]
    refine ⟨fun z hz => ?_, ih⟩
    rcases List.mem_cons.1 hz with rfl | hz
    · exact hxy
    · exact ltP_trans hxy ((List.pairwise_cons.1 ih).1 z hz)
theorem pairwise_chain : ∀ {l : List Nd}, l.Pairwise ltP → chain ndLt l = true
  | [], _ => rfl
  | [x], _ => rfl
  | x :: y :: r, h => by
    rw [List.pairwise_cons] at h
    rw [chain, Bool.and_eq_true]
    exact ⟨h.1 y (by simp), pairwise_chain h.2⟩
theorem ltP_ne {x y : Nd} (h : ltP x y) : x.d ≠ y.d := by
  intro e
  unfold ltP at h
  rw [e, before_irr] at h
  cases h
theorem look_cons_ne {x : Nd} {r : List Nd} {d : Dot} (h : x.d ≠ d) : lookN (x :: r) d = (lookN r d).map fun p => (p.1 + 1, p.2) := by
  simp [lookN, h]
theorem look_cons_eq {x : Nd} {r : List Nd} {d : Dot} (h : x.d = d) : lookN (x :: r) d = some (0, x) := by
  simp [lookN, h]
theorem look_above {l : List Nd} {x : Nd} (h : ∀ y ∈ l, ltP x y) : lookN l x.d = none := by
  induction l with
  | nil => rfl
  | cons y r ih =>
    rw [look_cons_ne (Ne.symm (ltP_ne (h y (by simp)))), ih fun z hz => h z (by simp [hz])]
    rfl
theorem jstep_above {x : Nd} {a : List Nd} {y : Nd} (h : ltP x y) : jstep (x :: a) y = x :: jstep a y := by
  unfold jstep
  rw [look_cons_ne (ltP_ne h)]
  cases hl : lookN a y.d with
  | none =>
    have hb : x.d.before y.d = true := h
    simp [putL, posL, hb]
  | some p => simp
theorem refJ_above {x : Nd} : ∀ {m a : List Nd}, (∀ y ∈ m, ltP x y) → refJ (x :: a) m = x :: refJ a m
  | [], a, _ => rfl
  | y :: r, a, h => by
    show refJ (jstep (x :: a) y) r = x :: refJ (jstep a y) r
    rw [jstep_above (h y (by simp)), refJ_above fun z hz => h z (by simp [hz])]
theorem jstep_below {x y : Nd} {a : List Nd} (h : ∀ z ∈ x :: a, ltP y z) : jstep (x :: a) y = y :: x :: a := by
  have hx := h x (by simp)
  have hb : x.d.before y.d = false := by
    cases hh : x.d.before y.d
    · rfl
    · exact (ltP_asymm hx hh).elim
  unfold jstep
  rw [look_above h]
  simp [putL, posL, hb]
theorem refJ_nil : ∀ {m : List Nd}, m.Pairwise ltP → refJ [] m = m
  | [], _ => rfl
  | y :: r, h => by
    rw [List.pairwise_cons] at h
    show refJ (jstep [] y) r = y :: r
    have : jstep [] y = [y] := rfl
    rw [this, refJ_above h.1, refJ_nil h.2]
theorem agree_skip {a b : List Nd} {y : Nd} (h : ∀ z ∈ a, ltP y z) : agreeL a (y :: b) = agreeL a b := by
  induction a with
  | nil => rfl
  | cons x r ih =>
    rw [agreeL_cons, agreeL_cons, ih fun z hz => h z (by simp [hz]), look_cons_ne (ltP_ne (h x (by simp)))]
    cases lookN b x.d <;> rfl
theorem agree_nil : ∀ (a : List Nd), agreeL a [] = true
  | [] => rfl
  | x :: r => by rw [agreeL_cons, agree_nil r]; rfl
theorem join_ref : ∀ (l m : List Nd), l.Pairwise ltP → m.Pairwise ltP → joinL l m = if agreeL l m = true then some (refJ l m) else none := by
  intro l m
  induction l, m using joinL.induct with
  | case1 b => intro _ h; simp [joinL, agreeL, refJ_nil h]
  | case2 x a => intro _ _; simp [joinL, agree_nil, refJ]
  | case3 x a y b h1 ih =>
    intro hl hm
    rw [List.pairwise_cons] at hl
    have hall : ∀ z ∈ y :: b, ltP x z := by
      intro z hz
      rcases List.mem_cons.1 hz with rfl | hz
      · exact h1
      · exact ltP_trans h1 ((List.pairwise_cons.1 hm).1 z hz)
    rw [joinL, if_pos h1, ih hl.2 hm, agreeL_cons, look_above hall, refJ_above hall]
    simp only [Bool.true_and]
    split <;> rfl
  | case4 x a y b h1 h2 ih =>
    intro hl hm
    have hm' := List.pairwise_cons.1 hm
    have hl' := List.pairwise_cons.1 hl
    have hall : ∀ z ∈ x :: a, ltP y z := by
      intro z hz
      rcases List.mem_cons.1 hz with rfl | hz
      · exact h2
      · exact ltP_trans h2 (hl'.1 z hz)
    rw [joinL, if_neg h1, if_pos h2, ih hl hm'.2, agree_skip hall]
    have : refJ (x :: a) (y :: b) = y :: refJ (x :: a) b := by
      show refJ (jstep (x :: a) y) b = _
      rw [jstep_below hall, refJ_above hm'.1]
    rw [this]
    split <;> rfl
  | case5 x a y b h1 h2 h3 =>
    intro hl hm
    have hd : x.d = y.d := by
      rcases dcmp_cases x.d y.d with ⟨_, q, _⟩ | ⟨_, _, q⟩ | ⟨_, _, _, q⟩
      · exact absurd q h1
      · exact absurd q h2
      · exact q
    rw [joinL, if_neg h1, if_neg h2, if_pos h3, agreeL_cons, look_cons_eq hd.symm]
    simp [h3]
  | case6 x a y b h1 h2 h3 ih =>
    intro hl hm
    have hm' := List.pairwise_cons.1 hm
    have hl' := List.pairwise_cons.1 hl
    have hd : x.d = y.d := by
      rcases dcmp_cases x.d y.d with ⟨_, q, _⟩ | ⟨_, _, q⟩ | ⟨_, _, _, q⟩
      · exact absurd q h1
      · exact absurd q h2
      · exact q
    have hya : ∀ z ∈ a, ltP y z := fun z hz => by
      have := hl'.1 z hz
      unfold ltP at this ⊢
      rw [← hd]
      exact this
    have hmb : ∀ z ∈ b, ltP (x.merge y) z := fun z hz => by
      have := hm'.1 z hz
      unfold ltP at this ⊢
      rw [merge_d hd]
      exact this
    rw [joinL, if_neg h1, if_neg h2, if_neg h3, ih hl'.2 hm'.2, agreeL_cons, look_cons_eq hd.symm, agree_skip hya]
    have hr : rmerge x y = x.merge y := by unfold rmerge; rw [if_neg h3]
    have hj : jstep (x :: a) y = x.merge y :: a := by
      unfold jstep
      rw [look_cons_eq hd]
      simp [hr]
    have : refJ (x :: a) (y :: b) = x.merge y :: refJ a b := by
      show refJ (jstep (x :: a) y) b = _
      rw [hj, refJ_above hmb]
    rw [this]
    have h3' : x.clash y = false := by simpa using h3
    simp only [h3', Bool.not_false, Bool.true_and]
    split <;> rfl
theorem store_sorted {l : List Nd} (h : storeL l = true) : l.Pairwise ltP := by
  simp only [storeL, Bool.and_eq_true] at h
  exact chain_pairwise h.2
theorem store_join {l m : List Nd} (hl : storeL l = true) (hm : storeL m = true) : joinL l m = if agreeL l m = true then some (refJ l m) else none := join_ref l m (store_sorted hl) (store_sorted hm)
end Go.AM
end
/-
  Plain laws of the join: by what stands at each dot. Own work of this project.
-/
section
set_option linter.unusedVariables false
set_option linter.unusedSimpArgs false
namespace Go.AM
open Go Go.Proofs

/-- What stands at a dot. -/
def getN (l : List Nd) (d : Dot) : Option Nd := (lookN l d).map (·.2)
theorem getN_nil (d : Dot) : getN [] d = none := rfl
theorem getN_cons (x : Nd) (r : List Nd) (d : Dot) : getN (x :: r) d = if x.d = d then some x else getN r d := by
  unfold getN
  by_cases h : x.d = d
  · rw [look_cons_eq h, if_pos h]; rfl
  · rw [look_cons_ne h, if_neg h]
    cases lookN r d <;> rfl
theorem getN_some : ∀ {l : List Nd} {d : Dot} {x : Nd}, getN l d = some x → x ∈ l ∧ x.d = d
  | [], d, x, h => by simp [getN_nil] at h
  | y :: r, d, x, h => by
    rw [getN_cons] at h
    split at h
    · injection h with h
      subst h
      exact ⟨by simp, by assumption⟩
    · obtain ⟨h1, h2⟩ := getN_some h
      exact ⟨by simp [h1], h2⟩
theorem getN_mem : ∀ {l : List Nd} {x : Nd}, l.Pairwise ltP → x ∈ l → getN l x.d = some x
  | [], x, _, h => by simp at h
  | y :: r, x, hp, h => by
    rw [List.pairwise_cons] at hp
    rw [getN_cons]
    rcases List.mem_cons.1 h with rfl | h
    · rw [if_pos rfl]
    · rw [if_neg (ltP_ne (hp.1 x h)), getN_mem hp.2 h]
theorem getN_none {l : List Nd} {d : Dot} (h : getN l d = none) : ∀ x ∈ l, x.d ≠ d := by
  unfold getN at h
  exact lookN_none (by simpa using h)
theorem getN_above {l : List Nd} {x : Nd} (h : ∀ y ∈ l, ltP x y) : getN l x.d = none := by
  unfold getN
  rw [look_above h]
  rfl
theorem nodup_of {l : List Nd} (h : l.Pairwise ltP) : l.Nodup := h.imp fun {a b} hab e => by
  subst e
  exact ltP_asymm hab hab
theorem getN_ext {l m : List Nd} (hl : l.Pairwise ltP) (hm : m.Pairwise ltP) (h : ∀ d, getN l d = getN m d) : l = m := by
  refine sorted_unique l m ((List.perm_ext_iff_of_nodup (nodup_of hl) (nodup_of hm)).2 fun x => ⟨fun hx => ?_, fun hx => ?_⟩) hl hm
  · have := getN_mem hl hx
    rw [h] at this
    exact (getN_some this).1
  · have := getN_mem hm hx
    rw [← h] at this
    exact (getN_some this).1
def comb : Option Nd → Option Nd → Option Nd
  | some x, some y => some (x.merge y)
  | some x, none => some x
  | none, y => y
theorem comb_dot {p q : Option Nd} {d : Dot} {y : Nd} (h : comb p q = some y) (hp : ∀ u, p = some u → u.d = d) (hq : ∀ u, q = some u → u.d = d) : y.d = d ∧ (p.isSome = true ∨ q.isSome = true) := by
  cases p with
  | none =>
    cases q with
    | none => cases h
    | some v => simp [comb] at h; subst h; exact ⟨hq v rfl, .inr rfl⟩
  | some u =>
    cases q with
    | none => simp [comb] at h; subst h; exact ⟨hp u rfl, .inl rfl⟩
    | some v =>
      simp [comb] at h
      subst h
      exact ⟨by rw [merge_d ((hp u rfl).trans (hq v rfl).symm)]; exact hq v rfl, .inl rfl⟩
theorem joinL_spec : ∀ (l m j : List Nd), l.Pairwise ltP → m.Pairwise ltP → joinL l m = some j → j.Pairwise ltP ∧ ∀ d, getN j d = comb (getN l d) (getN m d) := by
  intro l m
  have low : ∀ {z : Nd} {a b j : List Nd}, j.Pairwise ltP → (∀ d, getN j d = comb (getN a d) (getN b d)) → (∀ y ∈ a, ltP z y) → (∀ y ∈ b, ltP z y) → ∀ y ∈ j, ltP z y := by
    intro z a b j hj hg ha hb y hy
    have h1 := getN_mem hj hy
    rw [hg] at h1
    obtain ⟨_, h2⟩ := comb_dot h1 (fun u hu => (getN_some hu).2) fun u hu => (getN_some hu).2
    have key : ∀ {c : List Nd}, (getN c y.d).isSome = true → (∀ u ∈ c, ltP z u) → ltP z y := by
      intro c hc hz
      obtain ⟨u, hu⟩ := Option.isSome_iff_exists.1 hc
      obtain ⟨u1, u2⟩ := getN_some hu
      have := hz u u1
      unfold ltP at this ⊢
      rw [← u2]
      exact this
    rcases h2 with h2 | h2
    · exact key h2 ha
    · exact key h2 hb
  induction l, m using joinL.induct with
  | case1 b =>
    intro j _ hm h
    simp [joinL] at h
    subst h
    exact ⟨hm, fun d => by rw [getN_nil]; rfl⟩
  | case2 x a =>
    intro j hl _ h
    simp [joinL] at h
    subst h
    refine ⟨hl, fun d => ?_⟩
    rw [getN_nil]
    cases getN (x :: a) d <;> rfl
  | case3 x a y b h1 ih =>
    intro j hl hm h
    have hl' := List.pairwise_cons.1 hl
    have hall : ∀ z ∈ y :: b, ltP x z := by
      intro z hz
      rcases List.mem_cons.1 hz with rfl | hz
      · exact h1
      · exact ltP_trans h1 ((List.pairwise_cons.1 hm).1 z hz)
    rw [joinL, if_pos h1, Option.map_eq_some_iff] at h
    obtain ⟨j', hj, rfl⟩ := h
    obtain ⟨s1, s2⟩ := ih j' hl'.2 hm hj
    refine ⟨List.pairwise_cons.2 ⟨low s1 s2 hl'.1 hall, s1⟩, fun d => ?_⟩
    rw [getN_cons, getN_cons x a]
    by_cases hd : x.d = d
    · rw [if_pos hd, if_pos hd, ← hd, getN_above hall]; rfl
    · rw [if_neg hd, if_neg hd, s2]
  | case4 x a y b h1 h2 ih =>
    intro j hl hm h
    have hl' := List.pairwise_cons.1 hl
    have hm' := List.pairwise_cons.1 hm
    have hall : ∀ z ∈ x :: a, ltP y z := by
      intro z hz
      rcases List.mem_cons.1 hz with rfl | hz
      · exact h2
      · exact ltP_trans h2 (hl'.1 z hz)
    rw [joinL, if_neg h1, if_pos h2, Option.map_eq_some_iff] at h
    obtain ⟨j', hj, rfl⟩ := h
    obtain ⟨s1, s2⟩ := ih j' hl hm'.2 hj
    refine ⟨List.pairwise_cons.2 ⟨low s1 s2 hall hm'.1, s1⟩, fun d => ?_⟩
    rw [getN_cons, getN_cons y b]
    by_cases hd : y.d = d
    · rw [if_pos hd, if_pos hd, ← hd, getN_above hall]; rfl
    · rw [if_neg hd, if_neg hd, s2]
  | case5 x a y b h1 h2 h3 =>
    intro j _ _ h
    rw [joinL, if_neg h1, if_neg h2, if_pos h3] at h
    cases h
  | case6 x a y b h1 h2 h3 ih =>
    intro j hl hm h
    have hl' := List.pairwise_cons.1 hl
    have hm' := List.pairwise_cons.1 hm
    have hd : x.d = y.d := by
      rcases dcmp_cases x.d y.d with ⟨_, q, _⟩ | ⟨_, _, q⟩ | ⟨_, _, _, q⟩
      · exact absurd q h1
      · exact absurd q h2
      · exact q
    have hmd := merge_d hd
    rw [joinL, if_neg h1, if_neg h2, if_neg h3, Option.map_eq_some_iff] at h
    obtain ⟨j', hj, rfl⟩ := h
    obtain ⟨s1, s2⟩ := ih j' hl'.2 hm'.2 hj
    refine ⟨List.pairwise_cons.2 ⟨low s1 s2 (fun z hz => ?_) (fun z hz => ?_), s1⟩, fun d => ?_⟩
    · have := hl'.1 z hz
      unfold ltP at this ⊢
      rw [hmd, ← hd]
      exact this
    · have := hm'.1 z hz
      unfold ltP at this ⊢
      rw [hmd]
      exact this
    · rw [getN_cons, getN_cons x a, getN_cons y b, hmd, hd]
      by_cases hd' : y.d = d
      · rw [if_pos hd', if_pos hd', if_pos hd']; rfl
      · rw [if_neg hd', if_neg hd', if_neg hd', s2]

/-! ### At one dot -/
theorem clash_symm (x y : Nd) : x.clash y = y.clash x := by
  rw [Bool.eq_iff_iff, Nd.clash_true, Nd.clash_true]
  grind
theorem clash_self (x : Nd) : x.clash x = false := by
  rw [Nd.clash_false]
  exact ⟨rfl, rfl, rfl, .inr (.inr rfl)⟩
theorem merge_self (x : Nd) : x.merge x = x := by
  unfold Nd.merge
  split <;> rfl
theorem merge_comm {x y : Nd} (h : x.clash y = false) : x.merge y = y.merge x := by
  rw [Nd.clash_false] at h
  obtain ⟨⟨_, _⟩, ⟨_, _⟩, _, _⟩ := x
  obtain ⟨⟨_, _⟩, ⟨_, _⟩, _, _⟩ := y
  simp only [Nd.merge] at *
  grind
theorem clash_merge {x y : Nd} (h : x.clash y = false) : x.clash (x.merge y) = false ∧ y.clash (x.merge y) = false := by
  rw [Nd.clash_false] at h
  rw [Nd.clash_false, Nd.clash_false]
  unfold Nd.merge
  split <;> grind
theorem merge_absorb {x y : Nd} (h : x.clash y = false) : x.merge (x.merge y) = x.merge y ∧ (x.merge y).merge x = x.merge y := by
  rw [Nd.clash_false] at h
  obtain ⟨⟨_, _⟩, ⟨_, _⟩, _, _⟩ := x
  obtain ⟨⟨_, _⟩, ⟨_, _⟩, _, _⟩ := y
  simp only [Nd.merge] at *
  grind
theorem merge_assoc {x y z : Nd} (h : x.clash y = false) (k : x.clash z = false) (j : y.clash z = false) : (x.merge y).merge z = x.merge (y.merge z) := by
  rw [Nd.clash_false] at h k j
  obtain ⟨⟨_, _⟩, ⟨_, _⟩, _, _⟩ := x
  obtain ⟨⟨_, _⟩, ⟨_, _⟩, _, _⟩ := y
  obtain ⟨⟨_, _⟩, ⟨_, _⟩, _, _⟩ := z
  simp only [Nd.merge] at *
  grind
theorem merge_clash {x y z : Nd} (h : x.clash y = false) (k : x.clash z = false) (j : y.clash z = false) : (x.merge y).clash z = false := by
  unfold Nd.merge
  split <;> assumption
theorem merge_dead {x y : Nd} (h : x.x = 0) : (x.merge y).x = 0 := by
  unfold Nd.merge
  split <;> assumption
theorem agree_iff {l m : List Nd} (hl : l.Pairwise ltP) : agreeL l m = true ↔ ∀ d x y, getN l d = some x → getN m d = some y → x.clash y = false := by
  unfold agreeL
  rw [List.all_eq_true]
  constructor
  · intro h d x y hx hy
    obtain ⟨h1, h2⟩ := getN_some hx
    have := h x h1
    unfold getN at hy
    rw [← h2] at hy
    cases hk : lookN m x.d with
    | none => rw [hk] at hy; cases hy
    | some p =>
      obtain ⟨k, y'⟩ := p
      rw [hk] at hy this
      simp at hy this
      rw [← hy]
      exact this
  · intro h x hx
    cases hk : lookN m x.d with
    | none => rfl
    | some p =>
      obtain ⟨k, y⟩ := p
      have := h x.d x y (getN_mem hl hx) (by unfold getN; rw [hk]; rfl)
      simp [this]
end Go.AM
end
