/-
  Maps from dots to nodes in memory: looking up, setting, ranging. Own work of this project.
-/
import Derived.Test.YtiihldccikdfiaaGreatP4
import Derived.Shelf.SlSortCmp.WholeK
import Derived.Ground.SlsfProg
import Derived.Shelf.SlGeneric
import Derived.Test.YtiihldccikdfiaaGreatProg
import Derived.Shelf.SlSortCmp.NoneTotal
import Derived.KernelRfl
import Derived.ProofKit
import Derived.Carry
import Derived.Deep.Slices
set_option linter.unusedVariables false
set_option linter.unusedSimpArgs false
section
namespace Go.AM
open Go Go.Proofs

variable {call : Nat → List AV → St → Option (AV × St)} {env : Env} {s t : St}

/-! ### By value -/
/-! ### Nodes by their dots -/
def entsFrom : Nat → List Nd → List (AV × AV × Nat)
  | _, [] => []
  | k, x :: r => (.agg (Dot.av x.d), .agg (Nd.av x), k) :: entsFrom (k + 1) r
def mapN (l : List Nd) : AB := .map (entsFrom 0 l) l.length
def lookN : List Nd → Dot → Option (Nat × Nd)
  | [], _ => none
  | x :: r, d => if x.d = d then some (0, x) else (lookN r d).map fun p => (p.1 + 1, p.2)
def updN (l : List Nd) (x : Nd) : List Nd := match lookN l x.d with
  | some (j, _) => l.set j x
  | none => l ++ [x]
theorem eqK_dot (a b : Dot) : eqK (.fl [.i, .i]) (.agg (Dot.av a)) (.agg (Dot.av b)) = some (decide (b = a)) := by
  have := bin_eqd a b
  simp only [binOp, Option.map_eq_some_iff] at this
  obtain ⟨x, h1, h2⟩ := this
  injection h2 with h2
  simp only [eqV] at h1
  simp only [eqK, h1, h2]
  congr 1
  simp only [decide_eq_decide]
  exact eq_comm
theorem key_dot (d : Dot) : (AV.agg (Dot.av d)).key (.fl [.i, .i]) = true := rfl
theorem whole_nd (x : Nd) : (AV.agg (Nd.av x)).whole = true := rfl
theorem find_ents : ∀ (l : List Nd) (d : Dot) (k i : Nat), findE (.fl [.i, .i]) (.agg (Dot.av d)) (entsFrom k l) i = some ((lookN l d).map fun p => (i + p.1, .agg (Nd.av p.2)))
  | [], d, k, i => rfl
  | x :: r, d, k, i => by
    simp only [entsFrom, findE, eqK_dot, lookN]
    by_cases h : x.d = d
    · simp [h]
    · simp only [h, decide_false, if_false]
      rw [find_ents r d (k + 1) (i + 1)]
      cases lookN r d <;> simp [Nat.add_comm, Nat.add_left_comm]
theorem lookN_some : ∀ {l : List Nd} {d : Dot} {j : Nat} {x : Nd}, lookN l d = some (j, x) → l[j]? = some x ∧ x.d = d
  | [], d, j, x, h => by simp [lookN] at h
  | y :: r, d, j, x, h => by
    simp only [lookN] at h
    split at h
    · injection h with h
      obtain ⟨rfl, rfl⟩ := Prod.mk.inj h
      exact ⟨rfl, by assumption⟩
    · obtain ⟨p, hp, h⟩ := Option.map_eq_some_iff.1 h
      obtain ⟨rfl, rfl⟩ := Prod.mk.inj h
      obtain ⟨h1, h2⟩ := lookN_some (l := r) (j := p.1) (x := p.2) hp
      exact ⟨by simpa using h1, h2⟩
theorem lookN_none : ∀ {l : List Nd} {d : Dot}, lookN l d = none → ∀ x ∈ l, x.d ≠ d
  | [], d, _ => by simp
  | y :: r, d, h => by
    simp only [lookN] at h
    split at h
    · cases h
    · rename_i e
      have := lookN_none (l := r) (d := d) (by simpa using h)
      intro x hx
      rcases List.mem_cons.1 hx with rfl | hx
      · exact e
      · exact this x hx
theorem ents_get : ∀ (l : List Nd) (k j : Nat), (entsFrom k l)[j]? = (l[j]?).map fun x => (.agg (Dot.av x.d), .agg (Nd.av x), k + j)
  | [], k, j => by simp [entsFrom]
  | x :: r, k, 0 => rfl
  | x :: r, k, j + 1 => by
    simp only [entsFrom, List.getElem?_cons_succ, ents_get r (k + 1) j]
    rw [show k + 1 + j = k + (j + 1) by omega]
theorem ents_append : ∀ (l m : List Nd) (k : Nat), entsFrom k (l ++ m) = entsFrom k l ++ entsFrom (k + l.length) m
  | [], m, k => by simp [entsFrom]
  | x :: r, m, k => by
    simp only [List.cons_append, entsFrom, ents_append r m (k + 1), List.length_cons]
    rw [show k + 1 + r.length = k + (r.length + 1) by omega]
theorem ents_set : ∀ (l : List Nd) (k j : Nat) (x : Nd), entsFrom k (l.set j x) = (entsFrom k l).set j (.agg (Dot.av x.d), .agg (Nd.av x), k + j)
  | [], k, j, x => by simp [entsFrom]
  | y :: r, k, 0, x => by simp [entsFrom]
  | y :: r, k, j + 1, x => by
    simp only [List.set_cons_succ, entsFrom, ents_set r (k + 1) j x]
    rw [show k + 1 + j = k + (j + 1) by omega]
theorem look_hit {l : List Nd} {d : Dot} {j : Nat} {x : Nd} {id : Nat} (hg : s.get id = some (mapN l)) (h : lookN l d = some (j, x)) (z : AV) : lookV s z (.fl [.i, .i]) true (.mp id) (.agg (Dot.av d)) = some (.tup [.agg (Nd.av x), .bool true]) := by
  simp only [lookV, key_dot, if_true, hg, mapN, find_ents, h, Option.map_some]
theorem look_miss {l : List Nd} {d : Dot} {id : Nat} (hg : s.get id = some (mapN l)) (h : lookN l d = none) (z : AV) : lookV s z (.fl [.i, .i]) true (.mp id) (.agg (Dot.av d)) = some (.tup [z, .bool false]) := by
  simp only [lookV, key_dot, if_true, hg, mapN, find_ents, h, Option.map_none]
theorem mset_map {l : List Nd} {id : Nat} (hg : s.get id = some (mapN l)) (x : Nd) : msetV s (.fl [.i, .i]) (.mp id) (.agg (Dot.av x.d)) (.agg (Nd.av x)) = some (.und, s.put id (mapN (updN l x))) := by
  simp only [msetV, key_dot, whole_nd, Bool.and_self, if_true, hg, mapN, find_ents, updN]
  cases h : lookN l x.d with
  | none =>
    simp only [Option.map_none, ents_append, entsFrom, List.length_append, List.length_singleton, Nat.zero_add]
  | some p =>
    obtain ⟨j, y⟩ := p
    obtain ⟨h1, h2⟩ := lookN_some h
    simp only [Option.map_some, Nat.zero_add, ents_get, h1, ents_set, List.length_set]
theorem rng_map {l : List Nd} {id : Nat} (hg : s.get id = some (mapN l)) : rngV s (.mp id) = some (.ptr s.next 0, s.push (.iter (some id) l.length [] l.length)) := by
  simp only [rngV, hg, mapN]
theorem next_map {l : List Nd} {id p : Nat} {seen : List Nat} {K : AV → St → Prop} (hg : s.get id = some (mapN l)) (hp : s.get p = some (.iter (some id) l.length seen l.length))
    (h1 : (∀ i, i < l.length → i ∈ seen) → K (.tup [.bool false]) s) (h2 : ∀ i x, l[i]? = some x → i ∉ seen → K (.tup [.bool true, .agg (Dot.av x.d), .agg (Nd.av x)]) (s.put p (.iter (some id) l.length (seen ++ [i]) l.length))) : anext (.ptr p 0) s K := by
  simp only [anext, hp, hg, mapN]
  have hm : ∀ e ∈ entsFrom 0 l, ∃ i x, l[i]? = some x ∧ e = (.agg (Dot.av x.d), .agg (Nd.av x), i) := by
    intro e he
    obtain ⟨i, hi⟩ := List.getElem?_of_mem he
    rw [ents_get] at hi
    obtain ⟨x, hx, rfl⟩ := Option.map_eq_some_iff.1 hi
    exact ⟨i, x, hx, by simp⟩
  refine ⟨fun e he => ?_, Nat.le_refl _, fun ha => h1 fun i hi => ?_, fun e he hs => ?_⟩
  · obtain ⟨i, x, hx, rfl⟩ := hm e he
    exact getlt hx
  · obtain ⟨x, hx⟩ := getsome hi
    have : (entsFrom 0 l)[i]? = some (.agg (Dot.av x.d), .agg (Nd.av x), 0 + i) := by rw [ents_get, hx]; rfl
    have := ha _ (List.mem_of_getElem? this)
    simpa using this
  · obtain ⟨i, x, hx, rfl⟩ := hm e he
    exact h2 i x hx hs
theorem ent_map {l : List Nd} {id p : Nat} {seen : List Nat} {i : Nat} {x : Nd} (hg : s.get id = some (mapN l)) (hp : s.get p = some (.iter (some id) l.length (seen ++ [i]) l.length)) (hx : l[i]? = some x) : entV s (.ptr p 0) = some (.tup [.agg (Dot.av x.d), .agg (Nd.av x)]) := by
  have key : ∀ (l : List Nd) (k i : Nat) (x : Nd), l[i]? = some x → (entsFrom k l).find? (fun e => e.2.2 == k + i) = some (.agg (Dot.av x.d), .agg (Nd.av x), k + i) := by
    intro l
    induction l with
    | nil => intro k i x h; simp at h
    | cons y r ih =>
      intro k i x h
      cases i with
      | zero => simp at h; subst h; simp [entsFrom]
      | succ i =>
        have e : k + (i + 1) = k + 1 + i := by omega
        rw [entsFrom, List.find?_cons_of_neg (by simp), e]
        exact ih (k + 1) i x (by simpa using h)
  have := key l 0 i x hx
  rw [Nat.zero_add] at this
  simp only [entV, hp, hg, mapN, List.getLast?_concat, if_true, this, Option.map_some]
end Go.AM
end
/-
  DERIVED: THE SHELF's CONTRACTS AT THIS DUMP, IN PLAIN WORDS (tools/lay-plain.mjs out of 'YtiihldccikdfiaaGreatAmShelf.lean', which tools/lay-shelf.mjs wrote): THE SAME DECLARATIONS UNDER THE SAME NAMES: 'import', 'namespace', 'open', 'def', 'theorem' AND NOTHING ELSE: no command of the shelf's: FOR A HAND-IN. Each laying: the table of numbers ('.._ren') and one theorem, a field a fact of the dump's own or the kernel's comparison; each contract: ONE APPLICATION.
-/
section
namespace Go.Proofs
open Go.Shelf
def Tryz.sortNode_ren : Go.Shelf.Ren := ⟨fun | 6 => 60 | 15 => 88 | 14 => 87 | 28 => 114 | 29 => 115 | 20 => 106 | 21 => 107 | 22 => 108 | 23 => 109 | 24 => 110 | 25 => 111 | 26 => 112 | 27 => 113 | 46 => 126 | 47 => 127 | 48 => 128 | 49 => 129 | 50 => 130 | 57 => 151 | n => n, fun | 22 => 22 | 24 => 26 | 25 => 91 | 3 => 3 | 39 => 110 | 0 => 0 | 53 => 132 | 55 => 134 | 4 => 4 | 46 => 126 | 45 => 125 | 50 => 94 | 5 => 5 | 9 => 9 | 66 => 138 | 70 => 142 | 76 => 158 | 77 => 159 | n => n, fun | n => n⟩
theorem Tryz.sortNode : Go.Proofs.SlLaysF0.n6 Tryz.prog Tryz.sortNode_ren := {
  mixed := by kernel_rfl
  f6 := ⟨Tryz.f60.name, by decide, Tryz.func60.trans (congrArg some (by kernel_rfl))⟩
  f14 := ⟨Tryz.f87.name, by decide, Tryz.func87.trans (congrArg some (by kernel_rfl))⟩
  f15 := Tryz.func88.trans (congrArg some (by kernel_rfl))
  f20 := ⟨Tryz.f106.name, by decide, Tryz.func106.trans (congrArg some (by kernel_rfl))⟩
  f21 := ⟨Tryz.f107.name, by decide, Tryz.func107.trans (congrArg some (by kernel_rfl))⟩
  f22 := ⟨Tryz.f108.name, by decide, Tryz.func108.trans (congrArg some (by kernel_rfl))⟩
  f23 := ⟨Tryz.f109.name, by decide, Tryz.func109.trans (congrArg some (by kernel_rfl))⟩
  f24 := ⟨Tryz.f110.name, by decide, Tryz.func110.trans (congrArg some (by kernel_rfl))⟩
  f25 := ⟨Tryz.f111.name, by decide, Tryz.func111.trans (congrArg some (by kernel_rfl))⟩
  f26 := ⟨Tryz.f112.name, by decide, Tryz.func112.trans (congrArg some (by kernel_rfl))⟩
  f27 := ⟨Tryz.f113.name, by decide, Tryz.func113.trans (congrArg some (by kernel_rfl))⟩
  f28 := Tryz.func114.trans (congrArg some (by kernel_rfl))
  f29 := Tryz.func115.trans (congrArg some (by kernel_rfl))
  f46 := ⟨Tryz.f126.name, by decide, Tryz.func126.trans (congrArg some (by kernel_rfl))⟩
  f47 := Tryz.func127.trans (congrArg some (by kernel_rfl))
  f48 := Tryz.func128.trans (congrArg some (by kernel_rfl))
  f49 := ⟨Tryz.f129.name, by decide, Tryz.func129.trans (congrArg some (by kernel_rfl))⟩
  f50 := ⟨Tryz.f130.name, by decide, Tryz.func130.trans (congrArg some (by kernel_rfl))⟩
  f57 := ⟨Tryz.f151.name, by decide, Tryz.func151.trans (congrArg some (by kernel_rfl))⟩
  t0 := Tryz.underlying0
  a0 := Tryz.isAgg0
  z0 := Tryz.sizeOf0
  v0 := Tryz.zeroValue0
  t3 := Tryz.underlying3
  a3 := Tryz.isAgg3
  z3 := Tryz.sizeOf3
  v3 := Tryz.zeroValue3
  t4 := Tryz.underlying4
  a4 := Tryz.isAgg4
  z4 := Tryz.sizeOf4
  v4 := Tryz.zeroValue4
  t5 := Tryz.underlying5
  a5 := Tryz.isAgg5
  z5 := Tryz.sizeOf5
  v5 := Tryz.zeroValue5
  t9 := Tryz.underlying9
  a9 := Tryz.isAgg9
  z9 := Tryz.sizeOf9
  v9 := Tryz.zeroValue9
  t22 := Tryz.underlying22
  a22 := Tryz.isAgg22
  z22 := Tryz.sizeOf22
  v22 := Tryz.zeroValue22
  t25 := Tryz.underlying91
  a25 := Tryz.isAgg91
  z25 := Tryz.sizeOf91
  v25 := Tryz.zeroValue91
  t39 := Tryz.underlying110
  a39 := Tryz.isAgg110
  z39 := Tryz.sizeOf110
  v39 := Tryz.zeroValue110
  t45 := Tryz.underlying125
  a45 := Tryz.isAgg125
  z45 := Tryz.sizeOf125
  v45 := Tryz.zeroValue125
  t46 := Tryz.underlying126
  a46 := Tryz.isAgg126
  z46 := Tryz.sizeOf126
  v46 := Tryz.zeroValue126
  t50 := Tryz.underlying94
  a50 := Tryz.isAgg94
  z50 := Tryz.sizeOf94
  v50 := Tryz.zeroValue94
  t53 := Tryz.underlying132
  a53 := Tryz.isAgg132
  z53 := Tryz.sizeOf132
  v53 := Tryz.zeroValue132
  t55 := Tryz.underlying134
  a55 := Tryz.isAgg134
  z55 := Tryz.sizeOf134
  v55 := Tryz.zeroValue134
  t66 := Tryz.underlying138
  a66 := Tryz.isAgg138
  z66 := Tryz.sizeOf138
  v66 := Tryz.zeroValue138
  t70 := Tryz.underlying142
  a70 := Tryz.isAgg142
  z70 := Tryz.sizeOf142
  v70 := Tryz.zeroValue142
  t76 := Tryz.underlying158
  a76 := Tryz.isAgg158
  z76 := Tryz.sizeOf158
  v76 := Tryz.zeroValue158
  t77 := Tryz.underlying159
  a77 := Tryz.isAgg159
  z77 := Tryz.sizeOf159
  v77 := Tryz.zeroValue159 }
end Go.Proofs
end
/-
  The contract of slices.SortFunc at a new list of nodes, sorted by their dots. Own work of this project.
-/
section
set_option maxHeartbeats 1000000
namespace Go.AM
open Go Go.Proofs
open Go.Sort (HoldsK putRowK flatK get_flatK size_flatK)

instance : Inhabited Nd := ⟨nd0⟩
def toVal : AV → Value
  | .int k n => .int k n
  | _ => undef
def nvals (x : Nd) : List Value := (Nd.av x).map toVal
theorem nvals_len (x : Nd) : (nvals x).length = 6 := rfl
theorem nvals_one (x : Nd) : ∀ v ∈ nvals x, v.oneCell' = true := by
  intro v hv
  simp only [nvals, Nd.av, List.map_cons, List.map_nil, toVal, List.mem_cons, List.not_mem_nil, or_false] at hv
  rcases hv with rfl | rfl | rfl | rfl | rfl | rfl <;> rfl
theorem nd_val {ρ : Ren} {x : Nd} {i : Nat} {v : AV} {c : Value} (h : (Nd.av x)[i]? = some v) (k : VR ρ v c) : (nvals x)[i]? = some c := by
  simp only [nvals, List.getElem?_map, h, Option.map_some, Option.some.injEq]
  have : v ∈ Nd.av x := List.mem_of_getElem? h
  simp only [Nd.av, List.mem_cons, List.not_mem_nil, or_false] at this
  rcases this with rfl | rfl | rfl | rfl | rfl | rfl <;> (simp only [VR] at k; rw [k]; rfl)
theorem nd_VR {ρ : Ren} {x : Nd} {i : Nat} {v : AV} (h : (Nd.av x)[i]? = some v) : ∃ c, (nvals x)[i]? = some c ∧ VR ρ v c := by
  refine ⟨toVal v, by simp [nvals, h], ?_⟩
  have : v ∈ Nd.av x := List.mem_of_getElem? h
  simp only [Nd.av, List.mem_cons, List.not_mem_nil, or_false] at this
  rcases this with rfl | rfl | rfl | rfl | rfl | rfl <;> simp [VR, toVal]
theorem cells_get : ∀ (l : List Nd) (t : Nat), (ndC.cells l)[t]? = (l[t / 6]?).bind fun x => (Nd.av x)[t % 6]?
  | [], t => by simp [cells_nil]
  | x :: l, t => by
    rw [cells_cons]
    have hl : (ndC.enc x).length = 6 := rfl
    by_cases h : t < 6
    · rw [List.getElem?_append_left (by omega), Nat.div_eq_of_lt h, Nat.mod_eq_of_lt h]
      rfl
    · rw [List.getElem?_append_right (by omega), hl, cells_get l (t - 6)]
      have e1 : t / 6 = (t - 6) / 6 + 1 := by omega
      have e2 : t % 6 = (t - 6) % 6 := by omega
      rw [e1, e2]
      rfl
theorem before_irr (a : Dot) : a.before a = false := by simp [Dot.before]
theorem swo : Sort.SWO (ltOf fun x y : Nd => dcmp x.d y.d) := by
  have e : ∀ x y : Nd, ltOf (fun x y : Nd => dcmp x.d y.d) x y = x.d.before y.d := by
    intro x y
    unfold ltOf
    rcases dcmp_cases x.d y.d with ⟨h, h1, _⟩ | ⟨h, h1, _⟩ | ⟨h, h1, _⟩ <;> simp only [h, h1] <;> decide
  refine ⟨fun x => by rw [e]; exact before_irr _, fun x y z => ?_, fun x y z => ?_⟩
  · rw [e, e, e]
    obtain ⟨⟨_, _⟩, _, _, _⟩ := x
    obtain ⟨⟨_, _⟩, _, _, _⟩ := y
    obtain ⟨⟨_, _⟩, _, _, _⟩ := z
    simp only [Dot.before, Bool.or_eq_true, Bool.and_eq_true, decide_eq_true_eq]
    omega
  · rw [e, e, e]
    obtain ⟨⟨_, _⟩, _, _, _⟩ := x
    obtain ⟨⟨_, _⟩, _, _, _⟩ := y
    obtain ⟨⟨_, _⟩, _, _, _⟩ := z
    simp only [Dot.before, Bool.or_eq_false_iff, Bool.and_eq_false_iff, decide_eq_false_iff_not]
    omega
theorem clean_grow {W W' : World} (h : Clean W W') : ∃ q os, W' = Sort.grow (W.drewN q) os := by
  refine ⟨W'.drawn - W.drawn, W'.heap.extract W.heap.size W'.heap.size, ?_⟩
  have hd := h.drawn
  have hh : W'.heap = W.heap ++ W'.heap.extract W.heap.size W'.heap.size := by
    have hs := h.size
    apply Array.ext_getElem?
    intro i
    rw [Array.getElem?_append]
    split
    · exact h.block i (by assumption)
    · rw [Array.getElem?_extract]
      by_cases hi : i < W'.heap.size
      · rw [if_pos (by omega)]
        congr 1
        omega
      · rw [if_neg (by omega), Array.getElem?_eq_none (by omega)]
  have h1 := h.os
  have h2 := h.tape
  have h3 := h.output
  cases W'
  cases W
  simp only [Sort.grow, World.drewN] at *
  subst h1; subst h2; subst h3
  congr 1
  omega
theorem cmp_lays (w : World) (blk off size : Nat) : CmpLays Tryz.prog 61 #[] nvals 6 (fun x y : Nd => dcmp x.d y.d) blk off size w := by
  intro m os dk hdk x y
  obtain ⟨_, _, h⟩ := s_nodeCmp [.agg (Nd.av x), .agg (Nd.av y)] St.empty (.int .i64 (dcmp x.d y.d)) St.empty rfl
  have hv : ∀ x : Nd, VRs (fun _ => none) (Nd.av x) (nvals x) := fun x => by
    simp [Nd.av, nvals, toVal, VRs, VR]
  have := h (fun _ => none) (sortWorldK nvals 6 w blk off m dk os) [.agg (nvals x).toArray, .agg (nvals y).toArray] (fun _ _ => rfl) (R_empty _) (by
    rw [VRs_cons, VRs_cons]
    exact ⟨by simp only [VR]; exact ⟨_, rfl, hv x⟩, by simp only [VR]; exact ⟨_, rfl, hv y⟩, VRs_nil⟩)
  refine Calls.mono (by simpa using this) fun e w' hp => ?_
  obtain ⟨ρ', v, rfl, hv, hst, _⟩ := hp
  simp only [VR] at hv
  subst hv
  exact ⟨rfl, clean_grow (hst.clean (by simp [St.empty]))⟩
/-! ### Sorting nodes -/
def insN (x : Nd) : List Nd → List Nd
  | [] => [x]
  | y :: r => if x.d.before y.d = true then x :: y :: r else y :: insN x r
def sortN : List Nd → List Nd
  | [] => []
  | x :: r => insN x (sortN r)
def ltP (x y : Nd) : Prop := x.d.before y.d = true
theorem insN_perm (x : Nd) : ∀ l, (insN x l).Perm (x :: l)
  | [] => .refl _
  | y :: r => by
    unfold insN
    split
    · exact .refl _
    · exact ((insN_perm x r).cons y).trans (.swap x y r)
theorem sortN_perm : ∀ l, (sortN l).Perm l
  | [] => .refl _
  | x :: r => (insN_perm x _).trans ((sortN_perm r).cons x)
theorem sortN_len (l : List Nd) : (sortN l).length = l.length := (sortN_perm l).length_eq
theorem ltP_trans {x y z : Nd} (h : ltP x y) (k : ltP y z) : ltP x z := by
  unfold ltP at *
  obtain ⟨⟨_, _⟩, _, _, _⟩ := x
  obtain ⟨⟨_, _⟩, _, _, _⟩ := y
  obtain ⟨⟨_, _⟩, _, _, _⟩ := z
  simp only [Dot.before, Bool.or_eq_true, Bool.and_eq_true, decide_eq_true_eq] at *
  omega
theorem ltP_asymm {x y : Nd} (h : ltP x y) (k : ltP y x) : False := by
  have := ltP_trans h k
  unfold ltP at this
  rw [before_irr] at this
  cases this
theorem ltP_tri (x y : Nd) (h : x.d ≠ y.d) : ltP x y ∨ ltP y x := by
  unfold ltP
  rcases dcmp_cases x.d y.d with ⟨_, h1, _⟩ | ⟨_, _, h1⟩ | ⟨_, _, _, h1⟩
  · exact .inl h1
  · exact .inr h1
  · exact absurd h1 h
theorem insN_sorted (x : Nd) : ∀ l : List Nd, l.Pairwise ltP → (∀ y ∈ l, x.d ≠ y.d) → (insN x l).Pairwise ltP
  | [], _, _ => by simp [insN]
  | y :: r, h, hx => by
    unfold insN
    rw [List.pairwise_cons] at h
    split
    · rename_i hb
      rw [List.pairwise_cons, List.pairwise_cons]
      refine ⟨fun z hz => ?_, h⟩
      rcases List.mem_cons.1 hz with rfl | hz
      · exact hb
      · exact ltP_trans hb (h.1 z hz)
    · rename_i hb
      have hyx : ltP y x := (ltP_tri x y (hx y (by simp))).resolve_left hb
      rw [List.pairwise_cons]
      refine ⟨fun z hz => ?_, insN_sorted x r h.2 fun y hy => hx y (by simp [hy])⟩
      rcases List.mem_cons.1 ((insN_perm x r).mem_iff.1 hz) with rfl | hz
      · exact hyx
      · exact h.1 z hz
theorem sortN_sorted : ∀ l : List Nd, (l.map Nd.d).Nodup → (sortN l).Pairwise ltP
  | [], _ => by simp [sortN]
  | x :: r, h => by
    simp only [List.map_cons, List.nodup_cons] at h
    refine insN_sorted x _ (sortN_sorted r h.2) fun y hy e => h.1 ?_
    rw [e]
    exact List.mem_map_of_mem ((sortN_perm r).mem_iff.1 hy)
theorem sorted_unique : ∀ (l m : List Nd), l.Perm m → l.Pairwise ltP → m.Pairwise ltP → l = m
  | [], m, h, _, _ => (List.nil_perm.1 h).symm
  | x :: l, [], h, _, _ => absurd h.length_eq (by simp)
  | x :: l, y :: m, h, h1, h2 => by
    rw [List.pairwise_cons] at h1 h2
    have e : x = y := by
      by_cases e : x = y
      · exact e
      · have hx : x ∈ m := by
          rcases List.mem_cons.1 (h.mem_iff.1 (List.mem_cons_self ..)) with q | q
          · exact absurd q e
          · exact q
        have hy : y ∈ l := by
          rcases List.mem_cons.1 (h.mem_iff.2 (List.mem_cons_self ..)) with q | q
          · exact absurd q.symm e
          · exact q
        exact (ltP_asymm (h1.1 y hy) (h2.1 x hx)).elim
    subst e
    rw [sorted_unique l m h.cons_inv h1.2 h2.2]
def cSort (g : Nat) : Con := fun xs s => match xs with
  | [.nils, .fn g' []] => if g' = g then some (.tup [], s.lowed) else none
  | [.sl j 0 n none 6, .fn g' []] => if g' = g then match s.get j with
      | some (.row cs true) => match decL ndC n cs with
        | some l => if cs.length = n * 6 ∧ (l.map Nd.d).Nodup ∧ 0 < n ∧ n ≤ lim then some (.tup [], s.put j (.row (ndC.cells (sortN l)) true)) else none
        | none => none
      | _ => none
    else none
  | _ => none
theorem holds_of {ρ : Ren} {L : Loc} {w : World} {l : List Nd} (h : BlkOk ρ L w (.row (ndC.cells l) true)) : HoldsK nvals 6 w L.b L.o l.toArray := by
  simp only [BlkOk] at h
  obtain ⟨cs, e, fr, h1, h2, h3, h4, h5, _⟩ := h
  rw [cells_len] at h3
  intro j hj
  have hj : j < l.length * 6 := by simpa using hj
  obtain ⟨x, hx⟩ := getsome (l := l) (i := j / 6) (by omega)
  have h6 : (Nd.av x).length = 6 := rfl
  obtain ⟨v, hv⟩ : ∃ v, (Nd.av x)[j % 6]? = some v := ⟨(Nd.av x)[j % 6]'(by omega), by simp⟩
  obtain ⟨c, hc, hr⟩ := h4 j v (by rw [cells_get, hx]; exact hv)
  have hn := nd_val hv hr
  have e1 : (flatK nvals 6 l.toArray)[j]! = c := by
    rw [get_flatK _ _ _ _ (by simpa using hj)]
    have : l.toArray[j / 6]! = x := by simp [hx]
    rw [this]
    simp [hn]
  have h66 : ndC.sz = 6 := rfl
  rw [h66] at h3
  have hfr := h5 trivial (L.o + j) (by omega)
  constructor
  · simp only [World.cell?, h1, id, e1]
    simpa using hc
  · simp only [World.frozen?, h1]
    exact hfr
theorem blk_after {ρ : Ren} {L : Loc} {w : World} {l m : List Nd} (h : BlkOk ρ L w (.row (ndC.cells l) true)) (hm : m.length = l.length) (n : Nat) : BlkOk ρ L (putRowK nvals 6 (Sort.ahead w n) L.b L.o m.toArray) (.row (ndC.cells m) true) := by
  simp only [BlkOk] at h ⊢
  obtain ⟨cs, e, fr, h1, h2, h3, h4, h5, _⟩ := h
  rw [cells_len] at h3
  have h6 : ndC.sz = 6 := rfl
  refine ⟨Sort.putCells id L.o (flatK nvals 6 m.toArray) cs, e, fr, ?_, by simp [Sort.putCells, h2], by rw [cells_len, hm]; exact h3, fun i v hv => ?_, h5, cells_one' ndC m⟩
  · simp only [putRowK, Sort.putRow, Sort.mapBlock, Sort.ahead]
    rw [Array.getElem?_modify]
    simp [h1, Sort.onCells]
  · have hi := (List.getElem?_eq_some_iff.1 hv).1
    rw [cells_len] at hi
    rw [cells_get] at hv
    rw [h6] at hi
    obtain ⟨x, hx⟩ := getsome (l := m) (i := i / 6) (by omega)
    rw [hx] at hv
    obtain ⟨c, hc, hr⟩ := nd_VR (ρ := ρ) hv
    refine ⟨c, ?_, hr⟩
    have e1 : (flatK nvals 6 m.toArray)[i]! = c := by
      rw [get_flatK _ _ _ _ (by simp; omega)]
      have : m.toArray[i / 6]! = x := by simp [hx]
      rw [this]
      simp [hc]
    simp only [Sort.putCells, Array.getElem?_mapIdx]
    have hlt : L.o + i < cs.size := by
      rw [h6, ← hm] at h3
      rw [h2]
      omega
    rw [Array.getElem?_eq_getElem hlt]
    simp only [Option.map_some, size_flatK, List.size_toArray]
    rw [if_pos (by omega)]
    simp [e1]
theorem s_sort : SoundAt Tryz.prog 60 (cSort 61) := by
  intro xs s r s' h
  have hk : callable Tryz.prog 60 = true := k60
  have hf : Tryz.sortNode_ren.f 6 = 60 := rfl
  unfold cSort at h
  split at h
  · split at h
    · rename_i e
      subst e
      injection h with h
      obtain ⟨rfl, rfl⟩ := Prod.mk.inj h
      refine ⟨hk, gk_lowed s, fun ρ w cargs hfree hR hargs => ?_⟩
      obtain ⟨a1, r1, rfl, v1, w1⟩ : ∃ c r, cargs = c :: r ∧ VR ρ .nils c ∧ VRs ρ [.fn 61 []] r := by simpa only [VRs] using hargs
      obtain ⟨a2, r2, rfl, v2, w2⟩ : ∃ c r, r1 = c :: r ∧ VR ρ (.fn 61 []) c ∧ VRs ρ [] r := by simpa only [VRs] using w1
      simp only [VRs] at w2
      subst w2
      simp only [VR] at v1
      subst v1
      refine (AnyF.slices_SortFunc_none Tryz.sortNode none 0 a2 w).mono fun e w' hp => ?_
      obtain ⟨rfl, rfl⟩ := hp
      have hst := Step.refl s ρ w'
      exact ⟨ρ, _, rfl, by simp [VR, VRs], ⟨Nat.le_refl _, Nat.min_le_left _ _, hst.ren, hst.size, rfl, rfl, rfl, hst.drawn, fun b hb H => rfl, hst.old, fun id L blk e1 _ e3 _ => absurd (St.get_lt e3) (by rw [lowed_next]; omega), fun _ _ _ => rfl⟩, ⟨hR.bound, hR.blk, hR.inj⟩⟩
    · cases h
  · rename_i j n g'
    split at h
    · rename_i e
      subst e
      split at h
      · rename_i cs hg
        split at h
        · rename_i l hd
          split at h
          · rename_i hc
            obtain ⟨hc1, hnd, hpos, hlim⟩ := hc
            injection h with h
            obtain ⟨rfl, rfl⟩ := Prod.mk.inj h
            obtain ⟨d1, d2, d3⟩ := decL_some hd
            have hcs : cs = ndC.cells l := by rw [← d3, show n * ndC.sz = cs.length from hc1.symm]; simp
            subst hcs
            refine ⟨hk, ⟨grow_put _ hg, keeps_put _ hg⟩, fun ρ w cargs hfree hR hargs => ?_⟩
            obtain ⟨a1, r1, rfl, v1, w1⟩ : ∃ c r, cargs = c :: r ∧ VR ρ (.sl j 0 n none 6) c ∧ VRs ρ [.fn 61 []] r := by simpa only [VRs] using hargs
            obtain ⟨a2, r2, rfl, v2, w2⟩ : ∃ c r, r1 = c :: r ∧ VR ρ (.fn 61 []) c ∧ VRs ρ [] r := by simpa only [VRs] using w1
            simp only [VRs] at w2
            subst w2
            simp only [VR] at v1 v2
            obtain ⟨L, a, c, hL, rfl, hle, _, hca⟩ := v1
            obtain ⟨cb, rfl, hcb⟩ := v2
            simp only [VRs] at hcb
            subst hcb
            rcases hca with rfl | ⟨rfl, hcap⟩
            · omega
            have hb := hR.blk j _ L hg hL
            have hH := holds_of hb
            have hlt := hR.bound j L hL
            have hsz : l.toArray.size = n := by simpa using d1
            have main := AnyQ.slices_SortFunc Tryz.sortNode 6 Tryz.isAgg26 Tryz.sizeOf26 nvals nvals_len nvals_one (fun x y : Nd => dcmp x.d y.d) swo 61 #[] L.b L.o c l.toArray w (enters_of Tryz.func61 (by kernel_rfl) rfl) (cmp_lays w L.b L.o l.toArray.size) hH hlt (by rw [hsz]; unfold lim at hlim; omega)
            rw [hsz] at main
            have main : Calls Tryz.prog 60 _ w _ := main
            refine main.mono fun e w' hp => ?_
            obtain ⟨rfl, d', nn, os, ⟨p1, _, p2⟩, hsrt, rfl⟩ := hp
            have hsz' : d'.size = n := by rw [p1, hsz]
            have hd' : d'.toList = sortN l := by
              have hp : d'.toList.Perm l := by
                have e1 : d'.extract 0 n = d' := by rw [← hsz']; simp
                have e2 : l.toArray.extract 0 n = l.toArray := by rw [← hsz]; simp
                rw [e1, e2] at p2
                exact p2
              refine sorted_unique _ _ (hp.trans (sortN_perm l).symm) ?_ (sortN_sorted l hnd)
              rw [List.pairwise_iff_getElem]
              intro i j hi hj hij
              have h1 := hsrt i j (Nat.zero_le _) hij (by simpa [hsz'] using hj)
              have hnd' : (d'.toList.map Nd.d).Nodup := (hp.map Nd.d).nodup_iff.2 hnd
              have hne : d'.toList[i].d ≠ d'.toList[j].d := by
                have := List.pairwise_iff_getElem.1 hnd' i j (by simpa using hi) (by simpa using hj) hij
                simpa using this
              have e1 : d'[i]! = d'.toList[i] := by
                simp at hi
                simp [hi]
              have e2 : d'[j]! = d'.toList[j] := by
                simp at hj
                simp [hj]
              rw [e1, e2] at h1
              rcases ltP_tri _ _ hne with q | q
              · exact q
              · unfold ltP at q
                unfold ltOf at h1
                rcases dcmp_cases d'.toList[j].d d'.toList[i].d with ⟨hh, _, _⟩ | ⟨hh, hh2, _⟩ | ⟨hh, hh2, _⟩
                · simp only [hh] at h1; exact absurd h1 (by decide)
                · rw [hh2] at q; cases q
                · rw [hh2] at q; cases q
            have hd'' : d' = (sortN l).toArray := by rw [← hd']
            subst hd''
            obtain ⟨hR1, hS1⟩ := R.put (b := .row (ndC.cells (sortN l)) true) hR hg rfl hL (blk_after hb (sortN_len l) nn) (by simp [putRowK, Sort.putRow, Sort.mapBlock, Sort.ahead]) rfl rfl rfl (by show w.drawn ≤ w.drawn + nn; omega) (by
              intro k hk'
              simp only [putRowK, Sort.putRow, Sort.mapBlock, Sort.ahead]
              rw [Array.getElem?_modify, if_neg (Ne.symm hk')])
            have hcl : Clean (putRowK nvals 6 (Sort.ahead w nn) L.b L.o (sortN l).toArray) (sortWorldK nvals 6 w L.b L.o nn (sortN l).toArray os) := by
              refine ⟨by simp [sortWorldK, Sort.grow], rfl, rfl, rfl, Nat.le_refl _, fun b hb => ?_⟩
              simp only [sortWorldK, Sort.grow]
              rw [Array.getElem?_append_left hb]
            exact ⟨ρ, _, rfl, by simp [VR, VRs], hS1.trans (hcl.step _ ρ), hR1.clean hcl⟩
          · cases h
        · cases h
      · cases h
    · cases h
  · cases h
end Go.AM
end
/-
  store.Of. Own work of this project; in part printed by a program of it.
-/
section
set_option maxRecDepth 100000
set_option maxHeartbeats 8000000
namespace Go.AM
open Go Go.Proofs

variable {s t : St}
theorem sto_over {n : Nat} {s : St} (h : sameN n s) (x y : Nd) : sto (s.push (.row (Nd.av x) true)) 6 (.ptr n 0) (.agg (Nd.av y)) = some (.und, s.lowed.push (.row (Nd.av y) true)) := by
  unfold sameN at h
  subst h
  simp only [sto, St.get_push_new, push_put]
  rfl
/-- What is there of the nodes so far: merged, and alive. -/
def ofStep (M A : List Nd) (n : Nd) : Option (List Nd × List Nd) :=
  if (match lookN A n.d with
    | some (_, x) => x.clash n
    | none => false) = true then none
  else match lookN M n.d with
    | some (_, old) => if old.clash n = true then none else some (updN M (old.merge n), if n.x = 0 then A else updN A n)
    | none => some (updN M n, if n.x = 0 then A else updN A n)
def ofFold : List Nd → List Nd → List Nd → Option (List Nd)
  | [], M, _ => some M
  | n :: r, M, A => match ofStep M A n with
    | some (M', A') => ofFold r M' A'
    | none => none
def gOf (l : List Nd) : Option (List Nd × Option AV) :=
  if l.all Nd.valid = true then match ofFold l [] [] with
    | some M => some (sortN M, some (.int .i64 0))
    | none => some ([], some (.int .i64 15))
  else some ([], some (.int .i64 2))
theorem gOf_plain {a : List Nd} {l : List Nd} {e : Option AV} (h : gOf a = some (l, e)) : ∀ x, e = some x → x.plain = true := by
  unfold gOf at h
  repeat' split at h
  all_goals
    injection h with h
    obtain ⟨_, rfl⟩ := Prod.mk.inj h
    intro x hx
    injection hx with hx
    subst hx
    rfl
theorem updN_mem {l : List Nd} {x y : Nd} (h : y ∈ updN l x) : y = x ∨ y ∈ l := by
  unfold updN at h
  split at h
  · rcases List.mem_or_eq_of_mem_set h with h | h
    · exact .inr h
    · exact .inl h
  · rcases List.mem_append.1 h with h | h
    · exact .inr h
    · exact .inl (by simpa using h)
theorem updN_len (l : List Nd) (x : Nd) : (updN l x).length ≤ l.length + 1 := by
  unfold updN
  split <;> simp
theorem updN_nodup {l : List Nd} {x : Nd} (h : (l.map Nd.d).Nodup) : ((updN l x).map Nd.d).Nodup := by
  unfold updN
  split
  · rename_i j y hj
    obtain ⟨h1, h2⟩ := lookN_some hj
    rw [List.map_set, ← h2]
    have : (l.map Nd.d).set j y.d = l.map Nd.d := by
      apply List.ext_getElem?
      intro k
      rw [List.getElem?_set]
      split
      · rename_i e
        subst e
        split
        · simp [h1]
        · rename_i hk
          have := getlt h1
          simp at hk
          omega
      · rfl
    rw [this]
    exact h
  · rename_i hj
    rw [List.map_append, List.nodup_append]
    refine ⟨h, by simp, ?_⟩
    intro a ha b hb e
    simp at hb
    subst hb
    subst e
    obtain ⟨y, hy, e⟩ := List.mem_map.1 ha
    exact lookN_none hj y hy e
theorem merge_valid {a b : Nd} (ha : a.valid = true) (hb : b.valid = true) : (a.merge b).valid = true := by
  unfold Nd.merge
  split <;> assumption
theorem merge_d {a b : Nd} (h : a.d = b.d) : (a.merge b).d = b.d := by
  unfold Nd.merge
  split <;> simp [h]
theorem range_get (M : List Nd) : (List.range M.length).map (fun i => M[i]?) = M.map some := by
  apply List.ext_getElem?
  intro i
  rw [List.getElem?_map, List.getElem?_map]
  by_cases h : i < M.length
  · rw [List.getElem?_range h]
    simp [h]
  · rw [List.getElem?_eq_none (by simpa using h), List.getElem?_eq_none (by omega)]
    rfl
theorem seen_perm {M acc : List Nd} {seen : List Nat} (h1 : seen.Nodup) (h2 : ∀ i ∈ seen, i < M.length) (h3 : acc.map some = seen.map fun i => M[i]?) (h4 : ∀ i, i < M.length → i ∈ seen) : acc.Perm M := by
  have hp : seen.Perm (List.range M.length) := (List.perm_ext_iff_of_nodup h1 List.nodup_range).2 fun i => by
    rw [List.mem_range]
    exact ⟨h2 i, h4 i⟩
  have h5 := hp.map fun i => M[i]?
  rw [← h3, range_get] at h5
  have h6 := h5.filterMap (fun x => x)
  have e : ∀ l : List Nd, (l.map some).filterMap (fun x => x) = l := by
    intro l
    induction l with
    | nil => rfl
    | cons x r ih => simp [ih]
  rwa [e, e] at h6
theorem sort_own {v : AV} {acc : List Nd} (hK : Keep s t) (hO : Own ndC s t v acc) (hnd : (acc.map Nd.d).Nodup) (hl : acc.length ≤ lim) (g : Nat) : ∃ t3, acall (cSort g) false [v, .fn g []] t = some (.tup [], t3) ∧ Keep s t3 ∧ Own ndC s t3 v (sortN acc) := by
  rcases hO with ⟨rfl, rfl⟩ | ⟨j, rfl, h0, h1, h⟩
  · exact ⟨t, acall_rol (by simp [cSort]) rfl, hK, .nil _ _ _⟩
  · have hpos : 0 < acc.length := List.length_pos_iff.2 h0
    have hd : decL ndC acc.length (ndC.cells acc) = some acc := by
      have := decL_cells ndC acc []
      rwa [List.append_nil] at this
    have h6 : ndC.sz = 6 := rfl
    have hlen : (ndC.cells acc).length = acc.length * 6 := by rw [cells_len, h6]
    have hc : cSort g [.sl j 0 acc.length none ndC.sz, .fn g []] { heap := t.heap, next := t.next, low := t.next } = some (.tup [], ({ heap := t.heap, next := t.next, low := t.next } : St).put j (.row (ndC.cells (sortN acc)) true)) := by
      have hg : ({ heap := t.heap, next := t.next, low := t.next } : St).get j = some (.row (ndC.cells acc) true) := h
      rw [h6]
      simp only [cSort, if_true, hg, hd, hlen, hnd, hpos, hl, and_self]
    have hlt := St.get_lt h
    refine ⟨t.put j (.row (ndC.cells (sortN acc)) true), ?_, hK.put _ h1 hlt, .inr ⟨j, by rw [sortN_len], ?_, h1, St.get_put_same h⟩⟩
    · simp only [acall, hc]
      have e : (AV.tup []).ground = true := rfl
      have e3 : decide (t.next ≤ (({ heap := t.heap, next := t.next, low := t.next } : St).put j (.row (ndC.cells (sortN acc)) true)).low) = false := decide_eq_false (by simp only [St.low_put]; omega)
      rw [e, e3]
      simp only [Bool.and_false, Bool.false_eq_true, if_false, St.put]
      congr 3
      omega
    · intro e
      have := sortN_len acc
      rw [e] at this
      simp at this
      omega
theorem s_Of : SoundAt Tryz.prog 29 (conF ndC (pL ndC gOf)) :=
  con_fresh (tb_sound (l := [(56, conLfn fHasBad 57), (58, conNN fMerge), (59, conN fDead), (60, cSort 61)]) (by simpa using ⟨s_HasBad, s_Merge, s_Dead, s_sort⟩)) mixed Tryz.func29 k29 c29 fun args s r ee h => by
    obtain ⟨v, l, rfl, hr, hl, hp⟩ := pL_some h
    refine ⟨gOf_plain hp, by simp [a29], fun env hlen ha => ?_⟩
    have h0 : E env 0 = _ := ha 0 _ rfl
    have hlen : elen env = _ := hlen
    simp only [a29] at hlen
    unfold a29
    try dsimp only [oO, oG]
    have hL := lenV_read hr
    have q1 := q_HasBad false hr hl
    unfold gOf at hp
    cases hv : l.all Nd.valid
    · rw [hv] at hp q1
      simp only [Bool.false_eq_true, if_false] at hp
      injection hp with hp
      obtain ⟨rfl, rfl⟩ := Prod.mk.inj hp
      simp (config := {contextual := true, maxDischargeDepth := 12}) only [tb, q1, h0, hlen, ↓bD, bU, forall_const, bS, implies_true, isNx, cs_dec, cs_not, cs_and, cs_or, cs_valid, eq_self, ↓wp_cond, ↓wp_loop, ↓reduceIte, reduceCtorEq, Nat.reduceEqDiff, Nat.reduceLT, Nat.reduceAdd, Nat.reduceMul, Int.ofNat_lt, Int.ofNat_le, exists_const, ae_app, ap_slc, Option.map_none, mkR_none, mkR_some, ar_look, ae_mset, ae_rng, ae_mkmap0, ar_ent, lookV_push, lookV_lowed, msetV_push, msetV_lowed, lt_put, same_put, sto_over, sto_lowed, cs_dead, Option.map_some]
      exact ⟨_, rfl, .nil _ _ _⟩
    · rw [hv] at hp q1
      simp only [if_true] at hp
      have hA : ∀ x ∈ l, x.valid = true := by simpa using hv
      simp (config := {contextual := true, maxDischargeDepth := 12}) only [tb, q1, h0, hlen, hL, ↓bD, bU, forall_const, bS, implies_true, isNx, cs_dec, cs_not, cs_and, cs_or, cs_valid, eq_self, ↓wp_cond, ↓wp_loop, ↓reduceIte, reduceCtorEq, Nat.reduceEqDiff, Nat.reduceLT, Nat.reduceAdd, Nat.reduceMul, Int.ofNat_lt, Int.ofNat_le, exists_const, ae_app, ap_slc, Option.map_none, mkR_none, mkR_some, ar_look, ae_mset, ae_rng, ae_mkmap0, ar_ent, lookV_push, lookV_lowed, msetV_push, msetV_lowed, lt_put, same_put, sto_over, sto_lowed, cs_dead, Option.map_some]
      obtain ⟨mM, hmM⟩ : ∃ mM, mM = s.next := ⟨_, rfl⟩
      obtain ⟨mA, hmA⟩ : ∃ mA, mA = (s.push (.map [] 0)).next := ⟨_, rfl⟩
      obtain ⟨I, hI⟩ : ∃ I : Nat → Env → St → Prop, ∀ n e t, I n e t = (Keep s t ∧ ∃ (i : Nat) (M A : List Nd), n + i = l.length ∧ elen e = 89 ∧ E e 23 = v ∧ E e 24 = .int .i64 (l.length : Int) ∧ E e 25 = .int .i64 (i : Int) ∧ E e 4 = .mp mM ∧ E e 5 = .mp mA ∧ t.get mM = some (mapN M) ∧ t.get mA = some (mapN A) ∧ ofFold l [] [] = ofFold (l.drop i) M A ∧ (∀ x ∈ M, x.valid = true) ∧ (∀ x ∈ A, x.valid = true) ∧ M.length ≤ i ∧ (M.map Nd.d).Nodup) := ⟨fun n e t => (Keep s t ∧ ∃ (i : Nat) (M A : List Nd), n + i = l.length ∧ elen e = 89 ∧ E e 23 = v ∧ E e 24 = .int .i64 (l.length : Int) ∧ E e 25 = .int .i64 (i : Int) ∧ E e 4 = .mp mM ∧ E e 5 = .mp mA ∧ t.get mM = some (mapN M) ∧ t.get mA = some (mapN A) ∧ ofFold l [] [] = ofFold (l.drop i) M A ∧ (∀ x ∈ M, x.valid = true) ∧ (∀ x ∈ A, x.valid = true) ∧ M.length ≤ i ∧ (M.map Nd.d).Nodup), fun _ _ _ => rfl⟩
      refine lwp_inv I (n := l.length) ?_ ?_
      · rw [hI]
        refine ⟨((Keep.refl s).push _).push _, 0, [], [], by omega, by simp only [E_pne, E_psame, elen_put, Nat.reduceEqDiff, ne_eq, not_false_eq_true, Nat.reduceLT, hlen], by simp only [E_pne, E_psame, elen_put, Nat.reduceEqDiff, ne_eq, not_false_eq_true, Nat.reduceLT, hlen], by simp only [E_pne, E_psame, elen_put, Nat.reduceEqDiff, ne_eq, not_false_eq_true, Nat.reduceLT, hlen], by simp only [E_pne, E_psame, elen_put, Nat.reduceEqDiff, ne_eq, not_false_eq_true, Nat.reduceLT, hlen]; rfl, by rw [hmM]; simp only [E_pne, E_psame, elen_put, Nat.reduceEqDiff, ne_eq, not_false_eq_true, Nat.reduceLT, hlen], by rw [hmA]; simp only [E_pne, E_psame, elen_put, Nat.reduceEqDiff, ne_eq, not_false_eq_true, Nat.reduceLT, hlen], ?_, ?_, rfl, by simp, by simp, by simp, by simp⟩
        · rw [hmM]
          rw [St.get_push_old _ _ (Nat.lt_succ_self _), St.get_push_new]
          rfl
        · rw [hmA, St.get_push_new]
          rfl
      intro n e t hi
      rw [hI] at hi
      obtain ⟨hK, i, M, A, hn, he, e23, e24, e25, e4, e5, gM, gA, hfold, hvM, hvA, hMi, hnd⟩ := hi
      have lM := lt_of_get gM
      have lA := lt_of_get gA
      have hmA' : s.next ≤ mA := by rw [hmA]; simp
      have hmM' : s.next ≤ mM := by rw [hmM]; exact Nat.le_refl _
      have hne : mM ≠ mA := by rw [hmM, hmA]; simp
      by_cases hlt : i < l.length
      · obtain ⟨x, hx⟩ := getsome hlt
        have hw2 := wrap_add1 (n := i) (by unfold lim at hl; omega)
        obtain ⟨a1, _⟩ := nd_lods hr hK hx
        have i1 := nd_idx hr hx .i64
        have vx := hA x (List.mem_of_getElem? hx)
        have hdr : l.drop i = x :: l.drop (i + 1) := by
          rw [List.drop_eq_getElem_cons hlt]
          congr 1
          have := (List.getElem?_eq_some_iff.1 hx).2
          exact this
        rw [hdr, ofFold, ofStep] at hfold
        have h15 : ((15 : Int) = 0) = False := by decide
        cases ha2 : lookN A x.d with
        | none =>
          have lkA := look_miss gA ha2 (.agg [.int .i64 0, .int .i64 0, .int .i64 0, .int .i64 0, .int .i64 0, .int .i32 0])
          rw [ha2] at hfold
          simp only [Bool.false_eq_true, if_false] at hfold
          by_cases hd : x.x = 0
          · have tAe : ∃ tA, tA = t := ⟨_, rfl⟩
            obtain ⟨tA, htA⟩ := tAe
            have hx0 : (x.x = 0) = True := eq_true hd
            have gMA : tA.get mM = some (mapN M) := by rw [htA]; exact gM
            have gAA : tA.get mA = some (mapN A) := by rw [htA]; exact gA
            have hKA : Keep s tA := by rw [htA]; exact hK
            have hs1 : sameN t.next tA := by rw [htA]; rfl
            have hvA2 := hvA
            rw [if_pos hd] at hfold
            have lMA := lt_of_get gMA
            cases hm : lookN M x.d with
            | none =>
              have lkM := look_miss gMA hm (.agg [.int .i64 0, .int .i64 0, .int .i64 0, .int .i64 0, .int .i64 0, .int .i32 0])
              have mM2 := mset_map gMA x
              rw [hm] at hfold
              simp only at hfold
              obtain ⟨tB, htB⟩ : ∃ tB, tB = tA.put mM (mapN (updN M x)) := ⟨_, rfl⟩
              rw [← htB] at mM2
              have gMB : tB.get mM = some (mapN (updN M x)) := by rw [htB]; exact St.get_put_same gMA
              have gAB : tB.get mA = some (mapN A) := by rw [htB, St.get_put_ne _ _ lMA (Ne.symm hne)]; exact gAA
              have hKB : Keep s tB := by rw [htB]; exact hKA.put _ hmM' lMA
              have lMB := lt_of_get gMB
              have lAB := lt_of_get gAB
              have hs2 : sameN t.next tB := by rw [htB]; exact hs1
              subst htA
              simp (config := {contextual := true, maxDischargeDepth := 12}) only [tb, q_Merge, q_Dead, e23, e24, e25, e4, e5, he, hlt, hw2, a1, i1, lM, lA, lkA, hx0, lkM, mM2, hs1, hs2, lMA, lMB, lAB, ↓bD, bU, forall_const, bS, implies_true, isNx, cs_dec, cs_not, cs_and, cs_or, cs_valid, eq_self, ↓wp_cond, ↓wp_loop, ↓reduceIte, reduceCtorEq, Nat.reduceEqDiff, Nat.reduceLT, Nat.reduceAdd, Nat.reduceMul, Int.ofNat_lt, Int.ofNat_le, exists_const, ae_app, ap_slc, Option.map_none, mkR_none, mkR_some, ar_look, ae_mset, ae_rng, ae_mkmap0, ar_ent, lookV_push, lookV_lowed, msetV_push, msetV_lowed, lt_put, same_put, sto_over, sto_lowed, cs_dead, Option.map_some]
              refine ⟨n - 1, by omega, ?_⟩
              rw [hI]
              refine ⟨by simp (config := {maxDischargeDepth := 12}) only [kt_push, kt_lowed, hKB], i + 1, updN M x, A, by omega, by simp only [E_pne, E_psame, elen_put, Nat.reduceEqDiff, ne_eq, not_false_eq_true, Nat.reduceLT, he], by simp only [E_pne, E_psame, elen_put, Nat.reduceEqDiff, ne_eq, not_false_eq_true, Nat.reduceLT, e23], by simp only [E_pne, E_psame, elen_put, Nat.reduceEqDiff, ne_eq, not_false_eq_true, Nat.reduceLT, e24], by simp only [E_pne, E_psame, elen_put, Nat.reduceEqDiff, ne_eq, not_false_eq_true, Nat.reduceLT, he], by simp only [E_pne, E_psame, elen_put, Nat.reduceEqDiff, ne_eq, not_false_eq_true, Nat.reduceLT, e4], by simp only [E_pne, E_psame, elen_put, Nat.reduceEqDiff, ne_eq, not_false_eq_true, Nat.reduceLT, e5], ?_, ?_, hfold, fun y hy => ?_, hvA2, by have := updN_len M x; omega, updN_nodup hnd⟩
              · simp (config := {maxDischargeDepth := 12}) only [gt_push, lt_push, lt_lowed, lowed_get, lMB, gMB]
              · simp (config := {maxDischargeDepth := 12}) only [gt_push, lt_push, lt_lowed, lowed_get, lAB, gAB]
              · rcases updN_mem hy with rfl | hy
                · exact vx
                · exact hvM y hy
            | some p =>
              obtain ⟨jj, old⟩ := p
              obtain ⟨ho1, ho2⟩ := lookN_some hm
              have vo := hvM old (List.mem_of_getElem? ho1)
              have lkM := look_hit gMA hm (.agg [.int .i64 0, .int .i64 0, .int .i64 0, .int .i64 0, .int .i64 0, .int .i32 0])
              rw [hm] at hfold
              simp only at hfold
              by_cases hc2 : old.clash x = true
              · have hg2 : mergeV old x = .tup [.agg (Nd.av nd0), .int .i64 15] := by simp [mergeV, vo, vx, hc2]
                rw [if_pos hc2] at hfold
                simp only at hfold
                rw [hfold] at hp
                injection hp with hp
                obtain ⟨rfl, rfl⟩ := Prod.mk.inj hp
                subst htA
                simp (config := {contextual := true, maxDischargeDepth := 12}) only [tb, q_Merge, q_Dead, e23, e24, e25, e4, e5, he, hlt, hw2, a1, i1, lM, lA, lkA, hx0, lkM, hg2, h15, hs1, lMA, ↓bD, bU, forall_const, bS, implies_true, isNx, cs_dec, cs_not, cs_and, cs_or, cs_valid, eq_self, ↓wp_cond, ↓wp_loop, ↓reduceIte, reduceCtorEq, Nat.reduceEqDiff, Nat.reduceLT, Nat.reduceAdd, Nat.reduceMul, Int.ofNat_lt, Int.ofNat_le, exists_const, ae_app, ap_slc, Option.map_none, mkR_none, mkR_some, ar_look, ae_mset, ae_rng, ae_mkmap0, ar_ent, lookV_push, lookV_lowed, msetV_push, msetV_lowed, lt_put, same_put, sto_over, sto_lowed, cs_dead, Option.map_some]
                exact ⟨by simp (config := {maxDischargeDepth := 12}) only [kt_push, kt_lowed, hKA], _, rfl, .nil _ _ _⟩
              · have hg2 : mergeV old x = .tup [.agg (Nd.av (old.merge x)), .int .i64 0] := by simp [mergeV, vo, vx, hc2]
                rw [if_neg hc2] at hfold
                simp only at hfold
                have mM2 := mset_map gMA (old.merge x)
                obtain ⟨tB, htB⟩ : ∃ tB, tB = tA.put mM (mapN (updN M (old.merge x))) := ⟨_, rfl⟩
                rw [← htB] at mM2
                have gMB : tB.get mM = some (mapN (updN M (old.merge x))) := by rw [htB]; exact St.get_put_same gMA
                have gAB : tB.get mA = some (mapN A) := by rw [htB, St.get_put_ne _ _ lMA (Ne.symm hne)]; exact gAA
                have hKB : Keep s tB := by rw [htB]; exact hKA.put _ hmM' lMA
                have lMB := lt_of_get gMB
                have lAB := lt_of_get gAB
                have hs2 : sameN t.next tB := by rw [htB]; exact hs1
                subst htA
                simp (config := {contextual := true, maxDischargeDepth := 12}) only [tb, q_Merge, q_Dead, e23, e24, e25, e4, e5, he, hlt, hw2, a1, i1, lM, lA, lkA, hx0, hg2, lkM, mM2, hs1, hs2, lMA, lMB, lAB, ↓bD, bU, forall_const, bS, implies_true, isNx, cs_dec, cs_not, cs_and, cs_or, cs_valid, eq_self, ↓wp_cond, ↓wp_loop, ↓reduceIte, reduceCtorEq, Nat.reduceEqDiff, Nat.reduceLT, Nat.reduceAdd, Nat.reduceMul, Int.ofNat_lt, Int.ofNat_le, exists_const, ae_app, ap_slc, Option.map_none, mkR_none, mkR_some, ar_look, ae_mset, ae_rng, ae_mkmap0, ar_ent, lookV_push, lookV_lowed, msetV_push, msetV_lowed, lt_put, same_put, sto_over, sto_lowed, cs_dead, Option.map_some]
                refine ⟨n - 1, by omega, ?_⟩
                rw [hI]
                refine ⟨by simp (config := {maxDischargeDepth := 12}) only [kt_push, kt_lowed, hKB], i + 1, updN M (old.merge x), A, by omega, by simp only [E_pne, E_psame, elen_put, Nat.reduceEqDiff, ne_eq, not_false_eq_true, Nat.reduceLT, he], by simp only [E_pne, E_psame, elen_put, Nat.reduceEqDiff, ne_eq, not_false_eq_true, Nat.reduceLT, e23], by simp only [E_pne, E_psame, elen_put, Nat.reduceEqDiff, ne_eq, not_false_eq_true, Nat.reduceLT, e24], by simp only [E_pne, E_psame, elen_put, Nat.reduceEqDiff, ne_eq, not_false_eq_true, Nat.reduceLT, he], by simp only [E_pne, E_psame, elen_put, Nat.reduceEqDiff, ne_eq, not_false_eq_true, Nat.reduceLT, e4], by simp only [E_pne, E_psame, elen_put, Nat.reduceEqDiff, ne_eq, not_false_eq_true, Nat.reduceLT, e5], ?_, ?_, hfold, fun y hy => ?_, hvA2, by have := updN_len M (old.merge x); omega, updN_nodup hnd⟩
                · simp (config := {maxDischargeDepth := 12}) only [gt_push, lt_push, lt_lowed, lowed_get, lMB, gMB]
                · simp (config := {maxDischargeDepth := 12}) only [gt_push, lt_push, lt_lowed, lowed_get, lAB, gAB]
                · rcases updN_mem hy with rfl | hy
                  · exact (merge_valid vo vx)
                  · exact hvM y hy
          · have tAe : ∃ tA, tA = t.put mA (mapN (updN A x)) := ⟨_, rfl⟩
            obtain ⟨tA, htA⟩ := tAe
            have hx0 : (x.x = 0) = False := eq_false hd
            have gMA : tA.get mM = some (mapN M) := by rw [htA, St.get_put_ne _ _ lA hne]; exact gM
            have gAA : tA.get mA = some (mapN (updN A x)) := by rw [htA]; exact St.get_put_same gA
            have hKA : Keep s tA := by rw [htA]; exact hK.put _ hmA' lA
            have hs1 : sameN t.next tA := by rw [htA]; rfl
            have mS := mset_map gA x
            rw [← htA] at mS
            have hvA2 : ∀ y ∈ updN A x, y.valid = true := fun y hy => by
              rcases updN_mem hy with rfl | hy
              · exact vx
              · exact hvA y hy
            rw [if_neg hd] at hfold
            have lMA := lt_of_get gMA
            cases hm : lookN M x.d with
            | none =>
              have lkM := look_miss gMA hm (.agg [.int .i64 0, .int .i64 0, .int .i64 0, .int .i64 0, .int .i64 0, .int .i32 0])
              have mM2 := mset_map gMA x
              rw [hm] at hfold
              simp only at hfold
              obtain ⟨tB, htB⟩ : ∃ tB, tB = tA.put mM (mapN (updN M x)) := ⟨_, rfl⟩
              rw [← htB] at mM2
              have gMB : tB.get mM = some (mapN (updN M x)) := by rw [htB]; exact St.get_put_same gMA
              have gAB : tB.get mA = some (mapN (updN A x)) := by rw [htB, St.get_put_ne _ _ lMA (Ne.symm hne)]; exact gAA
              have hKB : Keep s tB := by rw [htB]; exact hKA.put _ hmM' lMA
              have lMB := lt_of_get gMB
              have lAB := lt_of_get gAB
              have hs2 : sameN t.next tB := by rw [htB]; exact hs1
              simp (config := {contextual := true, maxDischargeDepth := 12}) only [tb, q_Merge, q_Dead, e23, e24, e25, e4, e5, he, hlt, hw2, a1, i1, lM, lA, lkA, hx0, mS, lkM, mM2, hs1, hs2, lMA, lMB, lAB, ↓bD, bU, forall_const, bS, implies_true, isNx, cs_dec, cs_not, cs_and, cs_or, cs_valid, eq_self, ↓wp_cond, ↓wp_loop, ↓reduceIte, reduceCtorEq, Nat.reduceEqDiff, Nat.reduceLT, Nat.reduceAdd, Nat.reduceMul, Int.ofNat_lt, Int.ofNat_le, exists_const, ae_app, ap_slc, Option.map_none, mkR_none, mkR_some, ar_look, ae_mset, ae_rng, ae_mkmap0, ar_ent, lookV_push, lookV_lowed, msetV_push, msetV_lowed, lt_put, same_put, sto_over, sto_lowed, cs_dead, Option.map_some]
              refine ⟨n - 1, by omega, ?_⟩
              rw [hI]
              refine ⟨by simp (config := {maxDischargeDepth := 12}) only [kt_push, kt_lowed, hKB], i + 1, updN M x, (updN A x), by omega, by simp only [E_pne, E_psame, elen_put, Nat.reduceEqDiff, ne_eq, not_false_eq_true, Nat.reduceLT, he], by simp only [E_pne, E_psame, elen_put, Nat.reduceEqDiff, ne_eq, not_false_eq_true, Nat.reduceLT, e23], by simp only [E_pne, E_psame, elen_put, Nat.reduceEqDiff, ne_eq, not_false_eq_true, Nat.reduceLT, e24], by simp only [E_pne, E_psame, elen_put, Nat.reduceEqDiff, ne_eq, not_false_eq_true, Nat.reduceLT, he], by simp only [E_pne, E_psame, elen_put, Nat.reduceEqDiff, ne_eq, not_false_eq_true, Nat.reduceLT, e4], by simp only [E_pne, E_psame, elen_put, Nat.reduceEqDiff, ne_eq, not_false_eq_true, Nat.reduceLT, e5], ?_, ?_, hfold, fun y hy => ?_, hvA2, by have := updN_len M x; omega, updN_nodup hnd⟩
              · simp (config := {maxDischargeDepth := 12}) only [gt_push, lt_push, lt_lowed, lowed_get, lMB, gMB]
              · simp (config := {maxDischargeDepth := 12}) only [gt_push, lt_push, lt_lowed, lowed_get, lAB, gAB]
              · rcases updN_mem hy with rfl | hy
                · exact vx
                · exact hvM y hy
            | some p =>
              obtain ⟨jj, old⟩ := p
              obtain ⟨ho1, ho2⟩ := lookN_some hm
              have vo := hvM old (List.mem_of_getElem? ho1)
              have lkM := look_hit gMA hm (.agg [.int .i64 0, .int .i64 0, .int .i64 0, .int .i64 0, .int .i64 0, .int .i32 0])
              rw [hm] at hfold
              simp only at hfold
              by_cases hc2 : old.clash x = true
              · have hg2 : mergeV old x = .tup [.agg (Nd.av nd0), .int .i64 15] := by simp [mergeV, vo, vx, hc2]
                rw [if_pos hc2] at hfold
                simp only at hfold
                rw [hfold] at hp
                injection hp with hp
                obtain ⟨rfl, rfl⟩ := Prod.mk.inj hp
                simp (config := {contextual := true, maxDischargeDepth := 12}) only [tb, q_Merge, q_Dead, e23, e24, e25, e4, e5, he, hlt, hw2, a1, i1, lM, lA, lkA, hx0, mS, lkM, hg2, h15, hs1, lMA, ↓bD, bU, forall_const, bS, implies_true, isNx, cs_dec, cs_not, cs_and, cs_or, cs_valid, eq_self, ↓wp_cond, ↓wp_loop, ↓reduceIte, reduceCtorEq, Nat.reduceEqDiff, Nat.reduceLT, Nat.reduceAdd, Nat.reduceMul, Int.ofNat_lt, Int.ofNat_le, exists_const, ae_app, ap_slc, Option.map_none, mkR_none, mkR_some, ar_look, ae_mset, ae_rng, ae_mkmap0, ar_ent, lookV_push, lookV_lowed, msetV_push, msetV_lowed, lt_put, same_put, sto_over, sto_lowed, cs_dead, Option.map_some]
                exact ⟨by simp (config := {maxDischargeDepth := 12}) only [kt_push, kt_lowed, hKA], _, rfl, .nil _ _ _⟩
              · have hg2 : mergeV old x = .tup [.agg (Nd.av (old.merge x)), .int .i64 0] := by simp [mergeV, vo, vx, hc2]
                rw [if_neg hc2] at hfold
                simp only at hfold
                have mM2 := mset_map gMA (old.merge x)
                obtain ⟨tB, htB⟩ : ∃ tB, tB = tA.put mM (mapN (updN M (old.merge x))) := ⟨_, rfl⟩
                rw [← htB] at mM2
                have gMB : tB.get mM = some (mapN (updN M (old.merge x))) := by rw [htB]; exact St.get_put_same gMA
                have gAB : tB.get mA = some (mapN (updN A x)) := by rw [htB, St.get_put_ne _ _ lMA (Ne.symm hne)]; exact gAA
                have hKB : Keep s tB := by rw [htB]; exact hKA.put _ hmM' lMA
                have lMB := lt_of_get gMB
                have lAB := lt_of_get gAB
                have hs2 : sameN t.next tB := by rw [htB]; exact hs1
                simp (config := {contextual := true, maxDischargeDepth := 12}) only [tb, q_Merge, q_Dead, e23, e24, e25, e4, e5, he, hlt, hw2, a1, i1, lM, lA, lkA, hx0, mS, hg2, lkM, mM2, hs1, hs2, lMA, lMB, lAB, ↓bD, bU, forall_const, bS, implies_true, isNx, cs_dec, cs_not, cs_and, cs_or, cs_valid, eq_self, ↓wp_cond, ↓wp_loop, ↓reduceIte, reduceCtorEq, Nat.reduceEqDiff, Nat.reduceLT, Nat.reduceAdd, Nat.reduceMul, Int.ofNat_lt, Int.ofNat_le, exists_const, ae_app, ap_slc, Option.map_none, mkR_none, mkR_some, ar_look, ae_mset, ae_rng, ae_mkmap0, ar_ent, lookV_push, lookV_lowed, msetV_push, msetV_lowed, lt_put, same_put, sto_over, sto_lowed, cs_dead, Option.map_some]
                refine ⟨n - 1, by omega, ?_⟩
                rw [hI]
                refine ⟨by simp (config := {maxDischargeDepth := 12}) only [kt_push, kt_lowed, hKB], i + 1, updN M (old.merge x), (updN A x), by omega, by simp only [E_pne, E_psame, elen_put, Nat.reduceEqDiff, ne_eq, not_false_eq_true, Nat.reduceLT, he], by simp only [E_pne, E_psame, elen_put, Nat.reduceEqDiff, ne_eq, not_false_eq_true, Nat.reduceLT, e23], by simp only [E_pne, E_psame, elen_put, Nat.reduceEqDiff, ne_eq, not_false_eq_true, Nat.reduceLT, e24], by simp only [E_pne, E_psame, elen_put, Nat.reduceEqDiff, ne_eq, not_false_eq_true, Nat.reduceLT, he], by simp only [E_pne, E_psame, elen_put, Nat.reduceEqDiff, ne_eq, not_false_eq_true, Nat.reduceLT, e4], by simp only [E_pne, E_psame, elen_put, Nat.reduceEqDiff, ne_eq, not_false_eq_true, Nat.reduceLT, e5], ?_, ?_, hfold, fun y hy => ?_, hvA2, by have := updN_len M (old.merge x); omega, updN_nodup hnd⟩
                · simp (config := {maxDischargeDepth := 12}) only [gt_push, lt_push, lt_lowed, lowed_get, lMB, gMB]
                · simp (config := {maxDischargeDepth := 12}) only [gt_push, lt_push, lt_lowed, lowed_get, lAB, gAB]
                · rcases updN_mem hy with rfl | hy
                  · exact (merge_valid vo vx)
                  · exact hvM y hy
        | some p =>
          obtain ⟨j0, x0⟩ := p
          obtain ⟨ho3, ho4⟩ := lookN_some ha2
          have v0 := hvA x0 (List.mem_of_getElem? ho3)
          have lkA := look_hit gA ha2 (.agg [.int .i64 0, .int .i64 0, .int .i64 0, .int .i64 0, .int .i64 0, .int .i32 0])
          rw [ha2] at hfold
          simp only at hfold
          by_cases hc1 : x0.clash x = true
          · have hg1 : mergeV x0 x = .tup [.agg (Nd.av nd0), .int .i64 15] := by simp [mergeV, v0, vx, hc1]
            rw [if_pos hc1] at hfold
            simp only at hfold
            rw [hfold] at hp
            injection hp with hp
            obtain ⟨rfl, rfl⟩ := Prod.mk.inj hp
            simp (config := {contextual := true, maxDischargeDepth := 12}) only [tb, q_Merge, q_Dead, e23, e24, e25, e4, e5, he, hlt, hw2, a1, i1, lM, lA, lkA, hg1, h15, ↓bD, bU, forall_const, bS, implies_true, isNx, cs_dec, cs_not, cs_and, cs_or, cs_valid, eq_self, ↓wp_cond, ↓wp_loop, ↓reduceIte, reduceCtorEq, Nat.reduceEqDiff, Nat.reduceLT, Nat.reduceAdd, Nat.reduceMul, Int.ofNat_lt, Int.ofNat_le, exists_const, ae_app, ap_slc, Option.map_none, mkR_none, mkR_some, ar_look, ae_mset, ae_rng, ae_mkmap0, ar_ent, lookV_push, lookV_lowed, msetV_push, msetV_lowed, lt_put, same_put, sto_over, sto_lowed, cs_dead, Option.map_some]
            exact ⟨by simp (config := {maxDischargeDepth := 12}) only [kt_push, kt_lowed, hK], _, rfl, .nil _ _ _⟩
          · have hg1 : mergeV x0 x = .tup [.agg (Nd.av (x0.merge x)), .int .i64 0] := by simp [mergeV, v0, vx, hc1]
            rw [if_neg hc1] at hfold
            by_cases hd : x.x = 0
            · have tAe : ∃ tA, tA = t := ⟨_, rfl⟩
              obtain ⟨tA, htA⟩ := tAe
              have hx0 : (x.x = 0) = True := eq_true hd
              have gMA : tA.get mM = some (mapN M) := by rw [htA]; exact gM
              have gAA : tA.get mA = some (mapN A) := by rw [htA]; exact gA
              have hKA : Keep s tA := by rw [htA]; exact hK
              have hs1 : sameN t.next tA := by rw [htA]; rfl
              have hvA2 := hvA
              rw [if_pos hd] at hfold
              have lMA := lt_of_get gMA
              cases hm : lookN M x.d with
              | none =>
                have lkM := look_miss gMA hm (.agg [.int .i64 0, .int .i64 0, .int .i64 0, .int .i64 0, .int .i64 0, .int .i32 0])
                have mM2 := mset_map gMA x
                rw [hm] at hfold
                simp only at hfold
                obtain ⟨tB, htB⟩ : ∃ tB, tB = tA.put mM (mapN (updN M x)) := ⟨_, rfl⟩
                rw [← htB] at mM2
                have gMB : tB.get mM = some (mapN (updN M x)) := by rw [htB]; exact St.get_put_same gMA
                have gAB : tB.get mA = some (mapN A) := by rw [htB, St.get_put_ne _ _ lMA (Ne.symm hne)]; exact gAA
                have hKB : Keep s tB := by rw [htB]; exact hKA.put _ hmM' lMA
                have lMB := lt_of_get gMB
                have lAB := lt_of_get gAB
                have hs2 : sameN t.next tB := by rw [htB]; exact hs1
                subst htA
                simp (config := {contextual := true, maxDischargeDepth := 12}) only [tb, q_Merge, q_Dead, e23, e24, e25, e4, e5, he, hlt, hw2, a1, i1, lM, lA, lkA, hg1, hx0, lkM, mM2, hs1, hs2, lMA, lMB, lAB, ↓bD, bU, forall_const, bS, implies_true, isNx, cs_dec, cs_not, cs_and, cs_or, cs_valid, eq_self, ↓wp_cond, ↓wp_loop, ↓reduceIte, reduceCtorEq, Nat.reduceEqDiff, Nat.reduceLT, Nat.reduceAdd, Nat.reduceMul, Int.ofNat_lt, Int.ofNat_le, exists_const, ae_app, ap_slc, Option.map_none, mkR_none, mkR_some, ar_look, ae_mset, ae_rng, ae_mkmap0, ar_ent, lookV_push, lookV_lowed, msetV_push, msetV_lowed, lt_put, same_put, sto_over, sto_lowed, cs_dead, Option.map_some]
                refine ⟨n - 1, by omega, ?_⟩
                rw [hI]
                refine ⟨by simp (config := {maxDischargeDepth := 12}) only [kt_push, kt_lowed, hKB], i + 1, updN M x, A, by omega, by simp only [E_pne, E_psame, elen_put, Nat.reduceEqDiff, ne_eq, not_false_eq_true, Nat.reduceLT, he], by simp only [E_pne, E_psame, elen_put, Nat.reduceEqDiff, ne_eq, not_false_eq_true, Nat.reduceLT, e23], by simp only [E_pne, E_psame, elen_put, Nat.reduceEqDiff, ne_eq, not_false_eq_true, Nat.reduceLT, e24], by simp only [E_pne, E_psame, elen_put, Nat.reduceEqDiff, ne_eq, not_false_eq_true, Nat.reduceLT, he], by simp only [E_pne, E_psame, elen_put, Nat.reduceEqDiff, ne_eq, not_false_eq_true, Nat.reduceLT, e4], by simp only [E_pne, E_psame, elen_put, Nat.reduceEqDiff, ne_eq, not_false_eq_true, Nat.reduceLT, e5], ?_, ?_, hfold, fun y hy => ?_, hvA2, by have := updN_len M x; omega, updN_nodup hnd⟩
                · simp (config := {maxDischargeDepth := 12}) only [gt_push, lt_push, lt_lowed, lowed_get, lMB, gMB]
                · simp (config := {maxDischargeDepth := 12}) only [gt_push, lt_push, lt_lowed, lowed_get, lAB, gAB]
                · rcases updN_mem hy with rfl | hy
                  · exact vx
                  · exact hvM y hy
              | some p =>
                obtain ⟨jj, old⟩ := p
                obtain ⟨ho1, ho2⟩ := lookN_some hm
                have vo := hvM old (List.mem_of_getElem? ho1)
                have lkM := look_hit gMA hm (.agg [.int .i64 0, .int .i64 0, .int .i64 0, .int .i64 0, .int .i64 0, .int .i32 0])
                rw [hm] at hfold
                simp only at hfold
                by_cases hc2 : old.clash x = true
                · have hg2 : mergeV old x = .tup [.agg (Nd.av nd0), .int .i64 15] := by simp [mergeV, vo, vx, hc2]
                  rw [if_pos hc2] at hfold
                  simp only at hfold
                  rw [hfold] at hp
                  injection hp with hp
                  obtain ⟨rfl, rfl⟩ := Prod.mk.inj hp
                  subst htA
                  simp (config := {contextual := true, maxDischargeDepth := 12}) only [tb, q_Merge, q_Dead, e23, e24, e25, e4, e5, he, hlt, hw2, a1, i1, lM, lA, lkA, hg1, hx0, lkM, hg2, h15, hs1, lMA, ↓bD, bU, forall_const, bS, implies_true, isNx, cs_dec, cs_not, cs_and, cs_or, cs_valid, eq_self, ↓wp_cond, ↓wp_loop, ↓reduceIte, reduceCtorEq, Nat.reduceEqDiff, Nat.reduceLT, Nat.reduceAdd, Nat.reduceMul, Int.ofNat_lt, Int.ofNat_le, exists_const, ae_app, ap_slc, Option.map_none, mkR_none, mkR_some, ar_look, ae_mset, ae_rng, ae_mkmap0, ar_ent, lookV_push, lookV_lowed, msetV_push, msetV_lowed, lt_put, same_put, sto_over, sto_lowed, cs_dead, Option.map_some]
                  exact ⟨by simp (config := {maxDischargeDepth := 12}) only [kt_push, kt_lowed, hKA], _, rfl, .nil _ _ _⟩
                · have hg2 : mergeV old x = .tup [.agg (Nd.av (old.merge x)), .int .i64 0] := by simp [mergeV, vo, vx, hc2]
                  rw [if_neg hc2] at hfold
                  simp only at hfold
                  have mM2 := mset_map gMA (old.merge x)
                  obtain ⟨tB, htB⟩ : ∃ tB, tB = tA.put mM (mapN (updN M (old.merge x))) := ⟨_, rfl⟩
                  rw [← htB] at mM2
                  have gMB : tB.get mM = some (mapN (updN M (old.merge x))) := by rw [htB]; exact St.get_put_same gMA
                  have gAB : tB.get mA = some (mapN A) := by rw [htB, St.get_put_ne _ _ lMA (Ne.symm hne)]; exact gAA
                  have hKB : Keep s tB := by rw [htB]; exact hKA.put _ hmM' lMA
                  have lMB := lt_of_get gMB
                  have lAB := lt_of_get gAB
                  have hs2 : sameN t.next tB := by rw [htB]; exact hs1
                  subst htA
                  simp (config := {contextual := true, maxDischargeDepth := 12}) only [tb, q_Merge, q_Dead, e23, e24, e25, e4, e5, he, hlt, hw2, a1, i1, lM, lA, lkA, hg1, hx0, hg2, lkM, mM2, hs1, hs2, lMA, lMB, lAB, ↓bD, bU, forall_const, bS, implies_true, isNx, cs_dec, cs_not, cs_and, cs_or, cs_valid, eq_self, ↓wp_cond, ↓wp_loop, ↓reduceIte, reduceCtorEq, Nat.reduceEqDiff, Nat.reduceLT, Nat.reduceAdd, Nat.reduceMul, Int.ofNat_lt, Int.ofNat_le, exists_const, ae_app, ap_slc, Option.map_none, mkR_none, mkR_some, ar_look, ae_mset, ae_rng, ae_mkmap0, ar_ent, lookV_push, lookV_lowed, msetV_push, msetV_lowed, lt_put, same_put, sto_over, sto_lowed, cs_dead, Option.map_some]
                  refine ⟨n - 1, by omega, ?_⟩
                  rw [hI]
                  refine ⟨by simp (config := {maxDischargeDepth := 12}) only [kt_push, kt_lowed, hKB], i + 1, updN M (old.merge x), A, by omega, by simp only [E_pne, E_psame, elen_put, Nat.reduceEqDiff, ne_eq, not_false_eq_true, Nat.reduceLT, he], by simp only [E_pne, E_psame, elen_put, Nat.reduceEqDiff, ne_eq, not_false_eq_true, Nat.reduceLT, e23], by simp only [E_pne, E_psame, elen_put, Nat.reduceEqDiff, ne_eq, not_false_eq_true, Nat.reduceLT, e24], by simp only [E_pne, E_psame, elen_put, Nat.reduceEqDiff, ne_eq, not_false_eq_true, Nat.reduceLT, he], by simp only [E_pne, E_psame, elen_put, Nat.reduceEqDiff, ne_eq, not_false_eq_true, Nat.reduceLT, e4], by simp only [E_pne, E_psame, elen_put, Nat.reduceEqDiff, ne_eq, not_false_eq_true, Nat.reduceLT, e5], ?_, ?_, hfold, fun y hy => ?_, hvA2, by have := updN_len M (old.merge x); omega, updN_nodup hnd⟩
                  · simp (config := {maxDischargeDepth := 12}) only [gt_push, lt_push, lt_lowed, lowed_get, lMB, gMB]
                  · simp (config := {maxDischargeDepth := 12}) only [gt_push, lt_push, lt_lowed, lowed_get, lAB, gAB]
                  · rcases updN_mem hy with rfl | hy
                    · exact (merge_valid vo vx)
                    · exact hvM y hy
            · have tAe : ∃ tA, tA = t.put mA (mapN (updN A x)) := ⟨_, rfl⟩
              obtain ⟨tA, htA⟩ := tAe
              have hx0 : (x.x = 0) = False := eq_false hd
              have gMA : tA.get mM = some (mapN M) := by rw [htA, St.get_put_ne _ _ lA hne]; exact gM
              have gAA : tA.get mA = some (mapN (updN A x)) := by rw [htA]; exact St.get_put_same gA
              have hKA : Keep s tA := by rw [htA]; exact hK.put _ hmA' lA
              have hs1 : sameN t.next tA := by rw [htA]; rfl
              have mS := mset_map gA x
              rw [← htA] at mS
              have hvA2 : ∀ y ∈ updN A x, y.valid = true := fun y hy => by
                rcases updN_mem hy with rfl | hy
                · exact vx
                · exact hvA y hy
              rw [if_neg hd] at hfold
              have lMA := lt_of_get gMA
              cases hm : lookN M x.d with
              | none =>
                have lkM := look_miss gMA hm (.agg [.int .i64 0, .int .i64 0, .int .i64 0, .int .i64 0, .int .i64 0, .int .i32 0])
                have mM2 := mset_map gMA x
                rw [hm] at hfold
                simp only at hfold
                obtain ⟨tB, htB⟩ : ∃ tB, tB = tA.put mM (mapN (updN M x)) := ⟨_, rfl⟩
                rw [← htB] at mM2
                have gMB : tB.get mM = some (mapN (updN M x)) := by rw [htB]; exact St.get_put_same gMA
                have gAB : tB.get mA = some (mapN (updN A x)) := by rw [htB, St.get_put_ne _ _ lMA (Ne.symm hne)]; exact gAA
                have hKB : Keep s tB := by rw [htB]; exact hKA.put _ hmM' lMA
                have lMB := lt_of_get gMB
                have lAB := lt_of_get gAB
                have hs2 : sameN t.next tB := by rw [htB]; exact hs1
                simp (config := {contextual := true, maxDischargeDepth := 12}) only [tb, q_Merge, q_Dead, e23, e24, e25, e4, e5, he, hlt, hw2, a1, i1, lM, lA, lkA, hg1, hx0, mS, lkM, mM2, hs1, hs2, lMA, lMB, lAB, ↓bD, bU, forall_const, bS, implies_true, isNx, cs_dec, cs_not, cs_and, cs_or, cs_valid, eq_self, ↓wp_cond, ↓wp_loop, ↓reduceIte, reduceCtorEq, Nat.reduceEqDiff, Nat.reduceLT, Nat.reduceAdd, Nat.reduceMul, Int.ofNat_lt, Int.ofNat_le, exists_const, ae_app, ap_slc, Option.map_none, mkR_none, mkR_some, ar_look, ae_mset, ae_rng, ae_mkmap0, ar_ent, lookV_push, lookV_lowed, msetV_push, msetV_lowed, lt_put, same_put, sto_over, sto_lowed, cs_dead, Option.map_some]
                refine ⟨n - 1, by omega, ?_⟩
                rw [hI]
                refine ⟨by simp (config := {maxDischargeDepth := 12}) only [kt_push, kt_lowed, hKB], i + 1, updN M x, (updN A x), by omega, by simp only [E_pne, E_psame, elen_put, Nat.reduceEqDiff, ne_eq, not_false_eq_true, Nat.reduceLT, he], by simp only [E_pne, E_psame, elen_put, Nat.reduceEqDiff, ne_eq, not_false_eq_true, Nat.reduceLT, e23], by simp only [E_pne, E_psame, elen_put, Nat.reduceEqDiff, ne_eq, not_false_eq_true, Nat.reduceLT, e24], by simp only [E_pne, E_psame, elen_put, Nat.reduceEqDiff, ne_eq, not_false_eq_true, Nat.reduceLT, he], by simp only [E_pne, E_psame, elen_put, Nat.reduceEqDiff, ne_eq, not_false_eq_true, Nat.reduceLT, e4], by simp only [E_pne, E_psame, elen_put, Nat.reduceEqDiff, ne_eq, not_false_eq_true, Nat.reduceLT, e5], ?_, ?_, hfold, fun y hy => ?_, hvA2, by have := updN_len M x; omega, updN_nodup hnd⟩
                · simp (config := {maxDischargeDepth := 12}) only [gt_push, lt_push, lt_lowed, lowed_get, lMB, gMB]
                · simp (config := {maxDischargeDepth := 12}) only [gt_push, lt_push, lt_lowed, lowed_get, lAB, gAB]
                · rcases updN_mem hy with rfl | hy
                  · exact vx
                  · exact hvM y hy
              | some p =>
                obtain ⟨jj, old⟩ := p
                obtain ⟨ho1, ho2⟩ := lookN_some hm
                have vo := hvM old (List.mem_of_getElem? ho1)
                have lkM := look_hit gMA hm (.agg [.int .i64 0, .int .i64 0, .int .i64 0, .int .i64 0, .int .i64 0, .int .i32 0])
                rw [hm] at hfold
                simp only at hfold
                by_cases hc2 : old.clash x = true
                · have hg2 : mergeV old x = .tup [.agg (Nd.av nd0), .int .i64 15] := by simp [mergeV, vo, vx, hc2]
                  rw [if_pos hc2] at hfold
                  simp only at hfold
                  rw [hfold] at hp
                  injection hp with hp
                  obtain ⟨rfl, rfl⟩ := Prod.mk.inj hp
                  simp (config := {contextual := true, maxDischargeDepth := 12}) only [tb, q_Merge, q_Dead, e23, e24, e25, e4, e5, he, hlt, hw2, a1, i1, lM, lA, lkA, hg1, hx0, mS, lkM, hg2, h15, hs1, lMA, ↓bD, bU, forall_const, bS, implies_true, isNx, cs_dec, cs_not, cs_and, cs_or, cs_valid, eq_self, ↓wp_cond, ↓wp_loop, ↓reduceIte, reduceCtorEq, Nat.reduceEqDiff, Nat.reduceLT, Nat.reduceAdd, Nat.reduceMul, Int.ofNat_lt, Int.ofNat_le, exists_const, ae_app, ap_slc, Option.map_none, mkR_none, mkR_some, ar_look, ae_mset, ae_rng, ae_mkmap0, ar_ent, lookV_push, lookV_lowed, msetV_push, msetV_lowed, lt_put, same_put, sto_over, sto_lowed, cs_dead, Option.map_some]
                  exact ⟨by simp (config := {maxDischargeDepth := 12}) only [kt_push, kt_lowed, hKA], _, rfl, .nil _ _ _⟩
                · have hg2 : mergeV old x = .tup [.agg (Nd.av (old.merge x)), .int .i64 0] := by simp [mergeV, vo, vx, hc2]
                  rw [if_neg hc2] at hfold
                  simp only at hfold
                  have mM2 := mset_map gMA (old.merge x)
                  obtain ⟨tB, htB⟩ : ∃ tB, tB = tA.put mM (mapN (updN M (old.merge x))) := ⟨_, rfl⟩
                  rw [← htB] at mM2
                  have gMB : tB.get mM = some (mapN (updN M (old.merge x))) := by rw [htB]; exact St.get_put_same gMA
                  have gAB : tB.get mA = some (mapN (updN A x)) := by rw [htB, St.get_put_ne _ _ lMA (Ne.symm hne)]; exact gAA
                  have hKB : Keep s tB := by rw [htB]; exact hKA.put _ hmM' lMA
                  have lMB := lt_of_get gMB
                  have lAB := lt_of_get gAB
                  have hs2 : sameN t.next tB := by rw [htB]; exact hs1
                  simp (config := {contextual := true, maxDischargeDepth := 12}) only [tb, q_Merge, q_Dead, e23, e24, e25, e4, e5, he, hlt, hw2, a1, i1, lM, lA, lkA, hg1, hx0, mS, hg2, lkM, mM2, hs1, hs2, lMA, lMB, lAB, ↓bD, bU, forall_const, bS, implies_true, isNx, cs_dec, cs_not, cs_and, cs_or, cs_valid, eq_self, ↓wp_cond, ↓wp_loop, ↓reduceIte, reduceCtorEq, Nat.reduceEqDiff, Nat.reduceLT, Nat.reduceAdd, Nat.reduceMul, Int.ofNat_lt, Int.ofNat_le, exists_const, ae_app, ap_slc, Option.map_none, mkR_none, mkR_some, ar_look, ae_mset, ae_rng, ae_mkmap0, ar_ent, lookV_push, lookV_lowed, msetV_push, msetV_lowed, lt_put, same_put, sto_over, sto_lowed, cs_dead, Option.map_some]
                  refine ⟨n - 1, by omega, ?_⟩
                  rw [hI]
                  refine ⟨by simp (config := {maxDischargeDepth := 12}) only [kt_push, kt_lowed, hKB], i + 1, updN M (old.merge x), (updN A x), by omega, by simp only [E_pne, E_psame, elen_put, Nat.reduceEqDiff, ne_eq, not_false_eq_true, Nat.reduceLT, he], by simp only [E_pne, E_psame, elen_put, Nat.reduceEqDiff, ne_eq, not_false_eq_true, Nat.reduceLT, e23], by simp only [E_pne, E_psame, elen_put, Nat.reduceEqDiff, ne_eq, not_false_eq_true, Nat.reduceLT, e24], by simp only [E_pne, E_psame, elen_put, Nat.reduceEqDiff, ne_eq, not_false_eq_true, Nat.reduceLT, he], by simp only [E_pne, E_psame, elen_put, Nat.reduceEqDiff, ne_eq, not_false_eq_true, Nat.reduceLT, e4], by simp only [E_pne, E_psame, elen_put, Nat.reduceEqDiff, ne_eq, not_false_eq_true, Nat.reduceLT, e5], ?_, ?_, hfold, fun y hy => ?_, hvA2, by have := updN_len M (old.merge x); omega, updN_nodup hnd⟩
                  · simp (config := {maxDischargeDepth := 12}) only [gt_push, lt_push, lt_lowed, lowed_get, lMB, gMB]
                  · simp (config := {maxDischargeDepth := 12}) only [gt_push, lt_push, lt_lowed, lowed_get, lAB, gAB]
                  · rcases updN_mem hy with rfl | hy
                    · exact (merge_valid vo vx)
                    · exact hvM y hy
      · obtain rfl : i = l.length := by omega
        rw [List.drop_length, ofFold] at hfold
        rw [hfold] at hp
        simp only at hp
        injection hp with hp
        obtain ⟨rfl, rfl⟩ := Prod.mk.inj hp
        have hrg := rng_map gM
        simp (config := {contextual := true, maxDischargeDepth := 12}) only [tb, e23, e24, e25, e4, e5, he, hlt, lM, lA, hrg, ↓st_nxt, ↓bD, bU, forall_const, bS, implies_true, isNx, cs_dec, cs_not, cs_and, cs_or, cs_valid, eq_self, ↓wp_cond, ↓wp_loop, ↓reduceIte, reduceCtorEq, Nat.reduceEqDiff, Nat.reduceLT, Nat.reduceAdd, Nat.reduceMul, Int.ofNat_lt, Int.ofNat_le, exists_const, ae_app, ap_slc, Option.map_none, mkR_none, mkR_some, ar_look, ae_mset, ae_rng, ae_mkmap0, ar_ent, lookV_push, lookV_lowed, msetV_push, msetV_lowed, lt_put, same_put, sto_over, sto_lowed, cs_dead, Option.map_some]
        obtain ⟨pI, hpI⟩ : ∃ pI, pI = t.next := ⟨_, rfl⟩
        obtain ⟨I2, hI2⟩ : ∃ I : Nat → Env → St → Prop, ∀ n e t, I n e t = (Keep s t ∧ ∃ (seen : List Nat) (acc : List Nd), n + seen.length = M.length ∧ elen e = 89 ∧ E e 77 = .ptr pI 0 ∧ t.get mM = some (mapN M) ∧ t.get pI = some (.iter (some mM) M.length seen M.length) ∧ Own ndC s t (E e 16) acc ∧ seen.Nodup ∧ (∀ i ∈ seen, i < M.length) ∧ acc.map some = seen.map fun i => M[i]?) := ⟨fun n e t => (Keep s t ∧ ∃ (seen : List Nat) (acc : List Nd), n + seen.length = M.length ∧ elen e = 89 ∧ E e 77 = .ptr pI 0 ∧ t.get mM = some (mapN M) ∧ t.get pI = some (.iter (some mM) M.length seen M.length) ∧ Own ndC s t (E e 16) acc ∧ seen.Nodup ∧ (∀ i ∈ seen, i < M.length) ∧ acc.map some = seen.map fun i => M[i]?), fun _ _ _ => rfl⟩
        refine lwp_inv I2 (n := M.length) ?_ ?_
        · rw [hI2]
          refine ⟨hK.push _, [], [], by simp, by simp only [E_pne, E_psame, elen_put, Nat.reduceEqDiff, ne_eq, not_false_eq_true, Nat.reduceLT, he], by rw [hpI]; simp only [E_pne, E_psame, elen_put, Nat.reduceEqDiff, ne_eq, not_false_eq_true, Nat.reduceLT, he], ?_, ?_, ?_, by simp, by simp, rfl⟩
          · rw [gt_push lM]; exact gM
          · rw [hpI]; exact St.get_push_new _ _
          · simp only [E_pne, E_psame, elen_put, Nat.reduceEqDiff, ne_eq, not_false_eq_true, Nat.reduceLT, he]; exact .nil _ _ _
        clear e23 e24 e25 e4 e5 he gM gA lM lA
        intro n2 e2 t2 hi2
        rw [hI2] at hi2
        obtain ⟨hK2, seen, acc, hn2, he2, e77, gM2, gI2, hO2, hsd, hsl, hac⟩ := hi2
        have hpI' : s.next ≤ pI := by rw [hpI]; exact hK.next
        have lI2 := lt_of_get gI2
        have lM2 := lt_of_get gM2
        have hMp : mM ≠ pI := by
          intro e
          rw [e, gI2] at gM2
          cases gM2
        simp only [↓wp_seq, ↓wp_reg, ↓st_nxt, aev_t, e77]
        refine next_map gM2 gI2 (fun hall => ?_) (fun i x hx hns => ?_)
        · have hpm := seen_perm hsd hsl hac hall
          have hal : acc.length ≤ lim := by rw [hpm.length_eq]; omega
          have hnd2 : (acc.map Nd.d).Nodup := (hpm.map Nd.d).nodup_iff.2 hnd
          obtain ⟨t3, hsrt, hK3, hO3⟩ := sort_own hK2 hO2 hnd2 hal 61
          have hsm : sortN acc = sortN M := sorted_unique _ _ ((sortN_perm acc).trans (hpm.trans (sortN_perm M).symm)) (sortN_sorted acc hnd2) (sortN_sorted M hnd)
          rw [hsm] at hO3
          simp (config := {contextual := true, maxDischargeDepth := 12}) only [tb, he2, e77, hsrt, ↓bD, bU, forall_const, bS, implies_true, isNx, cs_dec, cs_not, cs_and, cs_or, cs_valid, eq_self, ↓wp_cond, ↓wp_loop, ↓reduceIte, reduceCtorEq, Nat.reduceEqDiff, Nat.reduceLT, Nat.reduceAdd, Nat.reduceMul, Int.ofNat_lt, Int.ofNat_le, exists_const, ae_app, ap_slc, Option.map_none, mkR_none, mkR_some, ar_look, ae_mset, ae_rng, ae_mkmap0, ar_ent, lookV_push, lookV_lowed, msetV_push, msetV_lowed, lt_put, same_put, sto_over, sto_lowed, cs_dead, Option.map_some]
          exact ⟨hK3, _, rfl, hO3⟩
        · obtain ⟨t4, ht4⟩ : ∃ t4, t4 = t2.put pI (.iter (some mM) M.length (seen ++ [i]) M.length) := ⟨_, rfl⟩
          rw [← ht4]
          have gM4 : t4.get mM = some (mapN M) := by rw [ht4, St.get_put_ne _ _ lI2 hMp]; exact gM2
          have gI4 : t4.get pI = some (.iter (some mM) M.length (seen ++ [i]) M.length) := by rw [ht4]; exact St.get_put_same gI2
          have hK4 : Keep s t4 := by rw [ht4]; exact hK2.put _ hpI' lI2
          have hO4 : Own ndC s t4 (E e2 16) acc := by
            rcases hO2 with q | ⟨j, q1, q2, q3, q4⟩
            · exact .inl q
            · refine .inr ⟨j, q1, q2, q3, ?_⟩
              have : j ≠ pI := by
                intro e
                rw [e, gI2] at q4
                cases q4
              rw [ht4, St.get_put_ne _ _ lI2 this]
              exact q4
          have lI4 := lt_of_get gI4
          have lM4 := lt_of_get gM4
          have hen := ent_map gM4 gI4 hx
          obtain ⟨u, t5, hap, hK5, hO5⟩ := appV_one (C := ndC) (hK4.lowed.push (.row (Nd.av x) true)) (hO4.lowed.push _) x 48 (by
            have : acc.length = seen.length := by have := congrArg List.length hac; simpa using this
            unfold lim at *
            simp [roomBytes]
            omega)
          have hap : appV ((t4.lowed.push (.row (Nd.av x) true)).push (.row (Nd.av x) true)) 6 48 (E e2 16) (.sl (t4.lowed.push (.row (Nd.av x) true)).next 0 1 (some 1) 6) = some (u, t5) := hap
          simp (config := {contextual := true, maxDischargeDepth := 12}) only [tb, he2, e77, hen, hap, ↓bD, bU, forall_const, bS, implies_true, isNx, cs_dec, cs_not, cs_and, cs_or, cs_valid, eq_self, ↓wp_cond, ↓wp_loop, ↓reduceIte, reduceCtorEq, Nat.reduceEqDiff, Nat.reduceLT, Nat.reduceAdd, Nat.reduceMul, Int.ofNat_lt, Int.ofNat_le, exists_const, ae_app, ap_slc, Option.map_none, mkR_none, mkR_some, ar_look, ae_mset, ae_rng, ae_mkmap0, ar_ent, lookV_push, lookV_lowed, msetV_push, msetV_lowed, lt_put, same_put, sto_over, sto_lowed, cs_dead, Option.map_some]
          have hne1 : ∀ o n c z, E e2 16 ≠ .sl mM o n c z := by
            intro o n c z e
            rcases hO4 with ⟨q, _⟩ | ⟨j, q1, q2, q3, q4⟩
            · rw [q] at e; cases e
            · rw [q1] at e
              injection e with e
              rw [e, gM4] at q4
              cases q4
          have hne2 : ∀ o n c z, E e2 16 ≠ .sl pI o n c z := by
            intro o n c z e
            rcases hO4 with ⟨q, _⟩ | ⟨j, q1, q2, q3, q4⟩
            · rw [q] at e; cases e
            · rw [q1] at e
              injection e with e
              rw [e, gI4] at q4
              cases q4
          have hil := getlt hx
          refine ⟨n2 - 1, by
            have := room_left hsd hsl hil hns
            omega, ?_⟩
          rw [hI2]
          refine ⟨hK5, seen ++ [i], acc ++ [x], ?_, by simp only [E_pne, E_psame, elen_put, Nat.reduceEqDiff, ne_eq, not_false_eq_true, Nat.reduceLT, he2], by simp only [E_pne, E_psame, elen_put, Nat.reduceEqDiff, ne_eq, not_false_eq_true, Nat.reduceLT, e77], ?_, ?_, by simp only [E_pne, E_psame, elen_put, Nat.reduceEqDiff, ne_eq, not_false_eq_true, Nat.reduceLT, he2]; exact hO5, ?_, ?_, ?_⟩
          · have := room_left hsd hsl hil hns
            simp
            omega
          · exact appV_frame hap hne1 (get_push_some _ (get_push_some _ gM4))
          · exact appV_frame hap hne2 (get_push_some _ (get_push_some _ gI4))
          · rw [List.nodup_append]
            exact ⟨hsd, by simp, fun a ha b hb e => by simp at hb; subst hb; subst e; exact hns ha⟩
          · intro k hk
            rcases List.mem_append.1 hk with hk | hk
            · exact hsl k hk
            · simp at hk; omega
          · rw [List.map_append, List.map_append, hac]
            simp [hx]

end Go.AM
end
/-
  Clone, Copy, Stain; the statement JoinValid in the abstract machine. Own work of this project; in part printed by a program of it.
-/
section
set_option maxRecDepth 100000
set_option maxHeartbeats 8000000
namespace Go.AM
open Go Go.Proofs

/-! ### Stain -/
end Go.AM
end
/-
  The reference's Agree, put, Join; the program's Agree and Within; the helpers of the statements. Own work of this project; in part printed by a program of it.
-/
section
set_option maxRecDepth 100000
set_option maxHeartbeats 8000000
namespace Go.AM
open Go Go.Proofs

theorem q_known (cl : Bool) (s : St) : acall (closed [] (.bool true)) cl [] s = some (.bool true, s) := acall_ro (by simp [closed]) rfl
def agreeL (l m : List Nd) : Bool := l.all fun x => match lookN m x.d with
  | some (_, y) => !x.clash y
  | none => true
end Go.AM
end
/-
  The reference's put and Join. Own work of this project; in part printed by a program of it.
-/
section
set_option maxRecDepth 100000
set_option maxHeartbeats 8000000
namespace Go.AM
open Go Go.Proofs

/-- Where a node goes: behind all that come before it, from the start on. -/
def posL (x : Nd) : List Nd → Nat
  | [] => 0
  | y :: r => if y.d.before x.d = true then posL x r + 1 else 0
def putL (l : List Nd) (x : Nd) : List Nd := l.take (posL x l) ++ x :: l.drop (posL x l)
/-! ### The reference's Join -/
def rmerge (x y : Nd) : Nd := if x.clash y = true then nd0 else x.merge y
def jstep (out : List Nd) (y : Nd) : List Nd := match lookN out y.d with
  | some (k, x) => out.set k (rmerge x y)
  | none => putL out y
def refJ (l m : List Nd) : List Nd := m.foldl jstep l
end Go.AM
end
/-
  Plain laws: the program's join is the reference's. Own work of this project.
-/
section
namespace Go.AM
open Go Go.Proofs

theorem chain_pairwise : ∀ {l : List Nd}, chain ndLt l = true → l.Pairwise ltP
  | [], _ => .nil
  | [x], _ => by simp
  | x :: y :: r, h => by
    rw [chain, Bool.and_eq_true] at h
    have ih := chain_pairwise (l := y :: r) h.2
    have hxy : ltP x y := h.1
    rw [List.pairwise_cons]
    refine ⟨fun z hz => ?_, ih⟩
    rcases List.mem_cons.1 hz with rfl | hz
    · exact hxy
    · exact ltP_trans hxy ((List.pairwise_cons.1 ih).1 z hz)
theorem store_sorted {l : List Nd} (h : storeL l = true) : l.Pairwise ltP := by
  simp only [storeL, Bool.and_eq_true] at h
  exact chain_pairwise h.2
end Go.AM
end
/-
  Plain laws of the join: by what stands at each dot. Own work of this project.
-/
section
namespace Go.AM
open Go Go.Proofs

theorem nodup_of {l : List Nd} (h : l.Pairwise ltP) : l.Nodup := h.imp fun {a b} hab e => by
  subst e
  exact ltP_asymm hab hab
/-! ### At one dot -/
theorem clash_symm (x y : Nd) : x.clash y = y.clash x := by
  rw [Bool.eq_iff_iff, Nd.clash_true, Nd.clash_true]
  grind
theorem clash_self (x : Nd) : x.clash x = false := by
  rw [Nd.clash_false]
  exact ⟨rfl, rfl, rfl, .inr (.inr rfl)⟩
theorem merge_dead {x y : Nd} (h : x.x = 0) : (x.merge y).x = 0 := by
  unfold Nd.merge
  split <;> assumption
end Go.AM
end
/-
  The answers of join.Agree, Within and Join as plain pairs. Own work of this project; in part printed by a program of it.
-/
section
set_option maxRecDepth 100000
set_option maxHeartbeats 8000000
namespace Go.AM
open Go Go.Proofs

def joinsP (l m : List Nd) : List Nd × Int := if storeL l = true ∧ storeL m = true then (if agreeL l m = true then (refJ l m, 0) else ([], 15)) else ([], 2)
end Go.AM
end
/-
  Plain laws: the join of what does not clash is determined by what is in it. Own work of this project.
-/
section
namespace Go.AM
open Go Go.Proofs

/-- No two of them clash. -/
def NC (S : Nd → Prop) : Prop := ∀ x y, S x → S y → x.d = y.d → x.clash y = false
theorem NC.sub {S T : Nd → Prop} (h : NC S) (k : ∀ x, T x → S x) : NC T := fun x y hx hy e => h x y (k x hx) (k y hy) e
/-- All dots of S, each once, in order; dead where one is dead. -/
structure Res (S : Nd → Prop) (j : List Nd) : Prop where
  sorted : j.Pairwise ltP
  sub : ∀ y ∈ j, S y
  dead : ∀ y ∈ j, ∀ z, S z → z.d = y.d → z.x = 0 → y.x = 0
  cover : ∀ z, S z → ∃ y ∈ j, y.d = z.d
theorem nd_eq {x y : Nd} (hc : x.clash y = false) (h0 : x.x = 0 ↔ y.x = 0) : x = y := by
  rw [Nd.clash_false] at hc
  obtain ⟨⟨_, _⟩, ⟨_, _⟩, _, _⟩ := x
  obtain ⟨⟨_, _⟩, ⟨_, _⟩, _, _⟩ := y
  simp only at *
  grind
theorem Res.mem {S : Nd → Prop} (hS : NC S) {j k : List Nd} (h : Res S j) (g : Res S k) {y : Nd} (hy : y ∈ j) : y ∈ k := by
  obtain ⟨y', h1, h2⟩ := g.cover y (h.sub y hy)
  have hc := hS y y' (h.sub y hy) (g.sub y' h1) h2.symm
  have : y = y' := nd_eq hc ⟨fun e => g.dead y' h1 y (h.sub y hy) h2.symm e, fun e => h.dead y hy y' (g.sub y' h1) h2 e⟩
  rw [this]
  exact h1
theorem Res.uniq {S : Nd → Prop} (hS : NC S) {j k : List Nd} (h : Res S j) (g : Res S k) : j = k :=
  sorted_unique j k ((List.perm_ext_iff_of_nodup (nodup_of h.sorted) (nodup_of g.sorted)).2 fun x => ⟨fun hx => h.mem hS g hx, fun hx => g.mem hS h hx⟩) h.sorted g.sorted
theorem Res.congr {S T : Nd → Prop} {j : List Nd} (h : Res S j) (e : ∀ x, S x ↔ T x) : Res T j :=
  ⟨h.sorted, fun y hy => (e y).1 (h.sub y hy), fun y hy z hz => h.dead y hy z ((e z).2 hz), fun z hz => h.cover z ((e z).2 hz)⟩
/-- The join of a join. -/
theorem Res.step {S T : Nd → Prop} {j k : List Nd} (h : Res S j) (g : Res (fun x => x ∈ j ∨ T x) k) : Res (fun x => S x ∨ T x) k := by
  refine ⟨g.sorted, fun y hy => ?_, fun y hy z hz e z0 => ?_, fun z hz => ?_⟩
  · rcases g.sub y hy with q | q
    · exact .inl (h.sub y q)
    · exact .inr q
  · rcases hz with q | q
    · obtain ⟨y', h1, h2⟩ := h.cover z q
      exact g.dead y hy y' (.inl h1) (h2.trans e) (h.dead y' h1 z q h2.symm z0)
    · exact g.dead y hy z (.inr q) e z0
  · rcases hz with q | q
    · obtain ⟨y', h1, h2⟩ := h.cover z q
      obtain ⟨y, h3, h4⟩ := g.cover y' (.inl h1)
      exact ⟨y, h3, h4.trans h2⟩
    · exact g.cover z (.inr q)
/-! ### store.Of: one list with all -/
theorem updN_mem' {l : List Nd} {x y : Nd} (hn : (l.map Nd.d).Nodup) (h : y ∈ updN l x) : y = x ∨ (y ∈ l ∧ y.d ≠ x.d) := by
  unfold updN at h
  split at h
  · rename_i j old hj
    obtain ⟨h1, h2⟩ := lookN_some hj
    obtain ⟨i, hi⟩ := List.getElem?_of_mem h
    by_cases hij : j = i
    · subst hij
      rw [List.getElem?_set_self (getlt h1)] at hi
      injection hi with hi
      exact .inl hi.symm
    · rw [List.getElem?_set_ne hij] at hi
      refine .inr ⟨List.mem_of_getElem? hi, fun e => hij ?_⟩
      have hlt : j < (l.map Nd.d).length := by simpa using getlt h1
      have he : (l.map Nd.d)[j]? = (l.map Nd.d)[i]? := by
        rw [List.getElem?_map, List.getElem?_map, h1, hi]
        simp [h2, e]
      exact (List.getElem?_inj hlt hn).1 he
  · rename_i hj
    rcases List.mem_append.1 h with h | h
    · exact .inr ⟨h, lookN_none hj y h⟩
    · exact .inl (by simpa using h)
theorem updN_self (l : List Nd) (x : Nd) : x ∈ updN l x := by
  unfold updN
  split
  · rename_i j old hj
    obtain ⟨h1, _⟩ := lookN_some hj
    exact List.mem_of_getElem? (List.getElem?_set_self (getlt h1))
  · simp
theorem updN_old {l : List Nd} {x z : Nd} (h : z ∈ l) (e : z.d ≠ x.d) : z ∈ updN l x := by
  unfold updN
  split
  · rename_i j old hj
    obtain ⟨h1, h2⟩ := lookN_some hj
    obtain ⟨i, hi⟩ := List.getElem?_of_mem h
    have hij : j ≠ i := by
      rintro rfl
      rw [h1] at hi
      injection hi with hi
      subst hi
      exact e h2
    exact List.mem_of_getElem? (by rw [List.getElem?_set_ne hij]; exact hi)
  · exact List.mem_append.2 (.inl h)
theorem updN_cov {l : List Nd} {x z : Nd} (h : z ∈ l) : ∃ y ∈ updN l x, y.d = z.d := by
  by_cases e : z.d = x.d
  · exact ⟨x, updN_self l x, e.symm⟩
  · exact ⟨z, updN_old h e, rfl⟩
def clA (A : List Nd) (n : Nd) : Bool := match lookN A n.d with
  | some (_, x) => x.clash n
  | none => false
theorem ofStep_eq (M A : List Nd) (n : Nd) : ofStep M A n = if clA A n = true then none else match lookN M n.d with
    | some (_, old) => if old.clash n = true then none else some (updN M (old.merge n), if n.x = 0 then A else updN A n)
    | none => some (updN M n, if n.x = 0 then A else updN A n) := rfl
structure OInv (p M A : List Nd) : Prop where
  nc : NC (· ∈ p)
  nd : (M.map Nd.d).Nodup
  sub : ∀ y ∈ M, y ∈ p
  dead : ∀ y ∈ M, ∀ z ∈ p, z.d = y.d → z.x = 0 → y.x = 0
  cover : ∀ z ∈ p, ∃ y ∈ M, y.d = z.d
  asub : ∀ y ∈ A, y ∈ p ∧ y.x ≠ 0
  acov : ∀ z ∈ p, z.x ≠ 0 → ∃ y ∈ A, y.d = z.d
theorem OInv.nil : OInv [] [] [] := ⟨fun x y h => by simp at h, by simp, by simp, by simp, by simp, by simp, by simp⟩
theorem look_in {l : List Nd} {d : Dot} (h : ∃ y ∈ l, y.d = d) : ∃ j y, lookN l d = some (j, y) := by
  obtain ⟨y, h1, h2⟩ := h
  cases hk : lookN l d with
  | none => exact absurd h2 (lookN_none hk y h1)
  | some p => exact ⟨p.1, p.2, rfl⟩
theorem OInv.step {p M A : List Nd} (h : OInv p M A) (n : Nd) : match ofStep M A n with
    | some (M', A') => OInv (p ++ [n]) M' A'
    | none => ∃ x ∈ p, x.d = n.d ∧ x.clash n = true := by
  have hA : ∀ z ∈ p, z.x ≠ 0 → z.d = n.d → clA A n = false → z.clash n = false := by
    intro z hz z0 hd hc
    obtain ⟨j, y, hj⟩ := look_in (h.acov z hz z0)
    rw [hd] at hj
    obtain ⟨h1, h2⟩ := lookN_some hj
    obtain ⟨y1, y2⟩ := h.asub y (List.mem_of_getElem? h1)
    unfold clA at hc
    rw [hj] at hc
    simp only at hc
    have : z = y := nd_eq (h.nc z y hz y1 (hd.trans h2.symm)) ⟨fun e => absurd e z0, fun e => absurd e y2⟩
    rw [this]
    exact hc
  have mk : ∀ m : Nd, m.d = n.d → (m = n ∨ m ∈ M) → (n.x = 0 → m.x = 0) → (∀ z ∈ p, z.d = n.d → z.x = 0 → m.x = 0) → (∀ z ∈ p, z.d = n.d → z.clash n = false) → OInv (p ++ [n]) (updN M m) (if n.x = 0 then A else updN A n) := by
    intro m md hm m0 mp hnc
    have hmem : ∀ x, x ∈ p ++ [n] ↔ x ∈ p ∨ x = n := by simp
    refine ⟨fun x y hx hy e => ?_, updN_nodup h.nd, fun y hy => ?_, fun y hy z hz e z0 => ?_, fun z hz => ?_, fun y hy => ?_, fun z hz z0 => ?_⟩
    · rcases (hmem x).1 hx with kx | kx <;> rcases (hmem y).1 hy with ky | ky
      · exact h.nc x y kx ky e
      · rw [ky]; exact hnc x kx (by rw [e, ky])
      · rw [clash_symm, kx]; exact hnc y ky (by rw [← e, kx])
      · rw [kx, ky]; exact clash_self _
    · rw [hmem]
      rcases updN_mem hy with rfl | hy
      · rcases hm with rfl | hm
        · exact .inr rfl
        · exact .inl (h.sub _ hm)
      · exact .inl (h.sub y hy)
    · rw [hmem] at hz
      rcases updN_mem' h.nd hy with rfl | ⟨hy, hyd⟩
      · rcases hz with hz | rfl
        · exact mp z hz (e.trans md) z0
        · exact m0 z0
      · rcases hz with hz | rfl
        · exact h.dead y hy z hz e z0
        · exact absurd (e.symm.trans md.symm) hyd
    · rw [hmem] at hz
      rcases hz with hz | rfl
      · obtain ⟨y, h1, h2⟩ := h.cover z hz
        obtain ⟨y', h3, h4⟩ := updN_cov (x := m) h1
        exact ⟨y', h3, h4.trans h2⟩
      · exact ⟨m, updN_self M m, md⟩
    · split at hy
      · exact ⟨(hmem y).2 (.inl (h.asub y hy).1), (h.asub y hy).2⟩
      · rename_i hn0
        rcases updN_mem hy with rfl | hy
        · exact ⟨(hmem _).2 (.inr rfl), hn0⟩
        · exact ⟨(hmem y).2 (.inl (h.asub y hy).1), (h.asub y hy).2⟩
    · rw [hmem] at hz
      rcases hz with hz | rfl
      · obtain ⟨y, h1, h2⟩ := h.acov z hz z0
        split
        · exact ⟨y, h1, h2⟩
        · obtain ⟨y', h3, h4⟩ := updN_cov (x := n) h1
          exact ⟨y', h3, h4.trans h2⟩
      · rw [if_neg z0]
        exact ⟨z, updN_self A z, rfl⟩
  rw [ofStep_eq]
  by_cases hc : clA A n = true
  · rw [if_pos hc]
    unfold clA at hc
    cases hk : lookN A n.d with
    | none => rw [hk] at hc; cases hc
    | some q =>
      obtain ⟨j, y⟩ := q
      rw [hk] at hc
      obtain ⟨h1, h2⟩ := lookN_some hk
      exact ⟨y, (h.asub y (List.mem_of_getElem? h1)).1, h2, hc⟩
  · rw [if_neg hc]
    have hc' : clA A n = false := by simpa using hc
    cases hm : lookN M n.d with
    | none =>
      have hno : ∀ z ∈ p, z.d ≠ n.d := fun z hz e => by
        obtain ⟨y, h1, h2⟩ := h.cover z hz
        exact lookN_none hm y h1 (h2.trans e)
      exact mk n rfl (.inl rfl) (fun e => e) (fun z hz e => absurd e (hno z hz)) fun z hz e => absurd e (hno z hz)
    | some q =>
      obtain ⟨j, old⟩ := q
      obtain ⟨h1, h2⟩ := lookN_some hm
      have ho := List.mem_of_getElem? h1
      simp only
      by_cases hco : old.clash n = true
      · rw [if_pos hco]
        exact ⟨old, h.sub old ho, h2, hco⟩
      · rw [if_neg hco]
        have hco' : old.clash n = false := by simpa using hco
        refine mk (old.merge n) (merge_d h2) ?_ (fun e => ?_) (fun z hz e z0 => ?_) fun z hz e => ?_
        · unfold Nd.merge
          split
          · exact .inl rfl
          · exact .inr ho
        · unfold Nd.merge
          rw [if_pos e]
          exact e
        · exact merge_dead (h.dead old ho z hz (e.trans h2.symm) z0)
        · by_cases z0 : z.x = 0
          · have hzo := h.nc z old hz (h.sub old ho) (e.trans h2.symm)
            rw [Nd.clash_false] at hzo hco' ⊢
            grind
          · exact hA z hz z0 e hc'
/-! ### join.All -/
def ofP (l : List Nd) : List Nd × Int := match gOf l with
  | some (j, some (.int _ e)) => (j, e)
  | _ => ([], 2)
def allP (ls : List (List Nd)) : List Nd × Int := if ls.all storeL = true then ofP ls.flatten else ([], 2)
theorem store_valid {l : List Nd} (h : storeL l = true) : l.all Nd.valid = true := by
  simp only [storeL, Bool.and_eq_true] at h
  exact h.1
/-! ### What JoinHolds asks -/
theorem store_mem {l : List Nd} (h : storeL l = true) {x : Nd} (hx : x ∈ l) : x.valid = true := List.all_eq_true.1 (store_valid h) x hx
structure Holds3 (a b c : List Nd) (bc all : List Nd) : Prop where
  s : storeL bc = true
  j1 : joinsP b c = (bc, 0)
  j2 : joinsP a bc = (all, 0)
  j3 : joinsP (refJ a b) c = (all, 0)
  a1 : allP [a, b, c] = (all, 0)
  a2 : allP [c, b, b, a, c] = (all, 0)
end Go.AM
end
/-
  Plain laws of stores: putting a node, finding and killing by dots. Own work of this project.
-/
section
namespace Go.AM
open Go Go.Proofs

/-- The number of nodes before a dot's place. -/
def kOf (l : List Nd) (d : Dot) : Nat := (l.takeWhile fun x => x.d.before d).length
theorem kOf_cons (x : Nd) (l : List Nd) (d : Dot) : kOf (x :: l) d = if x.d.before d = true then kOf l d + 1 else 0 := by
  unfold kOf
  rw [List.takeWhile_cons]
  split <;> rfl
theorem kOf_pre : ∀ (l : List Nd) (d : Dot), ∀ y ∈ l.take (kOf l d), y.d.before d = true
  | [], d => by simp [kOf]
  | x :: l, d => by
    rw [kOf_cons]
    split
    · rename_i h
      intro y hy
      rw [List.take_succ_cons] at hy
      rcases List.mem_cons.1 hy with rfl | hy
      · exact h
      · exact kOf_pre l d y hy
    · simp
theorem kOf_stop : ∀ (l : List Nd) (d : Dot) (y : Nd) (r : List Nd), l.drop (kOf l d) = y :: r → y.d.before d = false
  | [], d, y, r, h => by simp at h
  | x :: l, d, y, r, h => by
    rw [kOf_cons] at h
    split at h
    · rw [List.drop_succ_cons] at h
      exact kOf_stop l d y r h
    · rename_i hb
      simp only [List.drop_zero] at h
      injection h with h1 h2
      rw [← h1]
      simpa using hb
theorem kOf_eq : ∀ {l : List Nd} {d : Dot} {i : Nat}, i ≤ l.length → (∀ k y, k < i → l[k]? = some y → y.d.before d = true) → (∀ y, l[i]? = some y → y.d.before d = false) → kOf l d = i
  | [], d, i, hi, _, _ => by
    have : i = 0 := by simpa using hi
    subst this
    rfl
  | x :: l, d, 0, _, _, hs => by
    rw [kOf_cons, hs x rfl]
    rfl
  | x :: l, d, i + 1, hi, h, hs => by
    rw [kOf_cons, h 0 x (by omega) rfl, if_pos rfl, kOf_eq (i := i) (by simpa using hi) (fun k y hk hy => h (k + 1) y (by omega) (by simpa using hy)) (fun y hy => hs y (by simpa using hy))]

/-! ### Putting a node -/
theorem at_kOf {l : List Nd} (hl : l.Pairwise ltP) {x : Nd} (hx : x ∈ l) : ∃ r, l.drop (kOf l x.d) = x :: r := by
  have hpre := kOf_pre l x.d
  have hstop := kOf_stop l x.d
  have hsplit : l = l.take (kOf l x.d) ++ l.drop (kOf l x.d) := (List.take_append_drop _ _).symm
  generalize hA : l.take (kOf l x.d) = A at *
  generalize hB : l.drop (kOf l x.d) = B at *
  subst hsplit
  rcases List.mem_append.1 hx with h | h
  · have := hpre x h
    rw [before_irr] at this
    cases this
  · cases B with
    | nil => simp at h
    | cons y r =>
      obtain ⟨_, hlB, _⟩ := List.pairwise_append.1 hl
      obtain ⟨hyr, _⟩ := List.pairwise_cons.1 hlB
      rcases List.mem_cons.1 h with rfl | h
      · exact ⟨r, rfl⟩
      · have h1 := hyr x h
        have h2 := hstop y r rfl
        unfold ltP at h1
        rw [h2] at h1
        cases h1
/-! ### Finding and killing -/
def hasN (l : List Nd) (d : Dot) : Bool := l.any fun x => decide (x.d = d)
theorem hasN_iff {l : List Nd} {d : Dot} : hasN l d = true ↔ ∃ x ∈ l, x.d = d := by simp [hasN]
theorem at_found {l : List Nd} (hl : l.Pairwise ltP) (d : Dot) : (match l[kOf l d]? with
    | some x => decide (x.d = d)
    | none => false) = hasN l d := by
  rw [Bool.eq_iff_iff, hasN_iff]
  constructor
  · intro h
    split at h
    · rename_i x hx
      exact ⟨x, List.mem_of_getElem? hx, by simpa using h⟩
    · cases h
  · rintro ⟨x, hx, rfl⟩
    obtain ⟨r, hr⟩ := at_kOf hl hx
    have : l[kOf l x.d]? = some x := by
      have h := congrArg (·[0]?) hr
      simpa using h
    rw [this]
    simp
end Go.AM
end
/-
  Nodes: the reference of layer 9. Own work of this project; in part printed by a program of it.
-/
section
set_option maxRecDepth 100000
set_option maxHeartbeats 8000000
namespace Go.AM
open Go Go.Proofs

variable {s t u : St}

theorem bY : type_of% (And.intro @ap_mkfn <|
  And.intro @ae_callvV <|
  And.intro @callvV_fn <|
  And.intro @boxV_i <|
  And.intro @boxV_dot <|
  And.intro @sto_dot <|
  And.intro @ap_conv <|
  And.intro @convV_int <|
  And.intro @bslV_0 <|
  And.intro @fstep_d0 <|
  And.intro @fstep_d1 <|
  And.intro @bsl_dot <|
  And.intro @ae_appz <|
  And.intro @ap_cap <|
  And.intro @capV_nils <|
  And.intro @slcV_nils0 <|
  And.intro @slcV_sl0 <|
  And.intro @wrap_0 <|
  And.intro @ae_clr <|
  And.intro @boxV_f <|
  And.intro @fstep_f <|
  @lod_new2) :=
  And.intro @ap_mkfn <|
  And.intro @ae_callvV <|
  And.intro @callvV_fn <|
  And.intro @boxV_i <|
  And.intro @boxV_dot <|
  And.intro @sto_dot <|
  And.intro @ap_conv <|
  And.intro @convV_int <|
  And.intro @bslV_0 <|
  And.intro @fstep_d0 <|
  And.intro @fstep_d1 <|
  And.intro @bsl_dot <|
  And.intro @ae_appz <|
  And.intro @ap_cap <|
  And.intro @capV_nils <|
  And.intro @slcV_nils0 <|
  And.intro @slcV_sl0 <|
  And.intro @wrap_0 <|
  And.intro @ae_clr <|
  And.intro @boxV_f <|
  And.intro @fstep_f <|
  @lod_new2

theorem box_nd (s : St) (n : Nd) (hK : Keep (s.push (.row (Nd.av n) true)) t) : lod t 6 (.ptr s.next 0) = some (.agg (Nd.av n)) ∧ lod t 2 (.ptr s.next 0) = some (.agg (Dot.av n.d)) ∧ lod t 2 (.ptr s.next 2) = some (.agg (Dot.av n.p)) ∧ lod1 t (.ptr s.next 4) = some (.int .i64 n.t) ∧ lod1 t (.ptr s.next 5) = some (.int .i32 n.x) ∧ ltN s.next t := by
  have h := hK.blk (St.get_push_new s (.row (Nd.av n) true))
  refine ⟨by simp [lod, h, Nd.av], by simp [lod, h, Nd.av, Dot.av], by simp [lod, h, Nd.av, Dot.av], ?_, ?_, St.get_lt h⟩ <;> simp [lod1, h, Nd.av]
/-- What a rune can be at all. -/
def okR (x : Int) : Prop := -2147483648 ≤ x ∧ x ≤ 2147483647
def okL (l : List Nd) : Prop := ∀ n ∈ l, okR n.x
def scal (n : Int) : Bool := (decide (0 ≤ n) && decide (n ≤ 1114111)) && (decide (n < 55296) || decide (57343 < n))
theorem wrap_r {x : Int} (h : okR x) : IntKind.i64.wrap x = x := by
  obtain ⟨h1, h2⟩ := h
  have e : (2 : Int) ^ IntKind.i64.bits = 18446744073709551616 := by decide
  simp only [IntKind.wrap, e]
  have e2 : IntKind.i64.signed = true := rfl
  have e3 : (2 : Int) ^ (IntKind.i64.bits - 1) = 9223372036854775808 := by decide
  simp only [e2, e3]
  simp
  omega
theorem good_scal (x : Int) : (!decide (x = 0) && scal x) = goodRune x := by
  rw [Bool.eq_iff_iff]
  simp [goodRune, validRune, scal]
  omega
noncomputable def R_RScal : Con := runFn (tb []) a81
theorem s_RScal : SoundAt Tryz.prog 81 R_RScal := run_sound (tb_sound (l := []) (by simp)) mixed Tryz.func81 k81 c81
theorem n_RScal : noNxtC a81.body = true := by kernel_rfl
theorem w_RScal {s : St} (n : Int) : ∀ env : Env, elen env = a81.ntmps → (∀ i x_, [.int .i64 n][i]? = some x_ → E env i = x_) → awp (tb []) a81.body (fun x e t => (∀ i, x ≠ .exit i) ∧ aresults e t a81.results = some (.bool (scal n)) ∧ Keep s t) env s := by
  intro env hlen ha
  have h0 : E env 0 = _ := ha 0 _ rfl
  have hlen : elen env = _ := hlen
  simp only [a81] at hlen
  unfold a81
  try dsimp only [oO, oG]
  have hS : ((decide (0 ≤ n) && decide (n ≤ 1114111)) && (decide (n < 55296) || decide (57343 < n))) = scal n := rfl
  simp (config := {contextual := true, maxDischargeDepth := 12}) only [tb_at, h0, hlen, hS, ↓bD, bU, forall_const, bS, implies_true, isNx, eq_self, ↓wp_cond, ↓wp_loop, ↓reduceIte, reduceCtorEq, Nat.reduceEqDiff, Nat.reduceLT, Nat.reduceAdd, Nat.reduceMul, bT, ↓sg_bsl, ↓st_callf, bX, List.cons_append, List.nil_append, ↓st_appf, bY]
  all_goals exact .refl s
theorem q_RScal (cl : Bool) {s : St} (n : Int) : acall R_RScal cl [.int .i64 n] s = some (.bool (scal n), s) := run_same n_RScal (by simp [a81]) rfl (w_RScal (s := lowd s) n)
noncomputable def R_R2Val : Con := runFn (tb [(81, R_RScal)]) a46
theorem s_R2Val : SoundAt Tryz.prog 46 R_R2Val := run_sound (tb_sound (l := [(81, R_RScal)]) (by simpa using s_RScal)) mixed Tryz.func46 k46 c46
theorem n_R2Val : noNxtC a46.body = true := by kernel_rfl
theorem w_R2Val {s : St} {r0 : Int} (hx : okR r0) : ∀ env : Env, elen env = a46.ntmps → (∀ i x_, [.int .i32 r0][i]? = some x_ → E env i = x_) → awp (tb [(81, R_RScal)]) a46.body (fun x e t => (∀ i, x ≠ .exit i) ∧ aresults e t a46.results = some (.bool (goodRune r0)) ∧ Keep s t) env s := by
  intro env hlen ha
  have h0 : E env 0 = _ := ha 0 _ rfl
  have hlen : elen env = _ := hlen
  simp only [a46] at hlen
  unfold a46
  try dsimp only [oO, oG]
  have hw := wrap_r hx
  have q := q_RScal false r0 (s := s)
  have hS := good_scal r0
  simp (config := {contextual := true, maxDischargeDepth := 12}) only [tb_at, h0, hlen, hw, q, hS, ↓bD, bU, forall_const, bS, implies_true, isNx, eq_self, ↓wp_cond, ↓wp_loop, ↓reduceIte, reduceCtorEq, Nat.reduceEqDiff, Nat.reduceLT, Nat.reduceAdd, Nat.reduceMul, bT, ↓sg_bsl, ↓st_callf, bX, List.cons_append, List.nil_append, ↓st_appf, bY]
  all_goals exact .refl s
theorem q_R2Val (cl : Bool) {s : St} {r0 : Int} (hx : okR r0) : acall R_R2Val cl [.int .i32 r0] s = some (.bool (goodRune r0), s) := run_same n_R2Val (by simp [a46]) rfl (w_R2Val (s := lowd s) hx)
noncomputable def R_RRoot : Con := runFn (tb []) a45
theorem s_RRoot : SoundAt Tryz.prog 45 R_RRoot := run_sound (tb_sound (l := []) (by simp)) mixed Tryz.func45 k45 c45
theorem n_RRoot : noNxtC a45.body = true := by kernel_rfl
theorem w_RRoot {s : St} (d : Dot) : ∀ env : Env, elen env = a45.ntmps → (∀ i x_, [.agg (Dot.av d)][i]? = some x_ → E env i = x_) → awp (tb []) a45.body (fun x e t => (∀ i, x ≠ .exit i) ∧ aresults e t a45.results = some (.bool d.root) ∧ Keep s t) env s := by
  intro env hlen ha
  have h0 : E env 0 = _ := ha 0 _ rfl
  have hlen : elen env = _ := hlen
  simp only [a45] at hlen
  unfold a45
  try dsimp only [oO, oG]
  obtain ⟨b1, b2, b3, b4⟩ := box_dot s d (.refl _)
  have hS : (decide (d.r = 0) && decide (d.c = 0)) = d.root := by simp [Dot.root, Dot.mk_eq]
  simp (config := {contextual := true, maxDischargeDepth := 12}) only [tb_at, h0, hlen, b1, b2, b3, b4, hS, ↓bD, bU, forall_const, bS, implies_true, isNx, eq_self, ↓wp_cond, ↓wp_loop, ↓reduceIte, reduceCtorEq, Nat.reduceEqDiff, Nat.reduceLT, Nat.reduceAdd, Nat.reduceMul, bT, ↓sg_bsl, ↓st_callf, bX, List.cons_append, List.nil_append, ↓st_appf, bY]
  all_goals exact (Keep.refl s).push _
theorem q_RRoot (cl : Bool) {s : St} (d : Dot) : acall R_RRoot cl [.agg (Dot.av d)] s = some (.bool d.root, s) := run_same n_RRoot (by simp [a45]) rfl (w_RRoot (s := lowd s) d)
noncomputable def R_RNVal : Con := runFn (tb [(12, R_RDVal), (45, R_RRoot), (46, R_R2Val)]) a14
theorem s_RNVal : SoundAt Tryz.prog 14 R_RNVal := run_sound (tb_sound (l := [(12, R_RDVal), (45, R_RRoot), (46, R_R2Val)]) (by simpa using ⟨s_RDVal, s_RRoot, s_R2Val⟩)) mixed Tryz.func14 k14 c14
theorem n_RNVal : noNxtC a14.body = true := by kernel_rfl
theorem w_RNVal {s : St} {n : Nd} (hx : okR n.x) : ∀ env : Env, elen env = a14.ntmps → (∀ i x_, [.agg (Nd.av n)][i]? = some x_ → E env i = x_) → awp (tb [(12, R_RDVal), (45, R_RRoot), (46, R_R2Val)]) a14.body (fun x e t => (∀ i, x ≠ .exit i) ∧ aresults e t a14.results = some (.bool n.valid) ∧ Keep s t) env s := by
  intro env hlen ha
  have h0 : E env 0 = _ := ha 0 _ rfl
  have hlen : elen env = _ := hlen
  simp only [a14] at hlen
  unfold a14
  try dsimp only [oO, oG]
  have hK : Keep s (s.push (.row (Nd.av n) true)) := (Keep.refl s).push _
  obtain ⟨b1, b2, b3, b4, b5, b6⟩ := box_nd s n (.refl _)
  have q1 := q_RDVal false n.d (s := s.push (.row (Nd.av n) true))
  have q2 := q_RDVal false n.p (s := s.push (.row (Nd.av n) true))
  have q3 := q_RRoot false n.p (s := s.push (.row (Nd.av n) true))
  have q4 := q_R2Val false hx (s := s.push (.row (Nd.av n) true))
  simp (config := {contextual := true, maxDischargeDepth := 12}) only [tb_at, h0, hlen, b1, b2, b3, b4, b5, b6, q1, q2, q3, q4, notV_bool, ↓bD, bU, forall_const, bS, implies_true, isNx, eq_self, ↓wp_cond, ↓wp_loop, ↓reduceIte, reduceCtorEq, Nat.reduceEqDiff, Nat.reduceLT, Nat.reduceAdd, Nat.reduceMul, bT, ↓sg_bsl, ↓st_callf, bX, List.cons_append, List.nil_append, ↓st_appf, bY]
  refine ⟨fun h => ?_, fun h => ?_⟩
  all_goals
    simp only [Option.some.injEq, AV.bool.injEq]
    rw [Bool.eq_iff_iff]
    simp only [Nd.valid, Bool.and_eq_true, Bool.or_eq_true, Bool.not_eq_true', Bool.or_eq_false_iff, Bool.and_eq_false_imp, decide_eq_true_eq, decide_eq_false_iff_not, Bool.false_eq_true] at h ⊢
    grind
theorem q_RNVal (cl : Bool) {s : St} {n : Nd} (hx : okR n.x) : acall R_RNVal cl [.agg (Nd.av n)] s = some (.bool n.valid, s) := run_same n_RNVal (by simp [a14]) rfl (w_RNVal (s := lowd s) hx)
end Go.AM
end
/-
  Lists of nodes: Clone, Equal, IndexFunc, Grow, Concat, DeleteFunc; as for lists of dots. Own work of this project; in part printed by a program of it.
-/
section
set_option maxRecDepth 100000
set_option maxHeartbeats 8000000
namespace Go.AM
open Go Go.Proofs

variable {s t u : St}
theorem bslV_0N : bslV [] 0 6 [] = some (fun id => .sl id 0 0 (some 0) 6, .row [] true) := nrfl rfl
theorem app_cloneN {v : AV} {l : List Nd} (hr : read ndC s v = some l) (hl : l.length ≤ lim) : ∃ v' t, appV (s.push (.row [] true)) 6 48 (.sl s.next 0 0 (some 0) 6) v = some (v', t) ∧ (NewX ndC s t v' l ∧ CapOK v') ∧ Keep s t := by
  have hK : Keep s (s.push (.row [] true)) := (Keep.refl s).push _
  have hr1 := hK.read hr
  have h2 : ndC.sz = 6 := rfl
  simp only [appV]
  rw [← h2, read_shown hr1, read_len hr1]
  simp only [aappend, if_true, St.get_push_new]
  by_cases h0 : l.length = 0
  · have : l = [] := List.length_eq_zero_iff.1 h0
    subst this
    exact ⟨_, _, if_pos (rfl : ([] : List Nd).length = 0), ⟨.inr ⟨s.next, some 0, rfl, Nat.le_refl _, St.get_push_new _ _⟩, fun _ _ _ _ _ h => by injection h with _ _ h; omega⟩, hK⟩
  · rw [if_neg h0, if_pos ⟨by simp, by unfold lim at hl; unfold roomBytes; omega⟩, if_neg (by omega)]
    refine ⟨_, _, rfl, ⟨.inr ⟨_, none, by rw [Nat.zero_add], hK.next, ?_⟩, fun _ _ _ _ _ h => by cases h⟩, hK.push _⟩
    rw [St.get_push_new]
    simp
noncomputable def R_SClN : Con := runFn (tb []) a72
theorem s_SClN : SoundAt Tryz.prog 72 R_SClN := run_sound (tb_sound (l := []) (by simp)) mixed Tryz.func72 k72 c72
theorem n_SClN : noNxtC a72.body = true := by kernel_rfl
theorem w_SClN {s : St} {v : AV} {l : List Nd} (hr : read ndC s v = some l) (hl : l.length ≤ lim) : ∀ env : Env, elen env = a72.ntmps → (∀ i x_, [v][i]? = some x_ → E env i = x_) → awp (tb []) a72.body (fun x e t => (∀ i, x ≠ .exit i) ∧ ∃ r, aresults e t a72.results = some r ∧ (NewX ndC s t r l ∧ CapOK r) ∧ Keep s t) env s := by
  intro env hlen ha
  have h0 : E env 0 = _ := ha 0 _ rfl
  have hlen : elen env = _ := hlen
  simp only [a72] at hlen
  unfold a72
  try dsimp only [oO, oG]
  cases v with
  | nils =>
    rw [read_nils] at hr
    injection hr with hr
    subst hr
    simp (config := {contextual := true, maxDischargeDepth := 12}) only [tb_at, h0, hlen, ↓bD, bU, forall_const, bS, implies_true, isNx, eq_self, ↓wp_cond, ↓wp_loop, ↓reduceIte, reduceCtorEq, Nat.reduceEqDiff, Nat.reduceLT, Nat.reduceAdd, Nat.reduceMul, bT, ↓sg_bsl, ↓st_callf, bX, ap_mkfn, ae_callvV, callvV_fn, List.cons_append, List.nil_append, boxV_i, boxV_nd, sto_dot, ap_conv, convV_int, bslV_0N]
    first | exact ⟨_, rfl, ⟨.nil _ _ _, .nils⟩, .refl s⟩ | exact ⟨_, rfl, .nil _ _ _, .nils⟩
  | sl id off n cap z =>
    obtain ⟨v', t, hap, hN, hK⟩ := app_cloneN hr hl
    simp (config := {contextual := true, maxDischargeDepth := 12}) only [tb_at, h0, hlen, hap, ↓bD, bU, forall_const, bS, implies_true, isNx, eq_self, ↓wp_cond, ↓wp_loop, ↓reduceIte, reduceCtorEq, Nat.reduceEqDiff, Nat.reduceLT, Nat.reduceAdd, Nat.reduceMul, bT, ↓sg_bsl, ↓st_callf, bX, ap_mkfn, ae_callvV, callvV_fn, List.cons_append, List.nil_append, boxV_i, boxV_nd, sto_dot, ap_conv, convV_int, bslV_0N]
    exact ⟨_, rfl, hN, hK⟩
  | _ => simp [read] at hr
theorem q_SClN {s : St} {v : AV} {l : List Nd} (hr : read ndC s v = some l) (hl : l.length ≤ lim) : ∃ v' t, acall R_SClN false [v] s = some (v', t) ∧ (NewX ndC s t v' l ∧ CapOK v') ∧ Keep s t :=
  run_any n_SClN (by simp [a72]) (fun r t t' hg hn hq => ⟨hq.1.mono fun id b hb => by rw [hg]; exact hb, hq.2⟩) (fun r t hgr hk hq => by obtain ⟨rfl, rfl⟩ := hq.1.ground hgr; exact ⟨.nil _ _ _, .nils⟩) (w_SClN (s := lowd s) (read_low' hr) hl)
def idxN (l : List Nd) (p : Nd → Bool) : Int := match l.findIdx? p with
  | some i => (i : Int)
  | none => -1
theorem idxN_hit {l : List Nd} {p : Nd → Bool} {i : Nat} {x : Nd} (hx : l[i]? = some x) (hp : p x = true) (h : ∀ k y, k < i → l[k]? = some y → p y = false) : idxN l p = (i : Int) := by
  unfold idxN
  have hlt := getlt hx
  have e : l.findIdx? p = some i := by
    rw [List.findIdx?_eq_some_iff_getElem]
    refine ⟨hlt, ?_, fun j hj => ?_⟩
    · rw [List.getElem?_eq_getElem hlt] at hx
      injection hx with hx
      rw [hx, hp]
    · have := h j l[j] hj (List.getElem?_eq_getElem (by omega))
      simp [this]
  rw [e]
theorem idxN_miss {l : List Nd} {p : Nd → Bool} (h : ∀ k y, k < l.length → l[k]? = some y → p y = false) : idxN l p = -1 := by
  unfold idxN
  have e : l.findIdx? p = none := by
    rw [List.findIdx?_eq_none_iff]
    intro x hx
    obtain ⟨k, hk⟩ := List.getElem?_of_mem hx
    exact h k x (getlt hk) hk
  rw [e]
theorem idxN_ge (l : List Nd) (p : Nd → Bool) : (0 ≤ idxN l p) = (l.any p = true) := by
  unfold idxN
  cases h : l.findIdx? p with
  | none =>
    rw [List.findIdx?_eq_none_iff] at h
    simp only [eq_iff_iff]
    constructor
    · intro q; omega
    · intro q
      obtain ⟨x, hx, hp⟩ := List.any_eq_true.1 q
      rw [h x hx] at hp
      cases hp
  | some i =>
    rw [List.findIdx?_eq_some_iff_getElem] at h
    obtain ⟨h1, h2, _⟩ := h
    simp only [eq_iff_iff]
    exact ⟨fun _ => List.any_eq_true.2 ⟨l[i], by simp, h2⟩, fun _ => by omega⟩
theorem slcV_nils0N : slcV 6 .nils none (some (.int .i64 0)) = some .nils := nrfl rfl
theorem slcV_sl0N (j n : Nat) : slcV 6 (.sl j 0 n none 6) none (some (.int .i64 0)) = some (.sl j 0 0 none 6) := nrfl (by
  simp [slcV, optNat, asNatIn])
def PreOwnN (s t : St) (v : AV) (l : List Nd) : Prop := Own ndC s t v l ∨ (l = [] ∧ ∃ j cs, v = .sl j 0 0 none 6 ∧ s.next ≤ j ∧ t.get j = some (.row cs true))
theorem PreOwnN.read {v : AV} {l : List Nd} (h : PreOwnN s t v l) : read ndC t v = some l := by
  rcases h with h | ⟨rfl, j, cs, rfl, _, h⟩
  · exact h.read
  · exact read_of (C := ndC) (n := 0) rfl h (by omega) (by simp [cells_nil])
theorem PreOwnN.mono {v : AV} {l : List Nd} (h : PreOwnN s t v l) (k : ∀ id b, t.get id = some b → u.get id = some b) : PreOwnN s u v l := h.imp (fun h => h.mono k) fun ⟨h1, j, cs, h2, h3, h4⟩ => ⟨h1, j, cs, h2, h3, k _ _ h4⟩
theorem PreOwnN.app {v w : AV} {l m : List Nd} (hK : Keep s t) (h : PreOwnN s t v l) (hr : AM.read ndC t w = some m) (hb : l.length + m.length ≤ 4000000) : ∃ v' t', appV t 6 48 v w = some (v', t') ∧ Keep s t' ∧ PreOwnN s t' v' (l ++ m) := by
  rcases h with h | ⟨rfl, j, cs, rfl, h1, h⟩
  · obtain ⟨v', t', q1, q2, q3⟩ := appV_list hK h hr 48 (by unfold roomBytes; omega)
    exact ⟨v', t', q1, q2, .inl q3⟩
  · have h2 : ndC.sz = 6 := rfl
    simp only [appV]
    rw [← h2, read_shown hr, read_len hr]
    simp only [aappend, if_true, h]
    by_cases h0 : m.length = 0
    · have : m = [] := List.length_eq_zero_iff.1 h0
      subst this
      exact ⟨_, _, if_pos (rfl : ([] : List Nd).length = 0), hK, .inr ⟨rfl, j, cs, rfl, h1, h⟩⟩
    · rw [if_neg h0, if_pos ⟨by omega, by simp at hb; unfold roomBytes; omega⟩]
      refine ⟨_, _, rfl, (hK.put .dead h1 (St.get_lt h)).push _, .inl (.inr ⟨t.next, by simp, by simpa using h0, hK.next, ?_⟩)⟩
      have := St.get_push_new (t.put j .dead) (.row (ndC.cells m) true)
      simpa using this
noncomputable def R_DeadF : Con := runFn (tb [(59, conN fDead)]) a76
theorem s_DeadF : SoundAt Tryz.prog 76 R_DeadF := run_sound (tb_sound (l := [(59, conN fDead)]) (by simpa using s_Dead)) mixed Tryz.func76 k76 c76
theorem n_DeadF : noNxtC a76.body = true := by kernel_rfl
theorem w_DeadF {s : St} (n : Nd) : ∀ env : Env, elen env = a76.ntmps → (∀ i x_, [.agg (Nd.av n)][i]? = some x_ → E env i = x_) → awp (tb [(59, conN fDead)]) a76.body (fun x e t => (∀ i, x ≠ .exit i) ∧ aresults e t a76.results = some (.bool (!decide (n.x = 0))) ∧ Keep s t) env s := by
  intro env hlen ha
  have h0 : E env 0 = _ := ha 0 _ rfl
  have hlen : elen env = _ := hlen
  simp only [a76] at hlen
  unfold a76
  try dsimp only [oO, oG]
  have hK : Keep s (s.push (.row (Nd.av n) true)) := (Keep.refl s).push _
  obtain ⟨b1, b2, b3, b4, b5, b6⟩ := box_nd s n (.refl _)
  simp (config := {contextual := true, maxDischargeDepth := 12}) only [tb_at, h0, hlen, b1, b2, b3, b4, b5, b6, q_Dead, notV_bool, ↓bD, bU, forall_const, bS, implies_true, isNx, eq_self, ↓wp_cond, ↓wp_loop, ↓reduceIte, reduceCtorEq, Nat.reduceEqDiff, Nat.reduceLT, Nat.reduceAdd, Nat.reduceMul, bT, ↓sg_bsl, ↓st_callf, bX, List.cons_append, List.nil_append, ↓st_appf, bY]
  all_goals first | exact hK | skip
theorem q_DeadF (cl : Bool) {s : St} (n : Nd) : acall R_DeadF cl [.agg (Nd.av n)] s = some (.bool (!decide (n.x = 0)), s) := run_same n_DeadF (by simp [a76]) rfl (w_DeadF (s := lowd s) n)
noncomputable def R_IdxN : Con := runFn (tb [(76, R_DeadF)]) a85
theorem s_IdxN : SoundAt Tryz.prog 85 R_IdxN := run_sound (tb_sound (l := [(76, R_DeadF)]) (by simpa using s_DeadF)) mixed Tryz.func85 k85 c85
theorem n_IdxN : noNxtC a85.body = true := by kernel_rfl
theorem w_IdxN {s : St} {v : AV} {l : List Nd} (hr : read ndC s v = some l) (hl : l.length ≤ lim) {T : List (Nat × Con)} {g : Nat} {caps : List AV} (p : Nd → Bool) (hf : ∀ (t : St) (d : Nd), Keep s t → acall (tb T g) false (.agg (Nd.av d) :: caps) t = some (.bool (p d), t)) : ∀ env : Env, elen env = a85.ntmps → (∀ i x_, [v, .fn g caps][i]? = some x_ → E env i = x_) → awp (tb T) a85.body (fun x e t => (∀ i, x ≠ .exit i) ∧ aresults e t a85.results = some (.int .i64 (idxN l p)) ∧ Keep s t) env s := by
  intro env hlen ha
  have h0 : E env 0 = _ := ha 0 _ rfl
  have h1 : E env 1 = _ := ha 1 _ rfl
  have hlen : elen env = _ := hlen
  simp only [a85] at hlen
  unfold a85
  try dsimp only [oO, oG]
  have hL := lenV_read hr
  simp (config := {contextual := true, maxDischargeDepth := 12}) only [tb_at, h0, h1, hlen, hL, ↓bD, bU, forall_const, bS, implies_true, isNx, eq_self, ↓wp_cond, ↓wp_loop, ↓reduceIte, reduceCtorEq, Nat.reduceEqDiff, Nat.reduceLT, Nat.reduceAdd, Nat.reduceMul, bT, ↓sg_bsl, ↓st_callf, bX, ap_mkfn, ae_callvV, callvV_fn, List.cons_append, List.nil_append, boxV_i, boxV_nd, sto_dot]
  obtain ⟨I, hI⟩ : ∃ I : Nat → Env → St → Prop, ∀ n e t, I n e t = (t = s ∧ ∃ i : Nat, n + i = l.length ∧ elen e = 19 ∧ E e 0 = v ∧ E e 1 = .fn g caps ∧ E e 6 = v ∧ E e 7 = .int .i64 (l.length : Int) ∧ E e 8 = .int .i64 (i : Int) ∧ ∀ k y, k < i → l[k]? = some y → p y = false) := ⟨fun n e t => (t = s ∧ ∃ i : Nat, n + i = l.length ∧ elen e = 19 ∧ E e 0 = v ∧ E e 1 = .fn g caps ∧ E e 6 = v ∧ E e 7 = .int .i64 (l.length : Int) ∧ E e 8 = .int .i64 (i : Int) ∧ ∀ k y, k < i → l[k]? = some y → p y = false), fun _ _ _ => rfl⟩
  refine lwp_inv I (n := l.length) ?_ ?_
  · rw [hI]
    exact ⟨rfl, 0, by omega, (by simp only [bE, Nat.reduceEqDiff, bN, Nat.reduceLT, hlen]; try rfl), (by simp only [bE, Nat.reduceEqDiff, bN, Nat.reduceLT, hlen, h0]; try rfl), (by simp only [bE, Nat.reduceEqDiff, bN, Nat.reduceLT, hlen, h1]; try rfl), (by simp only [bE, Nat.reduceEqDiff, bN, Nat.reduceLT, hlen, h0]; try rfl), (by simp only [bE, Nat.reduceEqDiff, bN, Nat.reduceLT, hlen, hL]; try rfl), (by simp only [bE, Nat.reduceEqDiff, bN, Nat.reduceLT, hlen]; try rfl), fun k y hk => by omega⟩
  intro n e t hi
  rw [hI] at hi
  obtain ⟨hK, i, hni, he, e0, e1, e6, e7, e8, hpre⟩ := hi
  subst hK
  by_cases hlt : i < l.length
  · obtain ⟨x, hx⟩ := getsome hlt
    have hw2 := wrap_add1 (n := i) (by unfold lim at hl; omega)
    obtain ⟨a1, a2, a3, a4x, a4y, a4⟩ := nd_lods hr (.refl _) hx
    have i1 := nd_idx hr hx .i64
    have hq := hf _ x (.refl _)
    cases hp : p x
    · rw [hp] at hq
      simp (config := {contextual := true, maxDischargeDepth := 12}) only [tb_at, he, e0, e1, e6, e7, e8, hL, hlt, hw2, a1, i1, hq, ↓bD, bU, forall_const, bS, implies_true, isNx, eq_self, ↓wp_cond, ↓wp_loop, ↓reduceIte, reduceCtorEq, Nat.reduceEqDiff, Nat.reduceLT, Nat.reduceAdd, Nat.reduceMul, bT, ↓sg_bsl, ↓st_callf, bX, ap_mkfn, ae_callvV, callvV_fn, List.cons_append, List.nil_append, boxV_i, boxV_nd, sto_dot]
      refine ⟨n - 1, by omega, ?_⟩
      rw [hI]
      exact ⟨rfl, i + 1, by omega, (by simp only [bE, Nat.reduceEqDiff, bN, Nat.reduceLT, he, e0, e1, e6, e7, e8]; try rfl), (by simp only [bE, Nat.reduceEqDiff, bN, Nat.reduceLT, he, e0, e1, e6, e7, e8]; try rfl), (by simp only [bE, Nat.reduceEqDiff, bN, Nat.reduceLT, he, e0, e1, e6, e7, e8]; try rfl), (by simp only [bE, Nat.reduceEqDiff, bN, Nat.reduceLT, he, e0, e1, e6, e7, e8]; try rfl), (by simp only [bE, Nat.reduceEqDiff, bN, Nat.reduceLT, he, e0, e1, e6, e7, e8]; try rfl), (by simp only [bE, Nat.reduceEqDiff, bN, Nat.reduceLT, he, e0, e1, e6, e7, e8]; try rfl), pre_next (P := fun k y => p y = false) hx hpre hp⟩
    · rw [hp] at hq
      have hS := idxN_hit hx hp hpre
      simp (config := {contextual := true, maxDischargeDepth := 12}) only [tb_at, he, e0, e1, e6, e7, e8, hL, hlt, hw2, a1, i1, hq, hS, ↓bD, bU, forall_const, bS, implies_true, isNx, eq_self, ↓wp_cond, ↓wp_loop, ↓reduceIte, reduceCtorEq, Nat.reduceEqDiff, Nat.reduceLT, Nat.reduceAdd, Nat.reduceMul, bT, ↓sg_bsl, ↓st_callf, bX, ap_mkfn, ae_callvV, callvV_fn, List.cons_append, List.nil_append, boxV_i, boxV_nd, sto_dot]
      all_goals first | exact .refl _ | skip
  · obtain rfl : i = l.length := by omega
    have hS := idxN_miss hpre
    simp (config := {contextual := true, maxDischargeDepth := 12}) only [tb_at, he, e0, e1, e6, e7, e8, hL, hlt, hS, ↓bD, bU, forall_const, bS, implies_true, isNx, eq_self, ↓wp_cond, ↓wp_loop, ↓reduceIte, reduceCtorEq, Nat.reduceEqDiff, Nat.reduceLT, Nat.reduceAdd, Nat.reduceMul, bT, ↓sg_bsl, ↓st_callf, bX, ap_mkfn, ae_callvV, callvV_fn, List.cons_append, List.nil_append, boxV_i, boxV_nd, sto_dot]
    all_goals first | exact .refl _ | skip
theorem q_IdxN (cl : Bool) {s : St} {v : AV} {l : List Nd} (hr : read ndC s v = some l) (hl : l.length ≤ lim) {g : Nat} {caps : List AV} (p : Nd → Bool) (hf : ∀ (t : St) (d : Nd), Keep s t → acall (tb [(76, R_DeadF)] g) false (.agg (Nd.av d) :: caps) t = some (.bool (p d), t)) : acall R_IdxN cl [v, .fn g caps] s = some (.int .i64 (idxN l p), s) := run_same n_IdxN (by simp [a85]) rfl (w_IdxN (s := lowd s) (read_low' hr) hl p (fun t d h => hf t d ((keep_lowd s).trans h)))
theorem zeros_cellsN (m : Nat) : zeros [.int .i64 0, .int .i64 0, .int .i64 0, .int .i64 0, .int .i64 0, .int .i32 0] m = ndC.cells (List.replicate m ⟨⟨0, 0⟩, ⟨0, 0⟩, 0, 0⟩) := by
  simp [zeros, Cod.cells, ndC, Nd.av]
theorem cells_setDN : ∀ (l : List Nd) (k : Nat) (d : Nd), k < l.length → setAt (ndC.cells l) (k * 6) (Nd.av d) = ndC.cells (l.set k d)
  | [], k, d, h => by simp at h
  | x :: l, 0, d, h => by
    have e : ndC.enc x = Nd.av x := rfl
    simp [setAt, cells_cons, e, Nd.av, ndC]
  | x :: l, k + 1, d, h => by
    have ih := cells_setDN l k d (by simpa using h)
    have e : ndC.enc x = Nd.av x := rfl
    have h2 : (Nd.av x).length = 6 := rfl
    rw [List.set_cons_succ, cells_cons, cells_cons, ← ih, e]
    simp only [setAt]
    have e1 : (k + 1) * 6 = (Nd.av x).length + k * 6 := by rw [h2]; omega
    have e2 : (k + 1) * 6 + (Nd.av d).length = (Nd.av x).length + (k * 6 + (Nd.av d).length) := by rw [h2]; omega
    rw [e2, e1]
    have e3 : List.take ((Nd.av x).length + k * 6) (Nd.av x) = Nd.av x := List.take_of_length_le (by omega)
    have e4 : List.drop ((Nd.av x).length + (k * 6 + (Nd.av d).length)) (Nd.av x) = [] := List.drop_eq_nil_of_le (by omega)
    simp [List.take_append, List.drop_append, e3, e4]
theorem slc_ownN (j n k : Nat) (cap : Option Nat) (h : k ≤ n) (hc : CapOK (.sl j 0 n cap 6)) : slcV 6 (.sl j 0 n cap 6) (some (.int .i64 (k : Int))) none = some (.sl j (k * 6) (n - k) (cap.map (· - k)) 6) ∧ slcV 6 (.sl j 0 n cap 6) none (some (.int .i64 (k : Int))) = some (.sl j 0 k cap 6) := by
  cases cap with
  | none => constructor <;> simp [slcV, optNat, asNatIn, h]
  | some c =>
    have := hc _ _ _ _ _ rfl
    constructor
    · simp [slcV, optNat, asNatIn, h]
    · have hkc : k ≤ c := by omega
      simp [slcV, optNat, asNatIn, hkc]
theorem clr_ownN {j n k : Nat} {cap : Option Nat} {l : List Nd} (h : t.get j = some (.row (ndC.cells l) true)) (hn : n ≤ l.length) (hk : k < n) :
    clrV t [.int .i64 0, .int .i64 0, .int .i64 0, .int .i64 0, .int .i64 0, .int .i32 0] (.sl j (k * 6) (n - k) cap 6) = some (.tup [], t.put j (.row (setAt (ndC.cells l) (k * 6) (ndC.cells (List.replicate (n - k) ⟨⟨0, 0⟩, ⟨0, 0⟩, 0, 0⟩))) true)) := by
  have h2 : ndC.sz = 6 := rfl
  simp only [clrV]
  rw [if_neg (by omega), if_pos (by rfl), h]
  simp only
  rw [if_pos (by rw [cells_len, h2]; omega), zeros_cellsN]
theorem iad_ownN {j n k : Nat} {cap : Option Nat} (off : Nat) (h : k < n) : iadV 6 (.sl j off n cap 6) (.int .i64 (k : Int)) = some (.ptr j (off + k * 6)) := iadV_nat h
theorem lod_ownN {j k : Nat} {l : List Nd} (h : t.get j = some (.row (ndC.cells l) true)) {d : Nd} (hd : l[k]? = some d) : lod t 6 (.ptr j (k * 6)) = some (.agg (Nd.av d)) := by
  have hk := getlt hd
  have h2 : ndC.sz = 6 := rfl
  simp only [lod, h]
  rw [if_pos (by rw [cells_len, h2]; omega)]
  have := cells_at ndC l k d hd 0 6 (by decide)
  rw [h2, Nat.add_zero, List.drop_zero] at this
  rw [this]
  rfl
theorem sto_ownN {j k : Nat} {l : List Nd} (h : t.get j = some (.row (ndC.cells l) true)) (hk : k < l.length) (d : Nd) : sto t 6 (.ptr j (k * 6)) (.agg (Nd.av d)) = some (.und, t.put j (.row (ndC.cells (l.set k d)) true)) := by
  have h2 : ndC.sz = 6 := rfl
  have hcond : (AV.agg (Nd.av d)).cells.length = 6 ∧ (AV.agg (Nd.av d)).cells.all AV.one = true ∧ k * 6 + 6 ≤ (ndC.cells l).length := ⟨rfl, rfl, by rw [cells_len, h2]; omega⟩
  simp only [sto, h]
  rw [if_pos hcond]
  show some (AV.und, t.put j (.row (setAt (ndC.cells l) (k * 6) (Nd.av d)) true)) = _
  rw [cells_setDN l k d hk]
theorem setAt_cells'N (l r : List Nd) (k : Nat) (h : k + r.length ≤ l.length) : setAt (ndC.cells l) (k * 6) (ndC.cells r) = ndC.cells (l.take k ++ (r ++ l.drop (k + r.length))) := by
  have hk : (ndC.cells (l.take k)).length = k * 6 := by
    rw [cells_len, List.length_take]
    have : ndC.sz = 6 := rfl
    rw [this, Nat.min_eq_left (by omega)]
  have hr : (ndC.cells r).length = r.length * 6 := by rw [cells_len]; rfl
  have hl : ndC.cells l = ndC.cells (l.take k) ++ ndC.cells (l.drop k) := by rw [← cells_append, List.take_append_drop]
  have hd : l.drop k = (l.drop k).take r.length ++ l.drop (k + r.length) := by
    rw [← List.drop_drop, List.take_append_drop]
  have hd2 : (ndC.cells ((l.drop k).take r.length)).length = r.length * 6 := by
    rw [cells_len, List.length_take, List.length_drop]
    have : ndC.sz = 6 := rfl
    rw [this, Nat.min_eq_left (by omega)]
  unfold setAt
  rw [cells_append, cells_append, hr]
  have e1 : (ndC.cells l).take (k * 6) = ndC.cells (l.take k) := by rw [hl, ← hk, List.take_left]
  have e2 : (ndC.cells l).drop (k * 6 + r.length * 6) = ndC.cells (l.drop (k + r.length)) := by
    rw [hl, ← hk, ← List.drop_drop, List.drop_left, hd, cells_append, ← hd2, List.drop_left]
  rw [e1, e2, List.append_assoc]
theorem idxN_cases (l : List Nd) (p : Nd → Bool) : (idxN l p = -1 ∧ ∀ x ∈ l, p x = false) ∨ ∃ (i : Nat) (x : Nd), idxN l p = (i : Int) ∧ l[i]? = some x ∧ p x = true ∧ ∀ k y, k < i → l[k]? = some y → p y = false := by
  unfold idxN
  cases h : l.findIdx? p with
  | none =>
    rw [List.findIdx?_eq_none_iff] at h
    exact .inl ⟨rfl, fun x hx => by simpa using h x hx⟩
  | some i =>
    rw [List.findIdx?_eq_some_iff_getElem] at h
    obtain ⟨h1, h2, h3⟩ := h
    refine .inr ⟨i, l[i], rfl, List.getElem?_eq_getElem h1, h2, fun k y hk hy => ?_⟩
    have := h3 k hk
    rw [List.getElem?_eq_getElem (by omega)] at hy
    injection hy with hy
    rw [hy] at this
    simpa using this
theorem filter_takeN {l : List Nd} {p : Nd → Bool} {i : Nat} (h : ∀ k y, k < i → l[k]? = some y → p y = false) (hi : i ≤ l.length) : (l.take i).filter (fun d => !p d) = l.take i := by
  rw [List.filter_eq_self]
  intro x hx
  obtain ⟨k, hk⟩ := List.getElem?_of_mem hx
  have hkl := getlt hk
  rw [List.length_take] at hkl
  rw [List.getElem?_take, if_pos (by omega)] at hk
  rw [h k x (by omega) hk]
  rfl
noncomputable def R_DelN : Con := runFn (tb [(85, R_IdxN), (76, R_DeadF)]) a75
theorem s_DelN : SoundAt Tryz.prog 75 R_DelN := run_sound (tb_sound (l := [(85, R_IdxN), (76, R_DeadF)]) (by simpa using ⟨s_IdxN, s_DeadF⟩)) mixed Tryz.func75 k75 c75
theorem n_DelN : noNxtC a75.body = true := by kernel_rfl
theorem w_DelN {s : St} {T : List (Nat × Con)} (hT : ∀ xs : List AV, tb T 85 xs = R_IdxN xs) {s0 : St} {v : AV} {l : List Nd} (hN : NewR ndC s0 s v l) (hc : CapOK v) (hl : l.length ≤ lim) {g : Nat} {caps : List AV} (p : Nd → Bool) (hf0 : ∀ (t : St) (d : Nd), Keep s t → acall (tb [(76, R_DeadF)] g) false (.agg (Nd.av d) :: caps) t = some (.bool (p d), t)) (hf : ∀ (t : St) (d : Nd), Chg (vids v) s t → acall (tb T g) false (.agg (Nd.av d) :: caps) t = some (.bool (p d), t)) : ∀ env : Env, elen env = a75.ntmps → (∀ i x_, [v, .fn g caps][i]? = some x_ → E env i = x_) → awp (tb T) a75.body (fun x e t => (∀ i, x ≠ .exit i) ∧ ∃ r, aresults e t a75.results = some r ∧ NewR ndC s0 t r (l.filter fun d => !p d) ∧ Chg (vids v) s t ∧ (v = .nils → r = .nils ∧ Keep s t) ∧ (v ≠ .nils → r.ground = false)) env s := by
  intro env hlen ha
  have h0 : E env 0 = _ := ha 0 _ rfl
  have h1 : E env 1 = _ := ha 1 _ rfl
  have hlen : elen env = _ := hlen
  simp only [a75] at hlen
  unfold a75
  try dsimp only [oO, oG]
  have q0 : ∀ cl, acall (tb T 85) cl [v, .fn g caps] s = some (.int .i64 (idxN l p), s) := fun cl => by
    have e : tb T 85 = R_IdxN := funext hT
    rw [e]
    exact q_IdxN cl hN.read hl p hf0
  have q0 := q0 false
  rcases hN with ⟨rfl, rfl⟩ | ⟨j, cap, rest, rfl, hj0, hg⟩
  · have hi : idxN [] p = -1 := rfl
    rw [hi] at q0
    simp (config := {contextual := true, maxDischargeDepth := 12}) only [tb_at, h0, h1, hlen, q0, ↓bD, bU, forall_const, bS, implies_true, isNx, eq_self, ↓wp_cond, ↓wp_loop, ↓reduceIte, reduceCtorEq, Nat.reduceEqDiff, Nat.reduceLT, Nat.reduceAdd, Nat.reduceMul, bT, ↓sg_bsl, ↓st_callf, bX, ap_mkfn, ae_callvV, callvV_fn, List.cons_append, List.nil_append, boxV_i, boxV_nd, sto_dot, ap_conv, convV_int, bslV_0N, fstep_d0, fstep_d1, bsl_dot, ae_appz, ap_cap, capV_nils, slcV_nils0N, slcV_sl0N, wrap_0, ae_clr, boxV_f, fstep_f, lod_new2]
    exact ⟨_, rfl, .nil _ _ _, (Keep.refl s).chg _, rfl, fun h => absurd trivial h⟩
  have hN : NewR ndC s0 s (.sl j 0 l.length cap 6) l := .inr ⟨j, cap, rest, rfl, hj0, hg⟩
  have hjl := St.get_lt hg
  have h2 : ndC.sz = 6 := rfl
  rw [h2] at h0 hc q0
  rcases idxN_cases l p with ⟨hi, hall⟩ | ⟨i, x, hi, hx, hpx, hpre⟩
  · rw [hi] at q0
    have hd : l.filter (fun d => !p d) = l := by
      rw [List.filter_eq_self]
      intro x hx
      rw [hall x hx]; rfl
    simp (config := {contextual := true, maxDischargeDepth := 12}) only [tb_at, h0, h1, hlen, q0, ↓bD, bU, forall_const, bS, implies_true, isNx, eq_self, ↓wp_cond, ↓wp_loop, ↓reduceIte, reduceCtorEq, Nat.reduceEqDiff, Nat.reduceLT, Nat.reduceAdd, Nat.reduceMul, bT, ↓sg_bsl, ↓st_callf, bX, ap_mkfn, ae_callvV, callvV_fn, List.cons_append, List.nil_append, boxV_i, boxV_nd, sto_dot, ap_conv, convV_int, bslV_0N, fstep_d0, fstep_d1, bsl_dot, ae_appz, ap_cap, capV_nils, slcV_nils0N, slcV_sl0N, wrap_0, ae_clr, boxV_f, fstep_f, lod_new2]
    exact ⟨_, rfl, by rw [hd]; exact hN, (Keep.refl s).chg _, fun h => h.elim, rfl⟩
  · rw [hi] at q0
    have hil := getlt hx
    have hz : ((i : Int) = -1) = False := eq_false (by omega)
    have hwi := wrap_add1 (n := i) (by unfold lim at hl; omega)
    simp (config := {contextual := true, maxDischargeDepth := 12}) only [tb_at, h0, h1, hlen, q0, hz, hwi, ↓bD, bU, forall_const, bS, implies_true, isNx, eq_self, ↓wp_cond, ↓wp_loop, ↓reduceIte, reduceCtorEq, Nat.reduceEqDiff, Nat.reduceLT, Nat.reduceAdd, Nat.reduceMul, bT, ↓sg_bsl, ↓st_callf, bX, ap_mkfn, ae_callvV, callvV_fn, List.cons_append, List.nil_append, boxV_i, boxV_nd, sto_dot, ap_conv, convV_int, bslV_0N, fstep_d0, fstep_d1, bsl_dot, ae_appz, ap_cap, capV_nils, slcV_nils0N, slcV_sl0N, wrap_0, ae_clr, boxV_f, fstep_f, lod_new2]
    obtain ⟨I, hI⟩ : ∃ I : Nat → Env → St → Prop, ∀ n e t, I n e t = (Chg [j] s t ∧ ∃ (q k : Nat) (L : List Nd), n + q = l.length ∧ elen e = 42 ∧ E e 0 = .sl j 0 l.length cap 6 ∧ E e 1 = .fn g caps ∧ E e 5 = .int .i64 (k : Int) ∧ E e 6 = .int .i64 (q : Int) ∧ q ≤ l.length ∧ k < q ∧ L.length = (l ++ rest).length ∧ t.get j = some (.row (ndC.cells L) true) ∧ L.take k = ((l.take q).filter fun d => !p d) ∧ k = ((l.take q).filter fun d => !p d).length ∧ ∀ x, q ≤ x → L[x]? = (l ++ rest)[x]?) := ⟨fun n e t => (Chg [j] s t ∧ ∃ (q k : Nat) (L : List Nd), n + q = l.length ∧ elen e = 42 ∧ E e 0 = .sl j 0 l.length cap 6 ∧ E e 1 = .fn g caps ∧ E e 5 = .int .i64 (k : Int) ∧ E e 6 = .int .i64 (q : Int) ∧ q ≤ l.length ∧ k < q ∧ L.length = (l ++ rest).length ∧ t.get j = some (.row (ndC.cells L) true) ∧ L.take k = ((l.take q).filter fun d => !p d) ∧ k = ((l.take q).filter fun d => !p d).length ∧ ∀ x, q ≤ x → L[x]? = (l ++ rest)[x]?), fun _ _ _ => rfl⟩
    have hf1 : (l.take (i + 1)).filter (fun d => !p d) = l.take i := by
      rw [take_snoc hx, List.filter_append, filter_takeN hpre (by omega)]
      simp [hpx]
    refine lwp_inv I (n := l.length - (i + 1)) ?_ ?_
    · rw [hI]
      refine ⟨(Keep.refl s).chg _, i + 1, i, l ++ rest, by omega, (by simp only [bE, Nat.reduceEqDiff, bN, Nat.reduceLT, hlen]; try rfl), (by simp only [bE, Nat.reduceEqDiff, bN, Nat.reduceLT, hlen, h0]; try rfl), (by simp only [bE, Nat.reduceEqDiff, bN, Nat.reduceLT, hlen, h1]; try rfl), (by simp only [bE, Nat.reduceEqDiff, bN, Nat.reduceLT, hlen]; try rfl), (by simp only [bE, Nat.reduceEqDiff, bN, Nat.reduceLT, hlen]; try rfl), by omega, by omega, rfl, hg, ?_, ?_, fun _ _ => rfl⟩
      · rw [hf1, List.take_append_of_le_length (by omega)]
      · rw [hf1, List.length_take, Nat.min_eq_left (by omega)]
    clear hlen h0 h1 q0 hz hwi
    intro n e t hi
    rw [hI] at hi
    obtain ⟨hC, q, k, L, hni, he, e0, e1, e5, e6, hq, hkq, hLl, hgt, hLk, hkd, hrest⟩ := hi
    rw [List.length_append] at hLl
    have hjt := St.get_lt hgt
    have hltj : ltN j t := hjt
    by_cases hlt : q < l.length
    · obtain ⟨d, hd⟩ := getsome hlt
      have i1 := iad_ownN (j := j) (cap := cap) 0 hlt
      rw [Nat.zero_add] at i1
      have a1 := lod_ownN hgt (show L[q]? = some d by rw [hrest _ (Nat.le_refl _), List.getElem?_append_left hlt]; exact hd)
      have hw2 := wrap_add1 (n := q) (by unfold lim at hl; omega)
      have hCp : Chg [j] s (t.lowed.push (.row (Nd.av d) true)) := hC.trans ((Keep.refl t).lowed.push _ |>.chg []) (by simp)
      have hq := hf (t.lowed.push (.row (Nd.av d) true)) d hCp
      have hsn : l.take (q + 1) = l.take q ++ [d] := take_snoc hd
      cases hpd : p d
      · rw [hpd] at hq
        have i2 := iad_ownN (j := j) (cap := cap) 0 (show k < l.length by omega)
        rw [Nat.zero_add] at i2
        have st1 := sto_ownN hgt (show k < L.length by omega) d
        have hw3 := wrap_add1 (n := k) (by unfold lim at hl; omega)
        have hf2 : (l.take (q + 1)).filter (fun d => !p d) = (l.take q).filter (fun d => !p d) ++ [d] := by rw [hsn, List.filter_append]; simp [hpd]
        simp (config := {contextual := true, maxDischargeDepth := 12}) only [tb_at, he, e0, e1, e5, e6, lenV_sl, hlt, i1, i2, a1, hltj, hq, hw2, hw3, st1, notV_bool, sto_push_lt, lt_lowed, Bool.not_false, ↓bD, bU, forall_const, bS, implies_true, isNx, eq_self, ↓wp_cond, ↓wp_loop, ↓reduceIte, reduceCtorEq, Nat.reduceEqDiff, Nat.reduceLT, Nat.reduceAdd, Nat.reduceMul, bT, ↓sg_bsl, ↓st_callf, bX, ap_mkfn, ae_callvV, callvV_fn, List.cons_append, List.nil_append, boxV_i, boxV_nd, sto_dot, ap_conv, convV_int, bslV_0N, fstep_d0, fstep_d1, bsl_dot, ae_appz, ap_cap, capV_nils, slcV_nils0N, slcV_sl0N, wrap_0, ae_clr, boxV_f, fstep_f, lod_new2]
        refine ⟨n - 1, by omega, ?_⟩
        rw [hI]
        refine ⟨(hC.put _ (.inl (by simp)) hjt).trans ((Keep.refl _).lowed.push _ |>.chg []) (by simp), q + 1, k + 1, L.set k d, by omega, (by simp only [bE, Nat.reduceEqDiff, bN, Nat.reduceLT, he]; try rfl), (by simp only [bE, Nat.reduceEqDiff, bN, Nat.reduceLT, he, e0]; try rfl), (by simp only [bE, Nat.reduceEqDiff, bN, Nat.reduceLT, he, e1]; try rfl), (by simp only [bE, Nat.reduceEqDiff, bN, Nat.reduceLT, he, e5]; try rfl), (by simp only [bE, Nat.reduceEqDiff, bN, Nat.reduceLT, he]; try rfl), by omega, by omega, by rw [List.length_set, List.length_append]; exact hLl, get_push_some _ (St.get_put_same hgt), ?_, by rw [hf2, List.length_append, ← hkd]; rfl, fun z hz => ?_⟩
        · rw [hf2, ← hLk, List.take_add_one, List.getElem?_set_self (by omega), List.take_set_of_le (Nat.le_refl _)]
          rfl
        · rw [List.getElem?_set_ne (by omega)]
          exact hrest z (by omega)
      · rw [hpd] at hq
        have hf2 : (l.take (q + 1)).filter (fun d => !p d) = (l.take q).filter (fun d => !p d) := by rw [hsn, List.filter_append]; simp [hpd]
        simp (config := {contextual := true, maxDischargeDepth := 12}) only [tb_at, he, e0, e1, e5, e6, lenV_sl, hlt, i1, a1, hltj, hq, hw2, notV_bool, Bool.not_true, ↓bD, bU, forall_const, bS, implies_true, isNx, eq_self, ↓wp_cond, ↓wp_loop, ↓reduceIte, reduceCtorEq, Nat.reduceEqDiff, Nat.reduceLT, Nat.reduceAdd, Nat.reduceMul, bT, ↓sg_bsl, ↓st_callf, bX, ap_mkfn, ae_callvV, callvV_fn, List.cons_append, List.nil_append, boxV_i, boxV_nd, sto_dot, ap_conv, convV_int, bslV_0N, fstep_d0, fstep_d1, bsl_dot, ae_appz, ap_cap, capV_nils, slcV_nils0N, slcV_sl0N, wrap_0, ae_clr, boxV_f, fstep_f, lod_new2]
        refine ⟨n - 1, by omega, ?_⟩
        rw [hI]
        exact ⟨hCp, q + 1, k, L, by omega, (by simp only [bE, Nat.reduceEqDiff, bN, Nat.reduceLT, he]; try rfl), (by simp only [bE, Nat.reduceEqDiff, bN, Nat.reduceLT, he, e0]; try rfl), (by simp only [bE, Nat.reduceEqDiff, bN, Nat.reduceLT, he, e1]; try rfl), (by simp only [bE, Nat.reduceEqDiff, bN, Nat.reduceLT, he, e5]; try rfl), (by simp only [bE, Nat.reduceEqDiff, bN, Nat.reduceLT, he]; try rfl), by omega, by omega, by rw [List.length_append]; exact hLl, get_push_some _ hgt, by rw [hf2]; exact hLk, by rw [hf2]; exact hkd, fun z hz => hrest z (by omega)⟩
    · have hql : q = l.length := by omega
      subst hql
      rw [List.take_length] at hLk hkd
      obtain ⟨sl2, sl3⟩ := slc_ownN j l.length k cap (by omega) hc
      have hcl := clr_ownN (cap := cap.map (· - k)) hgt (n := l.length) (k := k) (by omega) (by omega)
      rw [setAt_cells'N L _ k (by rw [List.length_replicate]; omega), hLk] at hcl
      simp (config := {contextual := true, maxDischargeDepth := 12}) only [tb_at, he, e0, e1, e5, e6, lenV_sl, hlt, sl2, sl3, hcl, ↓bD, bU, forall_const, bS, implies_true, isNx, eq_self, ↓wp_cond, ↓wp_loop, ↓reduceIte, reduceCtorEq, Nat.reduceEqDiff, Nat.reduceLT, Nat.reduceAdd, Nat.reduceMul, bT, ↓sg_bsl, ↓st_callf, bX, ap_mkfn, ae_callvV, callvV_fn, List.cons_append, List.nil_append, boxV_i, boxV_nd, sto_dot, ap_conv, convV_int, bslV_0N, fstep_d0, fstep_d1, bsl_dot, ae_appz, ap_cap, capV_nils, slcV_nils0N, slcV_sl0N, wrap_0, ae_clr, boxV_f, fstep_f, lod_new2]
      exact ⟨_, rfl, .inr ⟨j, cap, _, by rw [← hkd]; rfl, hj0, St.get_put_same hgt⟩, hC.put _ (.inl (by simp [vids])) hjt, fun h => h.elim, rfl⟩
theorem q_DelN {s : St} {s0 : St} {v : AV} {l : List Nd} (hN : NewR ndC s0 s v l) (hc : CapOK v) (hl : l.length ≤ lim) {g : Nat} {caps : List AV} (p : Nd → Bool) (hf0 : ∀ (t : St) (d : Nd), Keep s t → acall (tb [(76, R_DeadF)] g) false (.agg (Nd.av d) :: caps) t = some (.bool (p d), t)) (hf : ∀ (t : St) (d : Nd), Chg (vids v) s t → acall (tb [(85, R_IdxN), (76, R_DeadF)] g) false (.agg (Nd.av d) :: caps) t = some (.bool (p d), t)) : ∃ w t, acall R_DelN false [v, .fn g caps] s = some (w, t) ∧ NewR ndC s0 t w (l.filter fun d => !p d) ∧ Chg (vids v) s t := by
  obtain ⟨r, t, h1, h2, h3, h4, h5⟩ := run_awp n_DelN (args := [v, .fn g caps]) (by simp [a75]) (Q := fun r t => NewR ndC s0 t r (l.filter fun d => !p d) ∧ Chg (vids v) (lowd s) t ∧ (v = .nils → r = .nils ∧ Keep (lowd s) t) ∧ (v ≠ .nils → r.ground = false)) (w_DelN (s := lowd s) (fun xs => rfl) (hN.mono fun _ _ h => h) hc hl p (fun t d h => hf0 t d ((keep_lowd s).trans h)) fun t d h => hf t d ((keep_lowd s).chg _ |>.trans h fun id hid => .inl hid))
  by_cases hv : v = .nils
  · obtain ⟨rfl, hk⟩ := h4 hv
    rcases hN with ⟨_, rfl⟩ | ⟨j, cap, rest, e, _⟩
    · exact ⟨.nils, s, acall_same h1 hk rfl, .nil _ _ _, (Keep.refl s).chg _⟩
    · rw [e] at hv; cases hv
  · obtain ⟨t', g1, g2, g3, g4⟩ := acall_new h1 h3 (.inl (h5 hv))
    exact ⟨r, t', g1, h2.mono fun id b hb => by rw [g2]; exact hb, g4⟩

end Go.AM
end
/-
  Searching a store: BinarySearchFunc, find, Find, Put. Own work of this project; in part printed by a program of it.
-/
section
set_option maxRecDepth 100000
set_option maxHeartbeats 8000000
namespace Go.AM
open Go Go.Proofs

variable {s t u : St}

theorem bin_shr1 (n : Nat) : binOp .shr .no (.int .u64 (n : Int)) (.int .u64 1) = some (.int .u64 ((n / 2 : Nat) : Int)) := by
  simp only [binOp, shOp]
  have h1 : ¬ ((1 : Int) < 0) := by decide
  have h2 : (2 : Int) ^ (min (Int.toNat 1) IntKind.u64.bits) = 2 := by decide
  rw [if_neg h1, h2]
  have : Int.fdiv (n : Int) 2 = ((n / 2 : Nat) : Int) := by
    rw [Int.fdiv_eq_ediv_of_nonneg _ (by decide)]
    omega
  simp only [this]
theorem dcmp_neg (a b : Dot) : (dcmp a b < 0) = (a.before b = true) := by
  rcases dcmp_casesD a b with ⟨h, h1, _⟩ | ⟨h, h1, _⟩ | ⟨h, h1, _⟩ <;> rw [h, h1] <;> simp
theorem dcmp_zero (a b : Dot) : (dcmp a b = 0) = (a = b) := by
  rcases dcmp_casesD a b with ⟨h, h1, h2⟩ | ⟨h, h1, h2⟩ | ⟨h, h1, h2, h3⟩
  · rw [h]
    simp only [eq_iff_iff]
    refine ⟨fun q => by omega, fun q => ?_⟩
    rw [q, before_irr] at h1
    cases h1
  · rw [h]
    simp only [eq_iff_iff]
    refine ⟨fun q => by omega, fun q => ?_⟩
    rw [q, before_irr] at h2
    cases h2
  · rw [h]
    simp [h3]
theorem sorted_lt {l : List Nd} (hl : l.Pairwise ltP) {i k : Nat} {x y : Nd} (hx : l[i]? = some x) (hy : l[k]? = some y) (h : i < k) : x.d.before y.d = true := by
  obtain ⟨h1, rfl⟩ := List.getElem?_eq_some_iff.1 hx
  obtain ⟨h2, rfl⟩ := List.getElem?_eq_some_iff.1 hy
  exact List.pairwise_iff_getElem.1 hl i k h1 h2 h
theorem before_trans {a b c : Dot} (h : a.before b = true) (k : b.before c = true) : a.before c = true := by
  obtain ⟨ar, ac⟩ := a
  obtain ⟨br, bc⟩ := b
  obtain ⟨cr, cc⟩ := c
  simp only [Dot.before, Bool.or_eq_true, Bool.and_eq_true, decide_eq_true_eq] at *
  omega
def fndN (l : List Nd) (d : Dot) : Bool := match l[kOf l d]? with
  | some x => decide (x.d = d)
  | none => false
theorem fnd_has {l : List Nd} (hl : l.Pairwise ltP) (d : Dot) : fndN l d = hasN l d := at_found hl d
def findV (l : List Nd) (d : Dot) : AV := .tup [.int .i64 ((kOf l d : Nat) : Int), .bool (fndN l d)]
noncomputable def R_Find1 : Con := runFn (tb [(62, conDD fCmp)]) a93
theorem s_Find1 : SoundAt Tryz.prog 93 R_Find1 := run_sound (tb_sound (l := [(62, conDD fCmp)]) (by simpa using s_Cmp)) mixed Tryz.func93 k93 c93
theorem n_Find1 : noNxtC a93.body = true := by kernel_rfl
theorem w_Find1 {s : St} (n : Nd) (d : Dot) : ∀ env : Env, elen env = a93.ntmps → (∀ i x_, [.agg (Nd.av n), .agg (Dot.av d)][i]? = some x_ → E env i = x_) → awp (tb [(62, conDD fCmp)]) a93.body (fun x e t => (∀ i, x ≠ .exit i) ∧ aresults e t a93.results = some (.int .i64 (dcmp n.d d)) ∧ Keep s t) env s := by
  intro env hlen ha
  have h0 : E env 0 = _ := ha 0 _ rfl
  have h1 : E env 1 = _ := ha 1 _ rfl
  have hlen : elen env = _ := hlen
  simp only [a93] at hlen
  unfold a93
  try dsimp only [oO, oG]
  have hK1 : Keep s (s.push (.row (Nd.av n) true)) := (Keep.refl s).push _
  have hK2 : Keep (s.push (.row (Nd.av n) true)) ((s.push (.row (Nd.av n) true)).push (.row (Dot.av d) true)) := (Keep.refl _).push _
  obtain ⟨b1, b2, b3, b4, b5, b6⟩ := box_nd s n hK2
  obtain ⟨c1, c2, c3, c4⟩ := box_dot (s.push (.row (Nd.av n) true)) d (.refl _)
  simp (config := {contextual := true, maxDischargeDepth := 12}) only [tb_at, h0, h1, hlen, b1, b2, b6, c1, c4, q_Cmp, ↓bD, bU, forall_const, bS, implies_true, isNx, eq_self, ↓wp_cond, ↓wp_loop, ↓reduceIte, reduceCtorEq, Nat.reduceEqDiff, Nat.reduceLT, Nat.reduceAdd, Nat.reduceMul, bT, ↓sg_bsl, ↓st_callf, bX, List.cons_append, List.nil_append, ↓st_appf, bY, slcV_nils0N, slcV_sl0N, bslV_0N, bin_shr1]
  all_goals first | exact hK1.trans hK2 | skip
theorem q_Find1 (cl : Bool) {s : St} (n : Nd) (d : Dot) : acall R_Find1 cl [.agg (Nd.av n), .agg (Dot.av d)] s = some (.int .i64 (dcmp n.d d), s) := run_same n_Find1 (by simp [a93]) rfl (w_Find1 (s := lowd s) n d)
noncomputable def R_BSrch : Con := runFn (tb [(93, R_Find1)]) a92
theorem s_BSrch : SoundAt Tryz.prog 92 R_BSrch := run_sound (tb_sound (l := [(93, R_Find1)]) (by simpa using s_Find1)) mixed Tryz.func92 k92 c92
theorem n_BSrch : noNxtC a92.body = true := by kernel_rfl
theorem w_BSrch {s : St} {v : AV} {l : List Nd} (hr : read ndC s v = some l) (hl : l.length ≤ lim) (hs : l.Pairwise ltP) (d : Dot) : ∀ env : Env, elen env = a92.ntmps → (∀ i x_, [v, .agg (Dot.av d), .fn 93 []][i]? = some x_ → E env i = x_) → awp (tb [(93, R_Find1)]) a92.body (fun x e t => (∀ i, x ≠ .exit i) ∧ aresults e t a92.results = some (findV l d) ∧ Keep s t) env s := by
  intro env hlen ha
  have h0 : E env 0 = _ := ha 0 _ rfl
  have h1 : E env 1 = _ := ha 1 _ rfl
  have h2 : E env 2 = _ := ha 2 _ rfl
  have hlen : elen env = _ := hlen
  simp only [a92] at hlen
  unfold a92
  try dsimp only [oO, oG]
  have hL := lenV_read hr
  have hK1 : Keep s (s.push (.row (Dot.av d) true)) := (Keep.refl s).push _
  obtain ⟨b1, b2, b3, b4⟩ := box_dot s d (.refl _)
  simp (config := {contextual := true, maxDischargeDepth := 12}) only [tb_at, h0, h1, h2, hlen, hL, ↓bD, bU, forall_const, bS, implies_true, isNx, eq_self, ↓wp_cond, ↓wp_loop, ↓reduceIte, reduceCtorEq, Nat.reduceEqDiff, Nat.reduceLT, Nat.reduceAdd, Nat.reduceMul, bT, ↓sg_bsl, ↓st_callf, bX, List.cons_append, List.nil_append, ↓st_appf, bY, slcV_nils0N, slcV_sl0N, bslV_0N, bin_shr1]
  obtain ⟨I, hI⟩ : ∃ I : Nat → Env → St → Prop, ∀ n e t, I n e t = (t = s.push (.row (Dot.av d) true) ∧ ∃ i j : Nat, n = j - i ∧ i ≤ j ∧ j ≤ l.length ∧ elen e = 49 ∧ E e 0 = v ∧ E e 2 = .fn 93 [] ∧ E e 4 = .ptr s.next 0 ∧ E e 8 = .int .i64 (l.length : Int) ∧ E e 9 = .int .i64 (i : Int) ∧ E e 10 = .int .i64 (j : Int) ∧ (∀ k y, k < i → l[k]? = some y → y.d.before d = true) ∧ ∀ k y, j ≤ k → l[k]? = some y → y.d.before d = false) := ⟨fun n e t => (t = s.push (.row (Dot.av d) true) ∧ ∃ i j : Nat, n = j - i ∧ i ≤ j ∧ j ≤ l.length ∧ elen e = 49 ∧ E e 0 = v ∧ E e 2 = .fn 93 [] ∧ E e 4 = .ptr s.next 0 ∧ E e 8 = .int .i64 (l.length : Int) ∧ E e 9 = .int .i64 (i : Int) ∧ E e 10 = .int .i64 (j : Int) ∧ (∀ k y, k < i → l[k]? = some y → y.d.before d = true) ∧ ∀ k y, j ≤ k → l[k]? = some y → y.d.before d = false), fun _ _ _ => rfl⟩
  refine lwp_inv I (n := l.length) ?_ ?_
  · rw [hI]
    exact ⟨rfl, 0, l.length, rfl, by omega, by omega, (by simp only [bE, Nat.reduceEqDiff, bN, Nat.reduceLT, hlen]; try rfl), (by simp only [bE, Nat.reduceEqDiff, bN, Nat.reduceLT, hlen, h0]; try rfl), (by simp only [bE, Nat.reduceEqDiff, bN, Nat.reduceLT, hlen, h2]; try rfl), (by simp only [bE, Nat.reduceEqDiff, bN, Nat.reduceLT, hlen]; try rfl), (by simp only [bE, Nat.reduceEqDiff, bN, Nat.reduceLT, hlen]; try rfl), (by simp only [bE, Nat.reduceEqDiff, bN, Nat.reduceLT, hlen]; try rfl), (by simp only [bE, Nat.reduceEqDiff, bN, Nat.reduceLT, hlen]; try rfl), fun k y hk => by omega, fun k y hk hy => absurd (getlt hy) (by omega)⟩
  intro n e t hi
  rw [hI] at hi
  obtain ⟨rfl, i, j, rfl, hij, hjl, he, e0, e2, e4, e8, e9, e10, hpre, hpost⟩ := hi
  by_cases hlt : i < j
  · obtain ⟨m, hm⟩ : ∃ m, m = (i + j) / 2 := ⟨_, rfl⟩
    obtain ⟨x, hx⟩ := getsome (show m < l.length by omega)
    have w1 := wrap_addn (n := i) (m := j) (by unfold lim at hl; omega)
    have w2 := wrap_u64 (n := i + j) (by unfold lim at hl; omega)
    have w3 := wrap_nat (n := m) (by unfold lim at hl; omega)
    have w4 := wrap_add1 (n := m) (by unfold lim at hl; omega)
    have sh := bin_shr1 (i + j)
    rw [← hm] at sh
    obtain ⟨a1, a2, a3, a5, a6, a4⟩ := nd_lods hr hK1 hx
    have i1 := nd_idx hr hx .i64
    have q := q_Find1 false x d (s := s.push (.row (Dot.av d) true))
    cases hb : x.d.before d
    · have hz : (dcmp x.d d < 0) = False := by rw [dcmp_neg, hb]; simp
      simp (config := {contextual := true, maxDischargeDepth := 12}) only [tb_at, he, e0, e2, e4, e8, e9, e10, hlt, w1, w2, w3, sh, a1, a4, i1, b1, b4, q, hz, ↓bD, bU, forall_const, bS, implies_true, isNx, eq_self, ↓wp_cond, ↓wp_loop, ↓reduceIte, reduceCtorEq, Nat.reduceEqDiff, Nat.reduceLT, Nat.reduceAdd, Nat.reduceMul, bT, ↓sg_bsl, ↓st_callf, bX, List.cons_append, List.nil_append, ↓st_appf, bY, slcV_nils0N, slcV_sl0N, bslV_0N, bin_shr1]
      refine ⟨m - i, by omega, ?_⟩
      rw [hI]
      exact ⟨rfl, i, m, rfl, by omega, by omega, (by simp only [bE, Nat.reduceEqDiff, bN, Nat.reduceLT, he, e0, e2, e4, e8, e9, e10]; try rfl), (by simp only [bE, Nat.reduceEqDiff, bN, Nat.reduceLT, he, e0, e2, e4, e8, e9, e10]; try rfl), (by simp only [bE, Nat.reduceEqDiff, bN, Nat.reduceLT, he, e0, e2, e4, e8, e9, e10]; try rfl), (by simp only [bE, Nat.reduceEqDiff, bN, Nat.reduceLT, he, e0, e2, e4, e8, e9, e10]; try rfl), (by simp only [bE, Nat.reduceEqDiff, bN, Nat.reduceLT, he, e0, e2, e4, e8, e9, e10]; try rfl), (by simp only [bE, Nat.reduceEqDiff, bN, Nat.reduceLT, he, e0, e2, e4, e8, e9, e10]; try rfl), (by simp only [bE, Nat.reduceEqDiff, bN, Nat.reduceLT, he, e0, e2, e4, e8, e9, e10]; try rfl), hpre, fun k y hk hy => by
        by_cases e : k = m
        · subst e
          rw [hx] at hy
          injection hy with hy
          rw [← hy]; exact hb
        · cases hb2 : y.d.before d
          · rfl
          · have := before_trans (sorted_lt hs hx hy (by omega)) hb2
            rw [hb] at this
            cases this⟩
    · have hz : (dcmp x.d d < 0) = True := by rw [dcmp_neg, hb]; simp
      simp (config := {contextual := true, maxDischargeDepth := 12}) only [tb_at, he, e0, e2, e4, e8, e9, e10, hlt, w1, w2, w3, w4, sh, a1, a4, i1, b1, b4, q, hz, ↓bD, bU, forall_const, bS, implies_true, isNx, eq_self, ↓wp_cond, ↓wp_loop, ↓reduceIte, reduceCtorEq, Nat.reduceEqDiff, Nat.reduceLT, Nat.reduceAdd, Nat.reduceMul, bT, ↓sg_bsl, ↓st_callf, bX, List.cons_append, List.nil_append, ↓st_appf, bY, slcV_nils0N, slcV_sl0N, bslV_0N, bin_shr1]
      refine ⟨j - (m + 1), by omega, ?_⟩
      rw [hI]
      exact ⟨rfl, (m + 1), j, rfl, by omega, by omega, (by simp only [bE, Nat.reduceEqDiff, bN, Nat.reduceLT, he, e0, e2, e4, e8, e9, e10]; try rfl), (by simp only [bE, Nat.reduceEqDiff, bN, Nat.reduceLT, he, e0, e2, e4, e8, e9, e10]; try rfl), (by simp only [bE, Nat.reduceEqDiff, bN, Nat.reduceLT, he, e0, e2, e4, e8, e9, e10]; try rfl), (by simp only [bE, Nat.reduceEqDiff, bN, Nat.reduceLT, he, e0, e2, e4, e8, e9, e10]; try rfl), (by simp only [bE, Nat.reduceEqDiff, bN, Nat.reduceLT, he, e0, e2, e4, e8, e9, e10]; try rfl), (by simp only [bE, Nat.reduceEqDiff, bN, Nat.reduceLT, he, e0, e2, e4, e8, e9, e10]; try rfl), (by simp only [bE, Nat.reduceEqDiff, bN, Nat.reduceLT, he, e0, e2, e4, e8, e9, e10]; try rfl), fun k y hk hy => by
        by_cases e : k = m
        · subst e
          rw [hx] at hy
          injection hy with hy
          rw [← hy]; exact hb
        · exact before_trans (sorted_lt hs hy hx (by omega)) hb, hpost⟩
  · obtain rfl : i = j := by omega
    have hk : kOf l d = i := kOf_eq hjl hpre fun y hy => hpost i y (Nat.le_refl _) hy
    by_cases hil : i < l.length
    · obtain ⟨x, hx⟩ := getsome hil
      obtain ⟨a1, a2, a3, a5, a6, a4⟩ := nd_lods hr hK1 hx
      have i1 := nd_idx hr hx .i64
      have q := q_Find1 false x d (s := s.push (.row (Dot.av d) true))
      have hS : findV l d = .tup [.int .i64 (i : Int), .bool (decide (x.d = d))] := by simp only [findV, fndN, hk, hx]
      have hz := dcmp_zero x.d d
      simp (config := {contextual := true, maxDischargeDepth := 12}) only [tb_at, he, e0, e2, e4, e8, e9, e10, hlt, hil, a1, a4, i1, b1, b4, q, hz, hS, ↓bD, bU, forall_const, bS, implies_true, isNx, eq_self, ↓wp_cond, ↓wp_loop, ↓reduceIte, reduceCtorEq, Nat.reduceEqDiff, Nat.reduceLT, Nat.reduceAdd, Nat.reduceMul, bT, ↓sg_bsl, ↓st_callf, bX, List.cons_append, List.nil_append, ↓st_appf, bY, slcV_nils0N, slcV_sl0N, bslV_0N, bin_shr1]
      all_goals first | exact hK1 | skip
    · have hn : l[i]? = none := List.getElem?_eq_none (by omega)
      have hS : findV l d = .tup [.int .i64 (i : Int), .bool false] := by simp only [findV, fndN, hk, hn]
      simp (config := {contextual := true, maxDischargeDepth := 12}) only [tb_at, he, e0, e2, e4, e8, e9, e10, hlt, hil, hS, ↓bD, bU, forall_const, bS, implies_true, isNx, eq_self, ↓wp_cond, ↓wp_loop, ↓reduceIte, reduceCtorEq, Nat.reduceEqDiff, Nat.reduceLT, Nat.reduceAdd, Nat.reduceMul, bT, ↓sg_bsl, ↓st_callf, bX, List.cons_append, List.nil_append, ↓st_appf, bY, slcV_nils0N, slcV_sl0N, bslV_0N, bin_shr1]
      all_goals first | exact hK1 | skip
theorem q_BSrch (cl : Bool) {s : St} {v : AV} {l : List Nd} (hr : read ndC s v = some l) (hl : l.length ≤ lim) (hs : l.Pairwise ltP) (d : Dot) : acall R_BSrch cl [v, .agg (Dot.av d), .fn 93 []] s = some (findV l d, s) := run_same n_BSrch (by simp [a92]) rfl (w_BSrch (s := lowd s) (read_low' hr) hl hs d)
noncomputable def R_Sfind : Con := runFn (tb [(92, R_BSrch)]) a69
theorem s_Sfind : SoundAt Tryz.prog 69 R_Sfind := run_sound (tb_sound (l := [(92, R_BSrch)]) (by simpa using s_BSrch)) mixed Tryz.func69 k69 c69
theorem n_Sfind : noNxtC a69.body = true := by kernel_rfl
theorem w_Sfind {s : St} {v : AV} {l : List Nd} (hr : read ndC s v = some l) (hl : l.length ≤ lim) (hs : l.Pairwise ltP) (d : Dot) : ∀ env : Env, elen env = a69.ntmps → (∀ i x_, [v, .agg (Dot.av d)][i]? = some x_ → E env i = x_) → awp (tb [(92, R_BSrch)]) a69.body (fun x e t => (∀ i, x ≠ .exit i) ∧ aresults e t a69.results = some (findV l d) ∧ Keep s t) env s := by
  intro env hlen ha
  have h0 : E env 0 = _ := ha 0 _ rfl
  have h1 : E env 1 = _ := ha 1 _ rfl
  have hlen : elen env = _ := hlen
  simp only [a69] at hlen
  unfold a69
  try dsimp only [oO, oG]
  have hK1 : Keep s (s.push (.row (Dot.av d) true)) := (Keep.refl s).push _
  obtain ⟨b1, b2, b3, b4⟩ := box_dot s d (.refl _)
  have q := q_BSrch false (hK1.read hr) hl hs d
  have hS : findV l d = .tup [.int .i64 ((kOf l d : Nat) : Int), .bool (fndN l d)] := rfl
  rw [hS] at q
  simp (config := {contextual := true, maxDischargeDepth := 12}) only [tb_at, h0, h1, hlen, b1, b4, q, hS, ↓bD, bU, forall_const, bS, implies_true, isNx, eq_self, ↓wp_cond, ↓wp_loop, ↓reduceIte, reduceCtorEq, Nat.reduceEqDiff, Nat.reduceLT, Nat.reduceAdd, Nat.reduceMul, bT, ↓sg_bsl, ↓st_callf, bX, List.cons_append, List.nil_append, ↓st_appf, bY, slcV_nils0N, slcV_sl0N, bslV_0N, bin_shr1]
  all_goals first | exact hK1 | skip
theorem q_Sfind (cl : Bool) {s : St} {v : AV} {l : List Nd} (hr : read ndC s v = some l) (hl : l.length ≤ lim) (hs : l.Pairwise ltP) (d : Dot) : acall R_Sfind cl [v, .agg (Dot.av d)] s = some (findV l d, s) := run_same n_Sfind (by simp [a69]) rfl (w_Sfind (s := lowd s) (read_low' hr) hl hs d)

end Go.AM
end
/-
  The reference of layer 10: Valid, Equal, Find. Own work of this project; in part printed by a program of it.
-/
section
set_option maxRecDepth 100000
set_option maxHeartbeats 8000000
namespace Go.AM
open Go Go.Proofs

variable {s t u : St}

theorem storeL_true {l : List Nd} (h1 : ∀ k y, k < l.length → l[k]? = some y → y.valid = true) (h2 : ∀ k a b, k + 1 < l.length → l[k]? = some a → l[k + 1]? = some b → a.d.before b.d = true) : storeL l = true := by
  simp only [storeL, Bool.and_eq_true]
  refine ⟨all_at h1, (chain_iff _ _).2 fun i x y hx hy => h2 i x y (getlt hy) hx hy⟩
theorem wrap_pred {n : Nat} (h : n < 4611686018427387904) : IntKind.i64.wrap (((n + 1 : Nat) : Int) - 1) = (n : Int) := by
  have e : ((n + 1 : Nat) : Int) - 1 = (n : Int) := by omega
  rw [e]
  exact wrap_nat h
noncomputable def R_RStV : Con := runFn (tb [(14, R_RNVal), (44, R_RLess)]) a10
theorem s_RStV : SoundAt Tryz.prog 10 R_RStV := run_sound (tb_sound (l := [(14, R_RNVal), (44, R_RLess)]) (by simpa using ⟨s_RNVal, s_RLess⟩)) mixed Tryz.func10 k10 c10
theorem n_RStV : noNxtC a10.body = true := by kernel_rfl
theorem w_RStV {s : St} {v : AV} {l : List Nd} (hr : read ndC s v = some l) (hl : l.length ≤ lim) (ho : okL l) : ∀ env : Env, elen env = a10.ntmps → (∀ i x_, [v][i]? = some x_ → E env i = x_) → awp (tb [(14, R_RNVal), (44, R_RLess)]) a10.body (fun x e t => (∀ i, x ≠ .exit i) ∧ aresults e t a10.results = some (.bool (storeL l)) ∧ Keep s t) env s := by
  intro env hlen ha
  have h0 : E env 0 = _ := ha 0 _ rfl
  have hlen : elen env = _ := hlen
  simp only [a10] at hlen
  unfold a10
  try dsimp only [oO, oG]
  have hL := lenV_read hr
  simp (config := {contextual := true, maxDischargeDepth := 12}) only [tb_at, h0, hlen, hL, ↓bD, bU, forall_const, bS, implies_true, isNx, eq_self, ↓wp_cond, ↓wp_loop, ↓reduceIte, reduceCtorEq, Nat.reduceEqDiff, Nat.reduceLT, Nat.reduceAdd, Nat.reduceMul, bT, ↓sg_bsl, ↓st_callf, bX, List.cons_append, List.nil_append, ↓st_appf, bY, slcV_nils0N, slcV_sl0N, bslV_0N, bin_shr1]
  obtain ⟨I, hI⟩ : ∃ I : Nat → Env → St → Prop, ∀ n e t, I n e t = (t = s ∧ ∃ i : Nat, n + i = l.length ∧ elen e = 35 ∧ E e 0 = v ∧ E e 3 = .int .i64 (i : Int) ∧ (∀ k y, k < i → l[k]? = some y → y.valid = true) ∧ ∀ k a b, k + 1 < i → l[k]? = some a → l[k + 1]? = some b → a.d.before b.d = true) := ⟨fun n e t => (t = s ∧ ∃ i : Nat, n + i = l.length ∧ elen e = 35 ∧ E e 0 = v ∧ E e 3 = .int .i64 (i : Int) ∧ (∀ k y, k < i → l[k]? = some y → y.valid = true) ∧ ∀ k a b, k + 1 < i → l[k]? = some a → l[k + 1]? = some b → a.d.before b.d = true), fun _ _ _ => rfl⟩
  refine lwp_inv I (n := l.length) ?_ ?_
  · rw [hI]
    exact ⟨rfl, 0, by omega, (by simp only [bE, Nat.reduceEqDiff, bN, Nat.reduceLT, hlen]; try rfl), (by simp only [bE, Nat.reduceEqDiff, bN, Nat.reduceLT, hlen, h0]; try rfl), (by simp only [bE, Nat.reduceEqDiff, bN, Nat.reduceLT, hlen]; try rfl), fun k y hk => by omega, fun k a b hk => by omega⟩
  intro n e t hi
  rw [hI] at hi
  obtain ⟨hK, i, hni, he, e0, e3, hp1, hp2⟩ := hi
  subst hK
  by_cases hlt : i < l.length
  · obtain ⟨x, hx⟩ := getsome hlt
    have hw2 := wrap_add1 (n := i) (by unfold lim at hl; omega)
    obtain ⟨a1, a2, a3, a5, a6, a4⟩ := nd_lods hr (.refl _) hx
    have i1 := nd_idx hr hx .i64
    have q1 := q_RNVal false (ho x (mem_at hx)) (s := t)
    cases hv : x.valid
    · rw [hv] at q1
      have hS := storeL_false hx hv
      simp (config := {contextual := true, maxDischargeDepth := 12}) only [tb_at, he, e0, e3, hL, hlt, hw2, a1, a2, a4, i1, q1, hS, notV_bool, Bool.not_false, ↓bD, bU, forall_const, bS, implies_true, isNx, eq_self, ↓wp_cond, ↓wp_loop, ↓reduceIte, reduceCtorEq, Nat.reduceEqDiff, Nat.reduceLT, Nat.reduceAdd, Nat.reduceMul, bT, ↓sg_bsl, ↓st_callf, bX, List.cons_append, List.nil_append, ↓st_appf, bY, slcV_nils0N, slcV_sl0N, bslV_0N, bin_shr1]
      all_goals first | exact .refl _ | skip
    · rw [hv] at q1
      by_cases h0i : i = 0
      · have hz : ((0 : Int) < (i : Int)) = False := eq_false (by omega)
        simp (config := {contextual := true, maxDischargeDepth := 12}) only [tb_at, he, e0, e3, hL, hlt, hw2, a1, a2, a4, i1, q1, hz, notV_bool, Bool.not_true, ↓bD, bU, forall_const, bS, implies_true, isNx, eq_self, ↓wp_cond, ↓wp_loop, ↓reduceIte, reduceCtorEq, Nat.reduceEqDiff, Nat.reduceLT, Nat.reduceAdd, Nat.reduceMul, bT, ↓sg_bsl, ↓st_callf, bX, List.cons_append, List.nil_append, ↓st_appf, bY, slcV_nils0N, slcV_sl0N, bslV_0N, bin_shr1]
        refine ⟨n - 1, by omega, ?_⟩
        rw [hI]
        exact ⟨rfl, i + 1, by omega, (by simp only [bE, Nat.reduceEqDiff, bN, Nat.reduceLT, he, e0, e3]; try rfl), (by simp only [bE, Nat.reduceEqDiff, bN, Nat.reduceLT, he, e0, e3]; try rfl), (by simp only [bE, Nat.reduceEqDiff, bN, Nat.reduceLT, he, e0, e3]; try rfl), pre_next (P := fun k y => y.valid = true) hx hp1 hv, fun k a b hk => by omega⟩
      · obtain ⟨k, rfl⟩ : ∃ k, i = k + 1 := ⟨i - 1, by omega⟩
        have hz : ((0 : Int) < ((k + 1 : Nat) : Int)) = True := eq_true (by omega)
        have hwp := wrap_pred (n := k) (by unfold lim at hl; omega)
        obtain ⟨y, hy⟩ := getsome (show k < l.length by omega)
        obtain ⟨c1, c2, c3, c5, c6, c4⟩ := nd_lods hr (.refl _) hy
        have i2 := nd_idx hr hy .i64
        have q2 := q_RLess false y.d x.d (s := t)
        cases hb : y.d.before x.d
        · rw [hb] at q2
          have hS := storeL_false' hy hx hb
          simp (config := {contextual := true, maxDischargeDepth := 12}) only [tb_at, he, e0, e3, hL, hlt, hw2, a1, a2, a4, i1, q1, hz, hwp, c2, c4, i2, q2, hS, notV_bool, Bool.not_true, Bool.not_false, ↓bD, bU, forall_const, bS, implies_true, isNx, eq_self, ↓wp_cond, ↓wp_loop, ↓reduceIte, reduceCtorEq, Nat.reduceEqDiff, Nat.reduceLT, Nat.reduceAdd, Nat.reduceMul, bT, ↓sg_bsl, ↓st_callf, bX, List.cons_append, List.nil_append, ↓st_appf, bY, slcV_nils0N, slcV_sl0N, bslV_0N, bin_shr1]
          all_goals first | exact .refl _ | skip
        · rw [hb] at q2
          simp (config := {contextual := true, maxDischargeDepth := 12}) only [tb_at, he, e0, e3, hL, hlt, hw2, a1, a2, a4, i1, q1, hz, hwp, c2, c4, i2, q2, notV_bool, Bool.not_true, Bool.not_false, ↓bD, bU, forall_const, bS, implies_true, isNx, eq_self, ↓wp_cond, ↓wp_loop, ↓reduceIte, reduceCtorEq, Nat.reduceEqDiff, Nat.reduceLT, Nat.reduceAdd, Nat.reduceMul, bT, ↓sg_bsl, ↓st_callf, bX, List.cons_append, List.nil_append, ↓st_appf, bY, slcV_nils0N, slcV_sl0N, bslV_0N, bin_shr1]
          refine ⟨n - 1, by omega, ?_⟩
          rw [hI]
          exact ⟨rfl, k + 1 + 1, by omega, (by simp only [bE, Nat.reduceEqDiff, bN, Nat.reduceLT, he, e0, e3]; try rfl), (by simp only [bE, Nat.reduceEqDiff, bN, Nat.reduceLT, he, e0, e3]; try rfl), (by simp only [bE, Nat.reduceEqDiff, bN, Nat.reduceLT, he, e0, e3]; try rfl), pre_next (P := fun k y => y.valid = true) hx hp1 hv, fun k2 a b hk ha hb2 => by
            by_cases e : k2 + 1 < k + 1
            · exact hp2 k2 a b e ha hb2
            · obtain rfl : k2 = k := by omega
              rw [hy] at ha
              rw [hx] at hb2
              injection ha with ha
              injection hb2 with hb2
              rw [← ha, ← hb2]
              exact hb⟩
  · obtain rfl : i = l.length := by omega
    have hS := storeL_true hp1 hp2
    simp (config := {contextual := true, maxDischargeDepth := 12}) only [tb_at, he, e0, e3, hL, hlt, hS, ↓bD, bU, forall_const, bS, implies_true, isNx, eq_self, ↓wp_cond, ↓wp_loop, ↓reduceIte, reduceCtorEq, Nat.reduceEqDiff, Nat.reduceLT, Nat.reduceAdd, Nat.reduceMul, bT, ↓sg_bsl, ↓st_callf, bX, List.cons_append, List.nil_append, ↓st_appf, bY, slcV_nils0N, slcV_sl0N, bslV_0N, bin_shr1]
    all_goals first | exact .refl _ | skip
theorem q_RStV (cl : Bool) {s : St} {v : AV} {l : List Nd} (hr : read ndC s v = some l) (hl : l.length ≤ lim) (ho : okL l) : acall R_RStV cl [v] s = some (.bool (storeL l), s) := run_same n_RStV (by simp [a10]) rfl (w_RStV (s := lowd s) (read_low' hr) hl ho)
noncomputable def R_RFnd : Con := runFn (tb []) a11
theorem s_RFnd : SoundAt Tryz.prog 11 R_RFnd := run_sound (tb_sound (l := []) (by simp)) mixed Tryz.func11 k11 c11
theorem n_RFnd : noNxtC a11.body = true := by kernel_rfl
theorem w_RFnd {s : St} {v : AV} {l : List Nd} (hr : read ndC s v = some l) (hl : l.length ≤ lim) (d : Dot) : ∀ env : Env, elen env = a11.ntmps → (∀ i x_, [v, .agg (Dot.av d)][i]? = some x_ → E env i = x_) → awp (tb []) a11.body (fun x e t => (∀ i, x ≠ .exit i) ∧ aresults e t a11.results = some (.int .i64 (idxN l (fun y => decide (y.d = d)))) ∧ Keep s t) env s := by
  intro env hlen ha
  have h0 : E env 0 = _ := ha 0 _ rfl
  have h1 : E env 1 = _ := ha 1 _ rfl
  have hlen : elen env = _ := hlen
  simp only [a11] at hlen
  unfold a11
  try dsimp only [oO, oG]
  have hL := lenV_read hr
  have hK1 : Keep s (s.push (.row (Dot.av d) true)) := (Keep.refl s).push _
  obtain ⟨b1, b2, b3, b4⟩ := box_dot s d (.refl _)
  simp (config := {contextual := true, maxDischargeDepth := 12}) only [tb_at, h0, h1, hlen, hL, ↓bD, bU, forall_const, bS, implies_true, isNx, eq_self, ↓wp_cond, ↓wp_loop, ↓reduceIte, reduceCtorEq, Nat.reduceEqDiff, Nat.reduceLT, Nat.reduceAdd, Nat.reduceMul, bT, ↓sg_bsl, ↓st_callf, bX, List.cons_append, List.nil_append, ↓st_appf, bY, slcV_nils0N, slcV_sl0N, bslV_0N, bin_shr1]
  obtain ⟨I, hI⟩ : ∃ I : Nat → Env → St → Prop, ∀ n e t, I n e t = (t = s.push (.row (Dot.av d) true) ∧ ∃ i : Nat, n + i = l.length ∧ elen e = 20 ∧ E e 0 = v ∧ E e 3 = .ptr s.next 0 ∧ E e 5 = .int .i64 (i : Int) ∧ ∀ k y, k < i → l[k]? = some y → decide (y.d = d) = false) := ⟨fun n e t => (t = s.push (.row (Dot.av d) true) ∧ ∃ i : Nat, n + i = l.length ∧ elen e = 20 ∧ E e 0 = v ∧ E e 3 = .ptr s.next 0 ∧ E e 5 = .int .i64 (i : Int) ∧ ∀ k y, k < i → l[k]? = some y → decide (y.d = d) = false), fun _ _ _ => rfl⟩
  refine lwp_inv I (n := l.length) ?_ ?_
  · rw [hI]
    exact ⟨rfl, 0, by omega, (by simp only [bE, Nat.reduceEqDiff, bN, Nat.reduceLT, hlen]; try rfl), (by simp only [bE, Nat.reduceEqDiff, bN, Nat.reduceLT, hlen, h0]; try rfl), (by simp only [bE, Nat.reduceEqDiff, bN, Nat.reduceLT, hlen]; try rfl), (by simp only [bE, Nat.reduceEqDiff, bN, Nat.reduceLT, hlen]; try rfl), fun k y hk => by omega⟩
  intro n e t hi
  rw [hI] at hi
  obtain ⟨hK, i, hni, he, e0, e3, e5, hpre⟩ := hi
  subst hK
  by_cases hlt : i < l.length
  · obtain ⟨x, hx⟩ := getsome hlt
    have hw2 := wrap_add1 (n := i) (by unfold lim at hl; omega)
    obtain ⟨a1, a2, a3, a5, a6, a4⟩ := nd_lods hr hK1 hx
    have i1 := nd_idx hr hx .i64
    by_cases hp : x.d = d
    · have hS := idxN_hit (p := fun y => decide (y.d = d)) hx (by simp [hp]) hpre
      have hz := eq_true hp
      simp (config := {contextual := true, maxDischargeDepth := 12}) only [tb_at, he, e0, e3, e5, hL, hlt, hw2, a1, a2, a4, i1, b1, b4, hz, hS, ↓bD, bU, forall_const, bS, implies_true, isNx, eq_self, ↓wp_cond, ↓wp_loop, ↓reduceIte, reduceCtorEq, Nat.reduceEqDiff, Nat.reduceLT, Nat.reduceAdd, Nat.reduceMul, bT, ↓sg_bsl, ↓st_callf, bX, List.cons_append, List.nil_append, ↓st_appf, bY, slcV_nils0N, slcV_sl0N, bslV_0N, bin_shr1]
      all_goals first | exact hK1 | skip
    · have hz := eq_false hp
      simp (config := {contextual := true, maxDischargeDepth := 12}) only [tb_at, he, e0, e3, e5, hL, hlt, hw2, a1, a2, a4, i1, b1, b4, hz, ↓bD, bU, forall_const, bS, implies_true, isNx, eq_self, ↓wp_cond, ↓wp_loop, ↓reduceIte, reduceCtorEq, Nat.reduceEqDiff, Nat.reduceLT, Nat.reduceAdd, Nat.reduceMul, bT, ↓sg_bsl, ↓st_callf, bX, List.cons_append, List.nil_append, ↓st_appf, bY, slcV_nils0N, slcV_sl0N, bslV_0N, bin_shr1]
      refine ⟨n - 1, by omega, ?_⟩
      rw [hI]
      exact ⟨rfl, i + 1, by omega, (by simp only [bE, Nat.reduceEqDiff, bN, Nat.reduceLT, he, e0, e3, e5]; try rfl), (by simp only [bE, Nat.reduceEqDiff, bN, Nat.reduceLT, he, e0, e3, e5]; try rfl), (by simp only [bE, Nat.reduceEqDiff, bN, Nat.reduceLT, he, e0, e3, e5]; try rfl), (by simp only [bE, Nat.reduceEqDiff, bN, Nat.reduceLT, he, e0, e3, e5]; try rfl), pre_next (P := fun k y => decide (y.d = d) = false) hx hpre (by simp [hp])⟩
  · obtain rfl : i = l.length := by omega
    have hS := idxN_miss (p := fun y => decide (y.d = d)) hpre
    simp (config := {contextual := true, maxDischargeDepth := 12}) only [tb_at, he, e0, e3, e5, hL, hlt, hS, ↓bD, bU, forall_const, bS, implies_true, isNx, eq_self, ↓wp_cond, ↓wp_loop, ↓reduceIte, reduceCtorEq, Nat.reduceEqDiff, Nat.reduceLT, Nat.reduceAdd, Nat.reduceMul, bT, ↓sg_bsl, ↓st_callf, bX, List.cons_append, List.nil_append, ↓st_appf, bY, slcV_nils0N, slcV_sl0N, bslV_0N, bin_shr1]
    all_goals first | exact hK1 | skip
theorem q_RFnd (cl : Bool) {s : St} {v : AV} {l : List Nd} (hr : read ndC s v = some l) (hl : l.length ≤ lim) (d : Dot) : acall R_RFnd cl [v, .agg (Dot.av d)] s = some (.int .i64 (idxN l (fun y => decide (y.d = d))), s) := run_same n_RFnd (by simp [a11]) rfl (w_RFnd (s := lowd s) (read_low' hr) hl d)

end Go.AM
end
/-
  The reference of layer 10: Put, Of. Own work of this project; in part printed by a program of it.
-/
section
set_option maxRecDepth 100000
set_option maxHeartbeats 8000000
namespace Go.AM
open Go Go.Proofs

variable {s t u : St}

theorem bsl_nd {x : Nd} : bslV [.int .i64 0, .int .i64 0, .int .i64 0, .int .i64 0, .int .i64 0, .int .i32 0] 1 6 [(0, .agg (Nd.av x))] = some (fun id => .sl id 0 1 (some 1) 6, .row (Nd.av x) true) := nrfl rfl
end Go.AM
end
/-
  The reference of layer 10: Of. Own work of this project; in part printed by a program of it.
-/
section
set_option maxRecDepth 100000
set_option maxHeartbeats 8000000
namespace Go.AM
open Go Go.Proofs

variable {s t u : St}
end Go.AM
end
/-
  store.Put and Kill, the reference Kill, and what the statements of layer 10 call. Own work of this project; in part printed by a program of it.
-/
section
set_option maxRecDepth 100000
set_option maxHeartbeats 8000000
namespace Go.AM
open Go Go.Proofs

variable {s t u : St}

theorem idx_has (l : List Nd) (d : Dot) : (idxN l (fun y => decide (y.d = d)) < 0) = (hasN l d = false) := by
  have h := idxN_ge l fun y => decide (y.d = d)
  have e : (idxN l (fun y => decide (y.d = d)) < 0) = ¬ (0 ≤ idxN l (fun y => decide (y.d = d))) := by
    simp only [eq_iff_iff]; omega
  rw [e, h]
  unfold hasN
  simp
end Go.AM
end
/-
  store.Kill. Own work of this project; in part printed by a program of it.
-/
section
set_option maxRecDepth 100000
set_option maxHeartbeats 8000000
namespace Go.AM
open Go Go.Proofs

variable {s t u : St}

end Go.AM
end
/-
  dot.Set of a list without repeats: a new list of its own. Own work of this project; in part printed by a program of it.
-/
section
set_option maxRecDepth 100000
set_option maxHeartbeats 8000000
namespace Go.AM
open Go Go.Proofs

variable {s t u : St}

theorem app_cloneO {v : AV} {l : List Dot} (hr : read dotC s v = some l) (hl : l.length ≤ lim) (h0 : l ≠ []) : ∃ v' t, appV (s.push (.row [] true)) 2 16 (.sl s.next 0 0 (some 0) 2) v = some (v', t) ∧ Own dotC s t v' l ∧ Keep s t := by
  have hK : Keep s (s.push (.row [] true)) := (Keep.refl s).push _
  have hr1 := hK.read hr
  have h2 : dotC.sz = 2 := rfl
  have h0' : l.length ≠ 0 := fun h => h0 (List.length_eq_zero_iff.1 h)
  simp only [appV]
  rw [← h2, read_shown hr1, read_len hr1]
  simp only [aappend, if_true, St.get_push_new]
  rw [if_neg h0', if_pos ⟨by simp, by unfold lim at hl; unfold roomBytes; omega⟩, if_neg (by omega)]
  refine ⟨_, _, rfl, .inr ⟨_, by rw [Nat.zero_add], h0, hK.next, ?_⟩, hK.push _⟩
  rw [St.get_push_new]
  simp
theorem w_SClDo {s : St} {v : AV} {l : List Dot} (hr : read dotC s v = some l) (hl : l.length ≤ lim) (hne : v = .nils ∨ l ≠ []) : ∀ env : Env, elen env = a96.ntmps → (∀ i x_, [v][i]? = some x_ → E env i = x_) → awp (tb []) a96.body (fun x e t => (∀ i, x ≠ .exit i) ∧ ∃ r, aresults e t a96.results = some r ∧ Own dotC s t r l ∧ Keep s t) env s := by
  intro env hlen ha
  have h0 : E env 0 = _ := ha 0 _ rfl
  have hlen : elen env = _ := hlen
  simp only [a96] at hlen
  unfold a96
  try dsimp only [oO, oG]
  cases v with
  | nils =>
    rw [read_nils] at hr
    injection hr with hr
    subst hr
    simp (config := {contextual := true, maxDischargeDepth := 12}) only [tb_at, h0, hlen, ↓bD, bU, forall_const, bS, implies_true, isNx, eq_self, ↓wp_cond, ↓wp_loop, ↓reduceIte, reduceCtorEq, Nat.reduceEqDiff, Nat.reduceLT, Nat.reduceAdd, Nat.reduceMul, bT, ↓sg_bsl, ↓st_callf, bX, List.cons_append, List.nil_append, ↓st_appf, bY, slcV_nils0N, slcV_sl0N, bslV_0N, bin_shr1, bsl_nd]
    first | exact ⟨_, rfl, .nil _ _ _, .refl s⟩ | exact ⟨_, rfl, .nil _ _ _⟩ | exact ⟨.nil _ _ _, .refl s⟩ | exact .nil _ _ _
  | sl id off n cap z =>
    obtain ⟨v', t, hap, hN, hK⟩ := app_cloneO hr hl (hne.resolve_left (by simp))
    simp (config := {contextual := true, maxDischargeDepth := 12}) only [tb_at, h0, hlen, hap, ↓bD, bU, forall_const, bS, implies_true, isNx, eq_self, ↓wp_cond, ↓wp_loop, ↓reduceIte, reduceCtorEq, Nat.reduceEqDiff, Nat.reduceLT, Nat.reduceAdd, Nat.reduceMul, bT, ↓sg_bsl, ↓st_callf, bX, List.cons_append, List.nil_append, ↓st_appf, bY, slcV_nils0N, slcV_sl0N, bslV_0N, bin_shr1, bsl_nd]
    exact ⟨_, rfl, hN, hK⟩
  | _ => simp [read] at hr
theorem q_SClDo {s : St} {v : AV} {l : List Dot} (hr : read dotC s v = some l) (hl : l.length ≤ lim) (hne : v = .nils ∨ l ≠ []) : ∃ v' t, acall R_SClD false [v] s = some (v', t) ∧ Own dotC s t v' l ∧ Keep s t :=
  run_any n_SClD (by simp [a96]) (fun r t t' hg hn hq => hq.mono fun id b hb => by rw [hg]; exact hb) (fun r t hgr hk hq => by obtain ⟨rfl, rfl⟩ := hq.ground hgr; exact .nil _ _ _) (w_SClDo (s := lowd s) (read_low' hr) hl hne)
theorem w_CompDn {s : St} {s0 : St} {v : AV} {l : List Dot} (hN : NewX dotC s0 s v l) (hl : l.length ≤ lim) (hnd : l.Nodup) : ∀ env : Env, elen env = a98.ntmps → (∀ i x_, [v][i]? = some x_ → E env i = x_) → awp (tb []) a98.body (fun x e t => (∀ i, x ≠ .exit i) ∧ ∃ r, aresults e t a98.results = some r ∧ r = v ∧ Keep s t) env s := by
  intro env hlen ha
  have h0 : E env 0 = _ := ha 0 _ rfl
  have hlen : elen env = _ := hlen
  simp only [a98] at hlen
  unfold a98
  try dsimp only [oO, oG]
  rcases hN with ⟨rfl, rfl⟩ | ⟨j, cap, rfl, hj0, hg⟩
  · have hz : ((0 : Int) < 2) = True := eq_true (by decide)
    simp (config := {contextual := true, maxDischargeDepth := 12}) only [tb_at, h0, hlen, lenV_nils, hz, ↓bD, bU, forall_const, bS, implies_true, isNx, eq_self, ↓wp_cond, ↓wp_loop, ↓reduceIte, reduceCtorEq, Nat.reduceEqDiff, Nat.reduceLT, Nat.reduceAdd, Nat.reduceMul, bT, ↓sg_bsl, ↓st_callf, bX, List.cons_append, List.nil_append, ↓st_appf, bY, slcV_nils0N, slcV_sl0N, bslV_0N, bin_shr1, bsl_nd]
    all_goals first | exact ⟨_, rfl, rfl, .refl s⟩ | exact ⟨_, rfl, rfl⟩ | exact .refl s | trivial | skip
  have h2 : dotC.sz = 2 := rfl
  rw [h2] at h0
  by_cases hlen2 : l.length < 2
  · have hz := eq_true (show (l.length : Int) < 2 by omega)
    simp (config := {contextual := true, maxDischargeDepth := 12}) only [tb_at, h0, hlen, lenV_sl, hz, h2, ↓bD, bU, forall_const, bS, implies_true, isNx, eq_self, ↓wp_cond, ↓wp_loop, ↓reduceIte, reduceCtorEq, Nat.reduceEqDiff, Nat.reduceLT, Nat.reduceAdd, Nat.reduceMul, bT, ↓sg_bsl, ↓st_callf, bX, List.cons_append, List.nil_append, ↓st_appf, bY, slcV_nils0N, slcV_sl0N, bslV_0N, bin_shr1, bsl_nd]
    all_goals first | exact ⟨_, rfl, rfl, .refl s⟩ | exact ⟨_, rfl, rfl⟩ | exact .refl s | trivial | skip
  · have hz := eq_false (show ¬ (l.length : Int) < 2 by omega)
    simp (config := {contextual := true, maxDischargeDepth := 12}) only [tb_at, h0, hlen, lenV_sl, hz, ↓bD, bU, forall_const, bS, implies_true, isNx, eq_self, ↓wp_cond, ↓wp_loop, ↓reduceIte, reduceCtorEq, Nat.reduceEqDiff, Nat.reduceLT, Nat.reduceAdd, Nat.reduceMul, bT, ↓sg_bsl, ↓st_callf, bX, List.cons_append, List.nil_append, ↓st_appf, bY, slcV_nils0N, slcV_sl0N, bslV_0N, bin_shr1, bsl_nd]
    obtain ⟨I, hI⟩ : ∃ I : Nat → Env → St → Prop, ∀ n e t, I n e t = (t = s ∧ ∃ i : Nat, n + i = l.length ∧ elen e = 61 ∧ E e 0 = .sl j 0 l.length cap 2 ∧ E e 3 = .int .i64 ((i + 1 : Nat) : Int)) := ⟨fun n e t => (t = s ∧ ∃ i : Nat, n + i = l.length ∧ elen e = 61 ∧ E e 0 = .sl j 0 l.length cap 2 ∧ E e 3 = .int .i64 ((i + 1 : Nat) : Int)), fun _ _ _ => rfl⟩
    refine lwp_inv I (n := l.length) ?_ ?_
    · rw [hI]
      exact ⟨rfl, 0, by omega, (by simp only [bE, Nat.reduceEqDiff, bN, Nat.reduceLT, hlen]; try rfl), (by simp only [bE, Nat.reduceEqDiff, bN, Nat.reduceLT, hlen, h0]; try rfl), (by simp only [bE, Nat.reduceEqDiff, bN, Nat.reduceLT, hlen]; try rfl)⟩
    intro n e t hi
    rw [hI] at hi
    obtain ⟨hK, i, hni, he, e0, e3⟩ := hi
    have hK := hK.symm
    subst hK
    by_cases hlt : i + 1 < l.length
    · obtain ⟨x, hx⟩ := getsome (l := l) (i := i) (by omega)
      obtain ⟨y, hy⟩ := getsome hlt
      have hw1 := wrap_sub1 (n := i) (by unfold lim at hl; omega)
      have hw2 := wrap_add1 (n := i + 1) (by unfold lim at hl; omega)
      have i1 := iad_own (j := j) (cap := cap) 0 (show i < l.length by omega)
      have i2 := iad_own (j := j) (cap := cap) 0 hlt
      rw [Nat.zero_add] at i1 i2
      have a1 := lod_own hg hx
      have b1 := lod_own hg hy
      have hp : y ≠ x := by
        intro e
        obtain ⟨p1, q1⟩ := List.getElem?_eq_some_iff.1 hx
        obtain ⟨p2, q2⟩ := List.getElem?_eq_some_iff.1 hy
        have := (List.getElem_inj hnd).1 (q2.trans (e.trans q1.symm))
        omega
      have hzz := eq_false hp
      simp (config := {contextual := true, maxDischargeDepth := 12}) only [tb_at, he, e0, e3, lenV_sl, hlt, hw1, hw2, i1, i2, a1, b1, hzz, reserve0, ↓bD, bU, forall_const, bS, implies_true, isNx, eq_self, ↓wp_cond, ↓wp_loop, ↓reduceIte, reduceCtorEq, Nat.reduceEqDiff, Nat.reduceLT, Nat.reduceAdd, Nat.reduceMul, bT, ↓sg_bsl, ↓st_callf, bX, List.cons_append, List.nil_append, ↓st_appf, bY, slcV_nils0N, slcV_sl0N, bslV_0N, bin_shr1, bsl_nd]
      refine ⟨n - 1, by omega, ?_⟩
      rw [hI]
      exact ⟨rfl, i + 1, by omega, (by simp only [bE, Nat.reduceEqDiff, bN, Nat.reduceLT, he, e0, e3]; try rfl), (by simp only [bE, Nat.reduceEqDiff, bN, Nat.reduceLT, he, e0, e3]; try rfl), (by simp only [bE, Nat.reduceEqDiff, bN, Nat.reduceLT, he, e0, e3]; try rfl)⟩
    · have hlt' := hlt
      simp (config := {contextual := true, maxDischargeDepth := 12}) only [tb_at, he, e0, e3, lenV_sl, hlt, h2, ↓bD, bU, forall_const, bS, implies_true, isNx, eq_self, ↓wp_cond, ↓wp_loop, ↓reduceIte, reduceCtorEq, Nat.reduceEqDiff, Nat.reduceLT, Nat.reduceAdd, Nat.reduceMul, bT, ↓sg_bsl, ↓st_callf, bX, List.cons_append, List.nil_append, ↓st_appf, bY, slcV_nils0N, slcV_sl0N, bslV_0N, bin_shr1, bsl_nd]
      all_goals first | exact ⟨_, rfl, rfl, .refl s⟩ | exact ⟨_, rfl, rfl⟩ | exact .refl s | trivial | skip
theorem q_CompDn {s : St} {s0 : St} {v : AV} {l : List Dot} (hN : NewX dotC s0 s v l) (hl : l.length ≤ lim) (hnd : l.Nodup) : ∃ t, acall R_CompD false [v] s = some (v, t) ∧ Keep s t := by
  obtain ⟨r, t, h1, rfl, h3⟩ := run_any n_CompD (args := [v]) (s := s) (by simp [a98]) (Q := fun r t => r = v) (fun r t t' hg hn hq => hq) (fun r t hgr hk hq => hq) (w_CompDn (s := lowd s) (hN.mono fun _ _ h => h) hl hnd)
  exact ⟨t, h1, h3⟩
theorem w_DSeto {s : St} {v : AV} {l : List Dot} (hr : read dotC s v = some l) (hl : l.length ≤ lim) (hne : v = .nils ∨ l ≠ []) (hnd : l.Nodup) : ∀ env : Env, elen env = a78.ntmps → (∀ i x_, [v][i]? = some x_ → E env i = x_) → awp (tb [(96, R_SClD), (97, R_SSortD), (98, R_CompD)]) a78.body (fun x e t => (∀ i, x ≠ .exit i) ∧ ∃ r, aresults e t a78.results = some r ∧ Own dotC s t r (setL l) ∧ Keep s t) env s := by
  intro env hlen ha
  have h0 : E env 0 = _ := ha 0 _ rfl
  have hlen : elen env = _ := hlen
  simp only [a78] at hlen
  unfold a78
  try dsimp only [oO, oG]
  obtain ⟨v1, t1, q1, hO1, hK1⟩ := q_SClDo hr hl hne
  obtain ⟨t2, q2, hN2, hC2⟩ := q_SSortD hO1.newX hl
  have hnd2 : (sortD l).Nodup := (sortD_perm l).nodup_iff.2 hnd
  obtain ⟨t3, q3, hK3⟩ := q_CompDn hN2 (by rw [sortD_len]; exact hl) hnd2
  have hO2 := own_of_new hO1 hN2 (sortD_len l)
  have he : sortD l = setL l := by
    rw [← dedup_sort]
    have := dedup_chain (l := sortD l) (fun k x y hk hx hy e => by
      obtain ⟨p1, q1⟩ := List.getElem?_eq_some_iff.1 hx
      obtain ⟨p2, q2⟩ := List.getElem?_eq_some_iff.1 hy
      have := (List.getElem_inj hnd2).1 (q1.trans (e.trans q2.symm))
      omega) (sortD l).length (Nat.le_refl _)
    rw [List.take_length] at this
    exact this.symm
  rw [he] at hO2
  have hK2 := hK1.chgn hC2 (newX_vids hO1.newX)
  have hO3 : Own dotC s t3 v1 (setL l) := hO2.mono fun id b hb => hK3.blk hb
  simp (config := {contextual := true, maxDischargeDepth := 12}) only [tb_at, h0, hlen, q1, q2, q3, ↓bD, bU, forall_const, bS, implies_true, isNx, eq_self, ↓wp_cond, ↓wp_loop, ↓reduceIte, reduceCtorEq, Nat.reduceEqDiff, Nat.reduceLT, Nat.reduceAdd, Nat.reduceMul, bT, ↓sg_bsl, ↓st_callf, bX, List.cons_append, List.nil_append, ↓st_appf, bY, slcV_nils0N, slcV_sl0N, bslV_0N, bin_shr1, bsl_nd]
  exact ⟨_, rfl, hO3, hK2.trans hK3⟩
theorem q_DSeto {s : St} {v : AV} {l : List Dot} (hr : read dotC s v = some l) (hl : l.length ≤ lim) (hne : v = .nils ∨ l ≠ []) (hnd : l.Nodup) : ∃ w t, acall R_DSet false [v] s = some (w, t) ∧ Own dotC s t w (setL l) ∧ Keep s t :=
  run_any n_DSet (by simp [a78]) (fun r t t' hg hn hq => hq.mono fun id b hb => by rw [hg]; exact hb) (fun r t hgr hk hq => by
    obtain ⟨rfl, h⟩ := hq.ground hgr
    rw [h]
    exact .nil _ _ _) (w_DSeto (s := lowd s) (read_low' hr) hl hne hnd)

end Go.AM
end
/-
  Maps from dots to true; store.Lacking. Own work of this project; in part printed by a program of it.
-/
section
set_option maxRecDepth 100000
set_option maxHeartbeats 8000000
namespace Go.AM
open Go Go.Proofs

variable {s t u : St}
theorem whole_tt : (AV.bool true).whole = true := rfl
def entsB : Nat → List Dot → List (AV × AV × Nat)
  | _, [] => []
  | k, x :: r => (.agg (Dot.av x), .bool true, k) :: entsB (k + 1) r
def mapB (l : List Dot) : AB := .map (entsB 0 l) l.length
def lookB : List Dot → Dot → Option (Nat × Dot)
  | [], _ => none
  | x :: r, d => if x = d then some (0, x) else (lookB r d).map fun p => (p.1 + 1, p.2)
def updB (l : List Dot) (x : Dot) : List Dot := match lookB l x with
  | some (j, _) => l.set j x
  | none => l ++ [x]
theorem find_entsB : ∀ (l : List Dot) (d : Dot) (k i : Nat), findE (.fl [.i, .i]) (.agg (Dot.av d)) (entsB k l) i = some ((lookB l d).map fun p => (i + p.1, .bool true))
  | [], d, k, i => rfl
  | x :: r, d, k, i => by
    simp only [entsB, findE, eqK_dot, lookB]
    by_cases h : x = d
    · simp [h]
    · simp only [h, decide_false, if_false]
      rw [find_entsB r d (k + 1) (i + 1)]
      cases lookB r d <;> simp [Nat.add_comm, Nat.add_left_comm]
theorem lookB_some : ∀ {l : List Dot} {d : Dot} {j : Nat} {x : Dot}, lookB l d = some (j, x) → l[j]? = some x ∧ x = d
  | [], d, j, x, h => by simp [lookB] at h
  | y :: r, d, j, x, h => by
    simp only [lookB] at h
    split at h
    · injection h with h
      obtain ⟨rfl, rfl⟩ := Prod.mk.inj h
      exact ⟨rfl, by assumption⟩
    · obtain ⟨p, hp, h⟩ := Option.map_eq_some_iff.1 h
      obtain ⟨rfl, rfl⟩ := Prod.mk.inj h
      obtain ⟨h1, h2⟩ := lookB_some (l := r) (j := p.1) (x := p.2) hp
      exact ⟨by simpa using h1, h2⟩
theorem lookB_none : ∀ {l : List Dot} {d : Dot}, lookB l d = none → ∀ x ∈ l, x ≠ d
  | [], d, _ => by simp
  | y :: r, d, h => by
    simp only [lookB] at h
    split at h
    · cases h
    · rename_i e
      have := lookB_none (l := r) (d := d) (by simpa using h)
      intro x hx
      rcases List.mem_cons.1 hx with rfl | hx
      · exact e
      · exact this x hx
theorem entsB_get : ∀ (l : List Dot) (k j : Nat), (entsB k l)[j]? = (l[j]?).map fun x => (.agg (Dot.av x), .bool true, k + j)
  | [], k, j => by simp [entsB]
  | x :: r, k, 0 => rfl
  | x :: r, k, j + 1 => by
    simp only [entsB, List.getElem?_cons_succ, entsB_get r (k + 1) j]
    rw [show k + 1 + j = k + (j + 1) by omega]
theorem entsB_append : ∀ (l m : List Dot) (k : Nat), entsB k (l ++ m) = entsB k l ++ entsB (k + l.length) m
  | [], m, k => by simp [entsB]
  | x :: r, m, k => by
    simp only [List.cons_append, entsB, entsB_append r m (k + 1), List.length_cons]
    rw [show k + 1 + r.length = k + (r.length + 1) by omega]
theorem entsB_set : ∀ (l : List Dot) (k j : Nat) (x : Dot), entsB k (l.set j x) = (entsB k l).set j (.agg (Dot.av x), .bool true, k + j)
  | [], k, j, x => by simp [entsB]
  | y :: r, k, 0, x => by simp [entsB]
  | y :: r, k, j + 1, x => by
    simp only [List.set_cons_succ, entsB, entsB_set r (k + 1) j x]
    rw [show k + 1 + j = k + (j + 1) by omega]
theorem msetB_map {l : List Dot} {id : Nat} (hg : s.get id = some (mapB l)) (x : Dot) : msetV s (.fl [.i, .i]) (.mp id) (.agg (Dot.av x)) (.bool true) = some (.und, s.put id (mapB (updB l x))) := by
  simp only [msetV, key_dot, whole_tt, Bool.and_self, if_true, hg, mapB, find_entsB, updB]
  cases h : lookB l x with
  | none =>
    simp only [Option.map_none, entsB_append, entsB, List.length_append, List.length_singleton, Nat.zero_add]
  | some p =>
    obtain ⟨j, y⟩ := p
    obtain ⟨h1, h2⟩ := lookB_some h
    simp only [Option.map_some, Nat.zero_add, entsB_get, h1, entsB_set, List.length_set]
theorem rngB_map {l : List Dot} {id : Nat} (hg : s.get id = some (mapB l)) : rngV s (.mp id) = some (.ptr s.next 0, s.push (.iter (some id) l.length [] l.length)) := by
  simp only [rngV, hg, mapB]
theorem nextB_map {l : List Dot} {id p : Nat} {seen : List Nat} {K : AV → St → Prop} (hg : s.get id = some (mapB l)) (hp : s.get p = some (.iter (some id) l.length seen l.length))
    (h1 : (∀ i, i < l.length → i ∈ seen) → K (.tup [.bool false]) s) (h2 : ∀ i x, l[i]? = some x → i ∉ seen → K (.tup [.bool true, .agg (Dot.av x), .bool true]) (s.put p (.iter (some id) l.length (seen ++ [i]) l.length))) : anext (.ptr p 0) s K := by
  simp only [anext, hp, hg, mapB]
  have hm : ∀ e ∈ entsB 0 l, ∃ i x, l[i]? = some x ∧ e = (.agg (Dot.av x), .bool true, i) := by
    intro e he
    obtain ⟨i, hi⟩ := List.getElem?_of_mem he
    rw [entsB_get] at hi
    obtain ⟨x, hx, rfl⟩ := Option.map_eq_some_iff.1 hi
    exact ⟨i, x, hx, by simp⟩
  refine ⟨fun e he => ?_, Nat.le_refl _, fun ha => h1 fun i hi => ?_, fun e he hs => ?_⟩
  · obtain ⟨i, x, hx, rfl⟩ := hm e he
    exact getlt hx
  · obtain ⟨x, hx⟩ := getsome hi
    have : (entsB 0 l)[i]? = some (.agg (Dot.av x), .bool true, 0 + i) := by rw [entsB_get, hx]; rfl
    have := ha _ (List.mem_of_getElem? this)
    simpa using this
  · obtain ⟨i, x, hx, rfl⟩ := hm e he
    exact h2 i x hx hs
theorem entB_map {l : List Dot} {id p : Nat} {seen : List Nat} {i : Nat} {x : Dot} (hg : s.get id = some (mapB l)) (hp : s.get p = some (.iter (some id) l.length (seen ++ [i]) l.length)) (hx : l[i]? = some x) : entV s (.ptr p 0) = some (.tup [.agg (Dot.av x), .bool true]) := by
  have key : ∀ (l : List Dot) (k i : Nat) (x : Dot), l[i]? = some x → (entsB k l).find? (fun e => e.2.2 == k + i) = some (.agg (Dot.av x), .bool true, k + i) := by
    intro l
    induction l with
    | nil => intro k i x h; simp at h
    | cons y r ih =>
      intro k i x h
      cases i with
      | zero => simp at h; subst h; simp [entsB]
      | succ i =>
        have e : k + (i + 1) = k + 1 + i := by omega
        rw [entsB, List.find?_cons_of_neg (by simp), e]
        exact ih (k + 1) i x (by simpa using h)
  have := key l 0 i x hx
  rw [Nat.zero_add] at this
  simp only [entV, hp, hg, mapB, List.getLast?_concat, if_true, this, Option.map_some]
theorem updB_mem {l : List Dot} {x y : Dot} : y ∈ updB l x ↔ y ∈ l ∨ y = x := by
  unfold updB
  cases h : lookB l x with
  | none => simp
  | some p =>
    obtain ⟨j, z⟩ := p
    obtain ⟨h1, rfl⟩ := lookB_some h
    have e : l.set j z = l := by
      apply List.ext_getElem?
      intro k
      rw [List.getElem?_set]
      split
      · rename_i e
        subst e
        rw [if_pos (getlt h1), h1]
      · rfl
    simp only [e]
    exact ⟨.inl, fun q => q.elim id fun q => q ▸ mem_at h1⟩
theorem updB_nodup {l : List Dot} {x : Dot} (h : l.Nodup) : (updB l x).Nodup := by
  unfold updB
  cases hl : lookB l x with
  | none =>
    rw [List.nodup_append]
    exact ⟨h, by simp, fun a ha b hb e => by
      rw [List.mem_singleton.1 hb] at e
      exact lookB_none hl a ha e⟩
  | some p =>
    obtain ⟨j, z⟩ := p
    obtain ⟨h1, rfl⟩ := lookB_some hl
    have e : l.set j z = l := by
      apply List.ext_getElem?
      intro k
      rw [List.getElem?_set]
      split
      · rename_i e
        subst e
        rw [if_pos (getlt h1), h1]
      · rfl
    simp only [e]
    exact h
theorem updB_len (l : List Dot) (x : Dot) : (updB l x).length ≤ l.length + 1 := by
  unfold updB
  split <;> simp
def mbstep (M : List Dot) (n : Nd) : List Dot := if n.p.root = true then M else updB M n.p
theorem bfold : ∀ (l : List Nd) (M : List Dot), M.Nodup → (l.foldl mbstep M).Nodup ∧ (l.foldl mbstep M).length ≤ M.length + l.length ∧ ∀ d, d ∈ l.foldl mbstep M ↔ d ∈ M ∨ ∃ n ∈ l, n.p.root = false ∧ n.p = d
  | [], M, h => ⟨h, by simp, fun d => by simp⟩
  | n :: l, M, h => by
    have hb : (mbstep M n).Nodup := by
      unfold mbstep
      split
      · exact h
      · exact updB_nodup h
    have hl : (mbstep M n).length ≤ M.length + 1 := by
      unfold mbstep
      split
      · omega
      · exact updB_len _ _
    obtain ⟨h1, h2, h3⟩ := bfold l (mbstep M n) hb
    refine ⟨h1, by simp only [List.foldl_cons, List.length_cons]; omega, fun d => ?_⟩
    rw [List.foldl_cons, h3]
    unfold mbstep
    cases hr : n.p.root
    · simp only [Bool.false_eq_true, if_false, updB_mem, List.mem_cons]
      constructor
      · rintro ((q | q) | ⟨m, q1, q2, q3⟩)
        · exact .inl q
        · exact .inr ⟨n, .inl rfl, hr, q.symm⟩
        · exact .inr ⟨m, .inr q1, q2, q3⟩
      · rintro (q | ⟨m, rfl | q1, q2, q3⟩)
        · exact .inl (.inl q)
        · exact .inl (.inr q3.symm)
        · exact .inr ⟨m, q1, q2, q3⟩
    · simp only [if_true, List.mem_cons]
      constructor
      · rintro (q | ⟨m, q1, q2, q3⟩)
        · exact .inl q
        · exact .inr ⟨m, .inr q1, q2, q3⟩
      · rintro (q | ⟨m, rfl | q1, q2, q3⟩)
        · exact .inl q
        · rw [hr] at q2; cases q2
        · exact .inr ⟨m, q1, q2, q3⟩
/-- The parents that are not there. -/
def lackL (l : List Nd) : List Dot := setL (((l.filter fun n => !n.p.root).map Nd.p).filter fun d => !hasN l d)
def lackP (l : List Nd) : List Dot × Int := if storeL l = true then (lackL l, 0) else ([], 2)
def gLack (l : List Nd) : Option (List Dot × Option AV) := some ((lackP l).1, some (.int .i64 (lackP l).2))
theorem s_SLack : SoundAt Tryz.prog 52 (conF dotC (pL ndC gLack)) :=
  con_fresh (tb_sound (l := [(31, conL ndC fValid), (82, conD fDotRoot), (69, R_Sfind), (78, R_DSet)]) (by simpa using ⟨s_StValid, s_DotRoot, s_Sfind, s_DSet⟩)) mixed Tryz.func52 k52 c52 fun args s r ee h => by
    obtain ⟨v, l, rfl, hr, hl, hp⟩ := pL_some h
    injection hp with hp
    obtain ⟨rfl, rfl⟩ := Prod.mk.inj hp
    refine ⟨fun x hx => by injection hx with hx; subst hx; rfl, by simp [a52], fun env hlen ha => ?_⟩
    have h0 : E env 0 = _ := ha 0 _ rfl
    have hlen : elen env = _ := hlen
    simp only [a52] at hlen
    unfold a52
    try dsimp only [oO, oG]
    unfold lim at hl
    have hL := lenV_read hr
    have q1 := q_StValid false hr (by unfold lim; omega)
    cases hst : storeL l
    · rw [hst] at q1
      have hS : lackP l = ([], 2) := by unfold lackP; rw [hst]; rfl
      rw [hS]
      simp (config := {contextual := true, maxDischargeDepth := 12}) only [tb_at, h0, hlen, q1, notV_bool, Bool.not_false, ↓bD, bU, forall_const, bS, implies_true, isNx, eq_self, ↓wp_cond, ↓wp_loop, ↓reduceIte, reduceCtorEq, Nat.reduceEqDiff, Nat.reduceLT, Nat.reduceAdd, Nat.reduceMul, bT, ↓sg_bsl, ↓st_callf, bX, List.cons_append, List.nil_append, ↓st_appf, bY, slcV_nils0N, slcV_sl0N, bslV_0N, bin_shr1, bsl_nd]
      all_goals first | exact ⟨.refl _, _, rfl, .nil _ _ _⟩ | exact ⟨_, rfl, .nil _ _ _⟩ | skip
    · rw [hst] at q1
      have hs := store_sorted hst
      have hS : lackP l = (lackL l, 0) := by unfold lackP; rw [hst]; rfl
      rw [hS]
      simp (config := {contextual := true, maxDischargeDepth := 12}) only [tb_at, h0, hlen, q1, hL, notV_bool, Bool.not_true, ↓bD, bU, forall_const, bS, implies_true, isNx, eq_self, ↓wp_cond, ↓wp_loop, ↓reduceIte, reduceCtorEq, Nat.reduceEqDiff, Nat.reduceLT, Nat.reduceAdd, Nat.reduceMul, bT, ↓sg_bsl, ↓st_callf, bX, List.cons_append, List.nil_append, ↓st_appf, bY, slcV_nils0N, slcV_sl0N, bslV_0N, bin_shr1, bsl_nd]
      obtain ⟨I, hI⟩ : ∃ I : Nat → Env → St → Prop, ∀ n e t, I n e t = (Keep s t ∧ ∃ i : Nat, n + i = l.length ∧ elen e = 49 ∧ E e 0 = v ∧ E e 4 = .mp s.next ∧ E e 15 = v ∧ E e 16 = .int .i64 (l.length : Int) ∧ E e 17 = .int .i64 (i : Int) ∧ t.get s.next = some (mapB ((l.take i).foldl mbstep []))) := ⟨fun n e t => (Keep s t ∧ ∃ i : Nat, n + i = l.length ∧ elen e = 49 ∧ E e 0 = v ∧ E e 4 = .mp s.next ∧ E e 15 = v ∧ E e 16 = .int .i64 (l.length : Int) ∧ E e 17 = .int .i64 (i : Int) ∧ t.get s.next = some (mapB ((l.take i).foldl mbstep []))), fun _ _ _ => rfl⟩
      refine lwp_inv I (n := l.length) ?_ ?_
      · rw [hI]
        exact ⟨(Keep.refl s).push _, 0, by omega, (by simp only [bE, Nat.reduceEqDiff, bN, Nat.reduceLT, hlen]; try rfl), (by simp only [bE, Nat.reduceEqDiff, bN, Nat.reduceLT, hlen, h0]; try rfl), (by simp only [bE, Nat.reduceEqDiff, bN, Nat.reduceLT, hlen]; try rfl), (by simp only [bE, Nat.reduceEqDiff, bN, Nat.reduceLT, hlen, h0]; try rfl), (by simp only [bE, Nat.reduceEqDiff, bN, Nat.reduceLT, hlen, hL]; try rfl), (by simp only [bE, Nat.reduceEqDiff, bN, Nat.reduceLT, hlen]; try rfl), by rw [List.take_zero]; exact St.get_push_new s _⟩
      clear h0 hlen q1
      intro n e t hi
      rw [hI] at hi
      obtain ⟨hK, i, hni, he, e0, e4, e15, e16, e17, gM⟩ := hi
      obtain ⟨m1, m2, m3⟩ := bfold (l.take i) [] .nil
      generalize hMM : (l.take i).foldl mbstep [] = M at gM m1 m2 m3
      have lM := lt_of_get gM
      by_cases hlt : i < l.length
      · obtain ⟨x, hx⟩ := getsome hlt
        have hw2 := wrap_add1 (n := i) (by omega)
        obtain ⟨a1, a2, a3, a5, a6, a4⟩ := nd_lods hr hK hx
        have i1 := nd_idx hr hx .i64
        have hsn : (l.take (i + 1)).foldl mbstep [] = mbstep M x := by rw [take_snoc hx, List.foldl_append, hMM]; rfl
        have qr : ∀ u : St, acall (conD fDotRoot) false [.agg (Dot.av x.p)] u = some (.bool x.p.root, u) := fun u => q_DotRoot false x.p u
        cases hrt : x.p.root
        · rw [hrt] at qr
          have hst2 := msetB_map gM x.p
          have hb2 : mbstep M x = updB M x.p := by unfold mbstep; rw [hrt]; rfl
          simp (config := {contextual := true, maxDischargeDepth := 12}) only [tb_at, he, e0, e4, e15, e16, e17, hL, hlt, hw2, a1, a4, i1, qr, hst2, lM, notV_bool, Bool.not_false, ↓bD, bU, forall_const, bS, implies_true, isNx, eq_self, ↓wp_cond, ↓wp_loop, ↓reduceIte, reduceCtorEq, Nat.reduceEqDiff, Nat.reduceLT, Nat.reduceAdd, Nat.reduceMul, bT, ↓sg_bsl, ↓st_callf, bX, List.cons_append, List.nil_append, ↓st_appf, bY, slcV_nils0N, slcV_sl0N, bslV_0N, bin_shr1, bsl_nd]
          refine ⟨n - 1, by omega, ?_⟩
          rw [hI]
          refine ⟨((hK.put _ (Nat.le_refl _) lM).lowed).push _, i + 1, by omega, (by simp only [bE, Nat.reduceEqDiff, bN, Nat.reduceLT, he, e0, e4, e15, e16, e17]; try rfl), (by simp only [bE, Nat.reduceEqDiff, bN, Nat.reduceLT, he, e0, e4, e15, e16, e17]; try rfl), (by simp only [bE, Nat.reduceEqDiff, bN, Nat.reduceLT, he, e0, e4, e15, e16, e17]; try rfl), (by simp only [bE, Nat.reduceEqDiff, bN, Nat.reduceLT, he, e0, e4, e15, e16, e17]; try rfl), (by simp only [bE, Nat.reduceEqDiff, bN, Nat.reduceLT, he, e0, e4, e15, e16, e17]; try rfl), (by simp only [bE, Nat.reduceEqDiff, bN, Nat.reduceLT, he, e0, e4, e15, e16, e17]; try rfl), ?_⟩
          rw [hsn, hb2]
          exact get_push_some _ (St.get_put_same gM)
        · rw [hrt] at qr
          have hb2 : mbstep M x = M := by unfold mbstep; rw [hrt]; rfl
          simp (config := {contextual := true, maxDischargeDepth := 12}) only [tb_at, he, e0, e4, e15, e16, e17, hL, hlt, hw2, a1, a4, i1, qr, lM, notV_bool, Bool.not_true, ↓bD, bU, forall_const, bS, implies_true, isNx, eq_self, ↓wp_cond, ↓wp_loop, ↓reduceIte, reduceCtorEq, Nat.reduceEqDiff, Nat.reduceLT, Nat.reduceAdd, Nat.reduceMul, bT, ↓sg_bsl, ↓st_callf, bX, List.cons_append, List.nil_append, ↓st_appf, bY, slcV_nils0N, slcV_sl0N, bslV_0N, bin_shr1, bsl_nd]
          refine ⟨n - 1, by omega, ?_⟩
          rw [hI]
          refine ⟨hK.lowed.push _, i + 1, by omega, (by simp only [bE, Nat.reduceEqDiff, bN, Nat.reduceLT, he, e0, e4, e15, e16, e17]; try rfl), (by simp only [bE, Nat.reduceEqDiff, bN, Nat.reduceLT, he, e0, e4, e15, e16, e17]; try rfl), (by simp only [bE, Nat.reduceEqDiff, bN, Nat.reduceLT, he, e0, e4, e15, e16, e17]; try rfl), (by simp only [bE, Nat.reduceEqDiff, bN, Nat.reduceLT, he, e0, e4, e15, e16, e17]; try rfl), (by simp only [bE, Nat.reduceEqDiff, bN, Nat.reduceLT, he, e0, e4, e15, e16, e17]; try rfl), (by simp only [bE, Nat.reduceEqDiff, bN, Nat.reduceLT, he, e0, e4, e15, e16, e17]; try rfl), ?_⟩
          rw [hsn, hb2]
          exact get_push_some _ gM
      · obtain rfl : i = l.length := by omega
        rw [List.take_length] at hMM m2 m3
        have hrg := rngB_map gM
        have hgI : (t.push (.iter (some s.next) M.length [] M.length)).get t.next = some (.iter (some s.next) M.length [] M.length) := St.get_push_new _ _
        have hgM : (t.push (.iter (some s.next) M.length [] M.length)).get s.next = some (mapB M) := get_push_some _ gM
        simp (config := {contextual := true, maxDischargeDepth := 12}) only [tb_at, he, e0, e4, e15, e16, e17, hL, hlt, hrg, lM, ↓bD, bU, forall_const, bS, implies_true, isNx, eq_self, ↓wp_cond, ↓wp_loop, ↓reduceIte, reduceCtorEq, Nat.reduceEqDiff, Nat.reduceLT, Nat.reduceAdd, Nat.reduceMul, bT, ↓sg_bsl, ↓st_callf, bX, List.cons_append, List.nil_append, ↓st_appf, bY, slcV_nils0N, slcV_sl0N, bslV_0N, bin_shr1, bsl_nd]
        obtain ⟨I2, hI2⟩ : ∃ I : Nat → Env → St → Prop, ∀ n2 e2 t2, I n2 e2 t2 = (Keep s t2 ∧ ∃ (seen : List Nat) (vis : List Dot), n2 + seen.length = M.length ∧ elen e2 = 49 ∧ E e2 0 = v ∧ E e2 30 = .ptr t.next 0 ∧ t2.get s.next = some (mapB M) ∧ t2.get t.next = some (.iter (some s.next) M.length seen M.length) ∧ Own dotC s t2 (E e2 7) (vis.filter fun d => !hasN l d) ∧ seen.Nodup ∧ (∀ k ∈ seen, k < M.length) ∧ vis.map some = seen.map fun k => M[k]?) := ⟨fun n2 e2 t2 => (Keep s t2 ∧ ∃ (seen : List Nat) (vis : List Dot), n2 + seen.length = M.length ∧ elen e2 = 49 ∧ E e2 0 = v ∧ E e2 30 = .ptr t.next 0 ∧ t2.get s.next = some (mapB M) ∧ t2.get t.next = some (.iter (some s.next) M.length seen M.length) ∧ Own dotC s t2 (E e2 7) (vis.filter fun d => !hasN l d) ∧ seen.Nodup ∧ (∀ k ∈ seen, k < M.length) ∧ vis.map some = seen.map fun k => M[k]?), fun _ _ _ => rfl⟩
        refine lwp_inv I2 (n := M.length) ?_ ?_
        · rw [hI2]
          refine ⟨hK.push _, [], [], by simp, (by simp only [bE, Nat.reduceEqDiff, bN, Nat.reduceLT, he]; try rfl), (by simp only [bE, Nat.reduceEqDiff, bN, Nat.reduceLT, he, e0]; try rfl), (by simp only [bE, Nat.reduceEqDiff, bN, Nat.reduceLT, he]; try rfl), hgM, hgI, ?_, by simp, by simp, by simp⟩
          simp only [bE, Nat.reduceEqDiff, bN, Nat.reduceLT, he]
          exact .nil _ _ _
        clear hgI hgM hrg e15 e16 e17 e4 hlt
        intro n2 e2 t2 hi2
        rw [hI2] at hi2
        obtain ⟨hK2, seen, vis, hn2, he2, e0, e30, gM2, gI2, hO2, hsd, hsl, hac⟩ := hi2
        have lM2 := lt_of_get gM2
        have lI2 := lt_of_get gI2
        have hpI : s.next ≤ t.next := hK.next
        have hne0 : s.next ≠ t.next := by
          intro e
          rw [e, gI2] at gM2
          cases gM2
        have hvl : vis.length = seen.length := by have := congrArg List.length hac; simpa using this
        simp only [↓wp_seq, ↓wp_reg, ↓st_nxt, aev_t, e30]
        refine nextB_map gM2 gI2 (fun hall2 => ?_) (fun i x hx hns => ?_)
        · have hpm := seen_permD hsd hsl hac hall2
          have hfl : (vis.filter fun d => !hasN l d).length ≤ 1000000 := by
            have h1 := List.length_filter_le (fun d => !hasN l d) vis
            have h2 := hpm.length_eq
            simp at m2
            omega
          obtain ⟨w, t3, q3, hN3, hK3⟩ := q_DSeto hO2.read (by unfold lim; omega) (hO2.imp (fun h => h.1) fun ⟨_, _, h, _⟩ => h) ((hpm.nodup_iff.2 m1).filter _)
          have hE : setL (vis.filter fun d => !hasN l d) = lackL l := setL_ext fun d => by
            rw [List.mem_filter, List.mem_filter, hpm.mem_iff, m3]
            simp only [List.mem_map, List.mem_filter, Bool.not_eq_true', List.not_mem_nil, false_or]
            constructor
            · rintro ⟨⟨n, h1, h2, h3⟩, h4⟩
              exact ⟨⟨n, ⟨h1, h2⟩, h3⟩, h4⟩
            · rintro ⟨⟨n, ⟨h1, h2⟩, h3⟩, h4⟩
              exact ⟨⟨n, h1, h2, h3⟩, h4⟩
          rw [hE] at hN3
          simp (config := {contextual := true, maxDischargeDepth := 12}) only [tb_at, he2, e0, e30, q3, ↓bD, bU, forall_const, bS, implies_true, isNx, eq_self, ↓wp_cond, ↓wp_loop, ↓reduceIte, reduceCtorEq, Nat.reduceEqDiff, Nat.reduceLT, Nat.reduceAdd, Nat.reduceMul, bT, ↓sg_bsl, ↓st_callf, bX, List.cons_append, List.nil_append, ↓st_appf, bY, slcV_nils0N, slcV_sl0N, bslV_0N, bin_shr1, bsl_nd]
          first | exact ⟨hK2.trans hK3, _, rfl, hN3.from hK2.next⟩ | skip
        · obtain ⟨t4, ht4⟩ : ∃ t4, t4 = t2.put t.next (.iter (some s.next) M.length (seen ++ [i]) M.length) := ⟨_, rfl⟩
          rw [← ht4]
          have gM4 : t4.get s.next = some (mapB M) := by rw [ht4, St.get_put_ne _ _ lI2 hne0]; exact gM2
          have gI4 : t4.get t.next = some (.iter (some s.next) M.length (seen ++ [i]) M.length) := by rw [ht4]; exact St.get_put_same gI2
          have hK4 : Keep s t4 := by rw [ht4]; exact hK2.put _ hpI lI2
          have hO4 : Own dotC s t4 (E e2 7) (vis.filter fun d => !hasN l d) := by
            rcases hO2 with q | ⟨j, q1, q2, q3, q4⟩
            · exact .inl q
            · refine .inr ⟨j, q1, q2, q3, ?_⟩
              have : j ≠ t.next := by
                intro e
                rw [e, gI2] at q4
                cases q4
              rw [ht4, St.get_put_ne _ _ lI2 this]
              exact q4
          have lI4 := lt_of_get gI4
          have lM4 := lt_of_get gM4
          have hen := entB_map gM4 gI4 hx
          have hil := getlt hx
          have hlv : vis.length ≤ 1000000 := by
            have := room_left hsd hsl hil hns
            simp at m2
            omega
          have hfl := List.length_filter_le (fun d => !hasN l d) vis
          have hK5 : Keep s (t4.lowed.push (.row (Dot.av x) true)) := hK4.lowed.push _
          have qf := q_Sfind false (hK5.read hr) (by unfold lim; omega) hs x
          have hfv : findV l x = .tup [.int .i64 ((kOf l x : Nat) : Int), .bool (hasN l x)] := by unfold findV; rw [fnd_has hs]
          rw [hfv] at qf
          cases hh : hasN l x
          · rw [hh] at qf
            have hvf : (vis ++ [x]).filter (fun d => !hasN l d) = vis.filter (fun d => !hasN l d) ++ [x] := by rw [List.filter_append]; simp [hh]
            obtain ⟨u, t5, hap, hK6, hO6⟩ := appV_one (C := dotC) hK5 (hO4.lowed.push _) x 16 (by unfold roomBytes; omega)
            have hap : appV ((t4.lowed.push (.row (Dot.av x) true)).push (.row (Dot.av x) true)) 2 16 (E e2 7) (.sl (t4.lowed.push (.row (Dot.av x) true)).next 0 1 (some 1) 2) = some (u, t5) := hap
            simp (config := {contextual := true, maxDischargeDepth := 12}) only [tb_at, he2, e0, e30, hen, qf, hap, notV_bool, Bool.not_false, ↓bD, bU, forall_const, bS, implies_true, isNx, eq_self, ↓wp_cond, ↓wp_loop, ↓reduceIte, reduceCtorEq, Nat.reduceEqDiff, Nat.reduceLT, Nat.reduceAdd, Nat.reduceMul, bT, ↓sg_bsl, ↓st_callf, bX, List.cons_append, List.nil_append, ↓st_appf, bY, slcV_nils0N, slcV_sl0N, bslV_0N, bin_shr1, bsl_nd]
            have hne1 : ∀ o n c z, E e2 7 ≠ .sl s.next o n c z := by
              intro o n c z e
              rcases hO4 with ⟨q, _⟩ | ⟨j, q1, q2, q3, q4⟩
              · rw [q] at e; cases e
              · rw [q1] at e
                injection e with e
                rw [e, gM4] at q4
                cases q4
            have hne2 : ∀ o n c z, E e2 7 ≠ .sl t.next o n c z := by
              intro o n c z e
              rcases hO4 with ⟨q, _⟩ | ⟨j, q1, q2, q3, q4⟩
              · rw [q] at e; cases e
              · rw [q1] at e
                injection e with e
                rw [e, gI4] at q4
                cases q4
            refine ⟨n2 - 1, by
              have := room_left hsd hsl hil hns
              omega, ?_⟩
            rw [hI2]
            refine ⟨hK6, seen ++ [i], vis ++ [x], ?_, (by simp only [bE, Nat.reduceEqDiff, bN, Nat.reduceLT, he2]; try rfl), (by simp only [bE, Nat.reduceEqDiff, bN, Nat.reduceLT, he2, e0]; try rfl), (by simp only [bE, Nat.reduceEqDiff, bN, Nat.reduceLT, he2, e30]; try rfl), ?_, ?_, by simp only [bE, Nat.reduceEqDiff, bN, Nat.reduceLT, he2]; rw [hvf]; exact hO6, ?_, ?_, ?_⟩
            · have := room_left hsd hsl hil hns
              simp
              omega
            · exact appV_frame hap hne1 (get_push_some _ (get_push_some _ gM4))
            · exact appV_frame hap hne2 (get_push_some _ (get_push_some _ gI4))
            · rw [List.nodup_append]
              exact ⟨hsd, by simp, fun a ha b hb e => by simp at hb; subst hb; subst e; exact hns ha⟩
            · intro k hk
              rcases List.mem_append.1 hk with hk | hk
              · exact hsl k hk
              · simp at hk; omega
            · rw [List.map_append, List.map_append, hac]
              simp [hx]
          · rw [hh] at qf
            have hvf : (vis ++ [x]).filter (fun d => !hasN l d) = vis.filter (fun d => !hasN l d) := by rw [List.filter_append]; simp [hh]
            simp (config := {contextual := true, maxDischargeDepth := 12}) only [tb_at, he2, e0, e30, hen, qf, notV_bool, Bool.not_true, ↓bD, bU, forall_const, bS, implies_true, isNx, eq_self, ↓wp_cond, ↓wp_loop, ↓reduceIte, reduceCtorEq, Nat.reduceEqDiff, Nat.reduceLT, Nat.reduceAdd, Nat.reduceMul, bT, ↓sg_bsl, ↓st_callf, bX, List.cons_append, List.nil_append, ↓st_appf, bY, slcV_nils0N, slcV_sl0N, bslV_0N, bin_shr1, bsl_nd]
            refine ⟨n2 - 1, by
              have := room_left hsd hsl hil hns
              omega, ?_⟩
            rw [hI2]
            refine ⟨hK5, seen ++ [i], vis ++ [x], ?_, (by simp only [bE, Nat.reduceEqDiff, bN, Nat.reduceLT, he2]; try rfl), (by simp only [bE, Nat.reduceEqDiff, bN, Nat.reduceLT, he2, e0]; try rfl), (by simp only [bE, Nat.reduceEqDiff, bN, Nat.reduceLT, he2, e30]; try rfl), ?_, ?_, by simp only [bE, Nat.reduceEqDiff, bN, Nat.reduceLT, he2]; rw [hvf]; exact hO4.lowed.push _, ?_, ?_, ?_⟩
            · have := room_left hsd hsl hil hns
              simp
              omega
            · exact get_push_some _ gM4
            · exact get_push_some _ gI4
            · rw [List.nodup_append]
              exact ⟨hsd, by simp, fun a ha b hb e => by simp at hb; subst hb; subst e; exact hns ha⟩
            · intro k hk
              rcases List.mem_append.1 hk with hk | hk
              · exact hsl k hk
              · simp at hk; omega
            · rw [List.map_append, List.map_append, hac]
              simp [hx]
theorem q_SLack {s : St} {v : AV} {l : List Nd} (hr : read ndC s v = some l) (hl : l.length ≤ lim) : ∃ w t, acall (conF dotC (pL ndC gLack)) false [v] s = some (.tup [w, .int .i64 (lackP l).2], t) ∧ Own dotC s t w (lackP l).1 ∧ Keep s t := by
  obtain ⟨w, t, h1, h2, h3⟩ := fresh_L (D := dotC) (f := gLack) hr hl (rfl : gLack l = some _) (fun x hx => by injection hx with hx; subst hx; rfl)
  exact ⟨w, t, h1, h3, h2⟩

end Go.AM
end
/-
  What a closed run by the kernel shows. Own work of this project.
-/
section
namespace Go.AM
open Go

def isTrue : Option (AV × St) → Bool
  | some (.bool true, _) => true
  | _ => false
theorem isTrue_ex {o : Option (AV × St)} (h : isTrue o = true) : ∃ s, o = some (.bool true, s) := by
  unfold isTrue at h
  split at h
  · exact ⟨_, rfl⟩
  · cases h
end Go.AM
end
/-
  The chapter's examples: 'known' answers true. Own work of this project; in part printed by a program of it.
-/
section
set_option maxRecDepth 100000
set_option maxHeartbeats 4000000
namespace Go.AM
open Go Go.Proofs

def tabK : Nat → AFun
  | 9 => .code a9
  | 42 => .code a42
  | 41 => .code a41
  | 43 => .code a43
  | 34 => .code a34
  | 35 => .code a35
  | 15 => .code a15
  | 19 => .code a19
  | 13 => .code a13
  | 22 => .code a22
  | 23 => .code a23
  | 24 => .code a24
  | 25 => .code a25
  | 31 => .code a31
  | 32 => .code a32
  | 69 => .code a69
  | 93 => .code a93
  | 36 => .code a36
  | 30 => .code a30
  | 37 => .code a37
  | 71 => .code a71
  | 49 => .code a49
  | 38 => .code a38
  | 76 => .code a76
  | 51 => .code a51
  | 65 => .code a65
  | 57 => .code a57
  | 86 => .code a86
  | 73 => .code a73
  | 59 => .code a59
  | 105 => .code a105
  | 125 => .code a125
  | 117 => .code a117
  | 119 => .code a119
  | 95 => .code a95
  | 74 => .code a74
  | 118 => .code a118
  | 132 => .code a132
  | 131 => .code a131
  | 122 => .code a122
  | 147 => .code a147
  | 134 => .code a134
  | 99 => .code a99
  | 154 => .code a154
  | 153 => .code a153
  | 68 => .code a68
  | 82 => .code a82
  | 64 => .code a64
  | 78 => .code a78
  | 120 => .code a120
  | 135 => .code a135
  | 62 => .code a62
  | 136 => .code a136
  | 21 => .code a21
  | 50 => .code a50
  | 17 => .code a17
  | 96 => .code a96
  | 133 => .code a133
  | 72 => .code a72
  | 70 => .code a70
  | 152 => .code a152
  | 56 => .code a56
  | 94 => .code a94
  | 146 => .code a146
  | 85 => .code a85
  | 137 => .code a137
  | 160 => .code a160
  | 63 => .code a63
  | 155 => .code a155
  | 164 => .code a164
  | 91 => .code a91
  | 98 => .code a98
  | 97 => .code a97
  | 75 => .code a75
  | 66 => .code a66
  | 92 => .code a92
  | 89 => .code a89
  | 90 => .code a90
  | 116 => .code a116
  | 159 => .con (conF dotC (pL dotC gMade))
  | 121 => .con (cPdq 62 (fun _ => true) sortD)
  | 88 => .con (cBits)
  | 29 => .con (conF ndC (pL ndC gOf))
  | 52 => .con (conF dotC (pL ndC gLack))
  | _ => .no
theorem tabK_ok : ∀ f, FunOk Tryz.prog f (tabK f) := by
  intro f
  unfold tabK
  split
  · exact ⟨k9, _, Tryz.func9, c9⟩
  · exact ⟨k42, _, Tryz.func42, c42⟩
  · exact ⟨k41, _, Tryz.func41, c41⟩
  · exact ⟨k43, _, Tryz.func43, c43⟩
  · exact ⟨k34, _, Tryz.func34, c34⟩
  · exact ⟨k35, _, Tryz.func35, c35⟩
  · exact ⟨k15, _, Tryz.func15, c15⟩
  · exact ⟨k19, _, Tryz.func19, c19⟩
  · exact ⟨k13, _, Tryz.func13, c13⟩
  · exact ⟨k22, _, Tryz.func22, c22⟩
  · exact ⟨k23, _, Tryz.func23, c23⟩
  · exact ⟨k24, _, Tryz.func24, c24⟩
  · exact ⟨k25, _, Tryz.func25, c25⟩
  · exact ⟨k31, _, Tryz.func31, c31⟩
  · exact ⟨k32, _, Tryz.func32, c32⟩
  · exact ⟨k69, _, Tryz.func69, c69⟩
  · exact ⟨k93, _, Tryz.func93, c93⟩
  · exact ⟨k36, _, Tryz.func36, c36⟩
  · exact ⟨k30, _, Tryz.func30, c30⟩
  · exact ⟨k37, _, Tryz.func37, c37⟩
  · exact ⟨k71, _, Tryz.func71, c71⟩
  · exact ⟨k49, _, Tryz.func49, c49⟩
  · exact ⟨k38, _, Tryz.func38, c38⟩
  · exact ⟨k76, _, Tryz.func76, c76⟩
  · exact ⟨k51, _, Tryz.func51, c51⟩
  · exact ⟨k65, _, Tryz.func65, c65⟩
  · exact ⟨k57, _, Tryz.func57, c57⟩
  · exact ⟨k86, _, Tryz.func86, c86⟩
  · exact ⟨k73, _, Tryz.func73, c73⟩
  · exact ⟨k59, _, Tryz.func59, c59⟩
  · exact ⟨k105, _, Tryz.func105, c105⟩
  · exact ⟨k125, _, Tryz.func125, c125⟩
  · exact ⟨k117, _, Tryz.func117, c117⟩
  · exact ⟨k119, _, Tryz.func119, c119⟩
  · exact ⟨k95, _, Tryz.func95, c95⟩
  · exact ⟨k74, _, Tryz.func74, c74⟩
  · exact ⟨k118, _, Tryz.func118, c118⟩
  · exact ⟨k132, _, Tryz.func132, c132⟩
  · exact ⟨k131, _, Tryz.func131, c131⟩
  · exact ⟨k122, _, Tryz.func122, c122⟩
  · exact ⟨k147, _, Tryz.func147, c147⟩
  · exact ⟨k134, _, Tryz.func134, c134⟩
  · exact ⟨k99, _, Tryz.func99, c99⟩
  · exact ⟨k154, _, Tryz.func154, c154⟩
  · exact ⟨k153, _, Tryz.func153, c153⟩
  · exact ⟨k68, _, Tryz.func68, c68⟩
  · exact ⟨k82, _, Tryz.func82, c82⟩
  · exact ⟨k64, _, Tryz.func64, c64⟩
  · exact ⟨k78, _, Tryz.func78, c78⟩
  · exact ⟨k120, _, Tryz.func120, c120⟩
  · exact ⟨k135, _, Tryz.func135, c135⟩
  · exact ⟨k62, _, Tryz.func62, c62⟩
  · exact ⟨k136, _, Tryz.func136, c136⟩
  · exact ⟨k21, _, Tryz.func21, c21⟩
  · exact ⟨k50, _, Tryz.func50, c50⟩
  · exact ⟨k17, _, Tryz.func17, c17⟩
  · exact ⟨k96, _, Tryz.func96, c96⟩
  · exact ⟨k133, _, Tryz.func133, c133⟩
  · exact ⟨k72, _, Tryz.func72, c72⟩
  · exact ⟨k70, _, Tryz.func70, c70⟩
  · exact ⟨k152, _, Tryz.func152, c152⟩
  · exact ⟨k56, _, Tryz.func56, c56⟩
  · exact ⟨k94, _, Tryz.func94, c94⟩
  · exact ⟨k146, _, Tryz.func146, c146⟩
  · exact ⟨k85, _, Tryz.func85, c85⟩
  · exact ⟨k137, _, Tryz.func137, c137⟩
  · exact ⟨k160, _, Tryz.func160, c160⟩
  · exact ⟨k63, _, Tryz.func63, c63⟩
  · exact ⟨k155, _, Tryz.func155, c155⟩
  · exact ⟨k164, _, Tryz.func164, c164⟩
  · exact ⟨k91, _, Tryz.func91, c91⟩
  · exact ⟨k98, _, Tryz.func98, c98⟩
  · exact ⟨k97, _, Tryz.func97, c97⟩
  · exact ⟨k75, _, Tryz.func75, c75⟩
  · exact ⟨k66, _, Tryz.func66, c66⟩
  · exact ⟨k92, _, Tryz.func92, c92⟩
  · exact ⟨k89, _, Tryz.func89, c89⟩
  · exact ⟨k90, _, Tryz.func90, c90⟩
  · exact ⟨k116, _, Tryz.func116, c116⟩
  · exact s_VMade
  · exact s_pdqSSortD
  · exact s_bits
  · exact s_Of
  · exact s_SLack
  · trivial
theorem known_run : isTrue (acalls tabK 400 18 9 [] St.empty) = true := by kernel_rfl
theorem s_known : SoundAt Tryz.prog 9 (closed [] (.bool true)) := by
  obtain ⟨s, hs⟩ := isTrue_ex known_run
  exact closed_sound (acalls_sound mixed tabK_ok 18 _) hs rfl
end Go.AM
end
/-
  The row's last part: a call that leaves what was there alone, and answers true. Own work of this project.
-/
section
namespace Go.AM
open Go Go.ChangeShapes Go.WideShapes Go.ChangeAt Go.RowKit

variable {H : Type} {enc : TypeId × Value → H} {P : Program}

theorem Clean.below {W W' : World} (h : Clean W W') : Below W.heap.size W W' := ⟨h.os, h.tape, h.output, h.size, h.block⟩
theorem Clean.frozen {W W' : World} (h : Clean W W') {a : Addr} (ha : a.block < W.heap.size) : W'.frozen? a = W.frozen? a := h.below.frozen ha

theorem trodAll_clean (hl : laidOutB P = true) {W W' : World} (hc : Clean W W') (sp : Nat → Bool) : ∀ {ts : List TypeId} {vs : List Value} {ds : List (DataW H)} {ps : List MemPlace}, (∀ t ∈ ts, P.readableRec t = true ∧ t < P.types.size) →
    DataW.TrodAll enc P W 0 (fun _ => true) true ts vs ds ps → (∀ p ∈ ps, sp p.block = true) → DataW.TrodAll enc P W' 0 sp true ts vs ds ps
  | [], vs, ds, ps, _, h, _ => by
    obtain ⟨rfl, rfl, rfl⟩ := trodAll_nil h
    rfl
  | t :: ts, vs, ds, ps, hr, h, hs => by
    obtain ⟨v, vs1, d, ds1, a, b, rfl, rfl, rfl, h1, h2⟩ := trodAll_cons h
    have hlt := DataW.TrodAll.lt h
    refine ⟨a, b, ?_, trodAll_clean hl hc sp (fun t ht => hr t (by simp [ht])) h2 fun p hp => hs p (by simp [hp]), rfl⟩
    exact WideElems.Trod_stays hl (hr t (by simp)).1 (hr t (by simp)).2 h1 (fun x hx => hc.below.same (hlt x (by simp [hx]))) fun x hx => hs x (by simp [hx])

theorem post_of_clean {f : Func} {s : ChangeSpec} {apart fresh handsOn again : Bool} {W W' : World} {args : Array Value} {ds gs : List (DataW H)} {before : List MemPlace} {tb : TypeId} (hl : laidOutB P = true)
    (hread : ∀ t ∈ f.params.toList, P.readableRec t = true ∧ t < P.types.size) (hW : DataW.Whole enc P f.params.toList s.vars apart W args.toList ds gs before) (hv : s.vars = [])
    (hres : (s.fn H (ds ++ gs)).results = [.lit (.bool true)]) (hargs : (s.fn H (ds ++ gs)).args = ds) (hvars : (s.fn H (ds ++ gs)).vars = []) (hrt : f.resultTypes = #[tb]) (hb : P.underlying tb = some .bool) (hc : Clean W W') :
    s.post enc P f apart fresh handsOn again W args (.bool true) W' := by
  have hlt : ∀ p ∈ before, p.block < W.heap.size := hW.lt
  have hW0 := hW
  obtain ⟨pa, pv, hA, hV, rfl, hz, hn⟩ := hW
  have hpv : pv = [] := by
    rw [hv] at hV
    cases gs with
    | nil => exact hV
    | cons g gs => exact hV.elim
  subst hpv
  simp only [List.append_nil] at hW0 hlt hz hn
  have hR : ∀ (b : Nat) (sp : Nat → Bool) (hd : Bool), DataW.TrodAll enc P W' b sp hd [tb] [.bool true] [.lit (.bool true)] [] := fun b sp hd => trodAll_mk1 (shut_bool hb true)
  have hrl : (Value.bool true).resultList f.resultTypes.size = [.bool true] := by simp [hrt, Value.resultList]
  refine ⟨ds, gs, pa, [], pa, [], hW0, ?_, ?_, ?_, ?_, fun _ => ⟨fun j t r h1 h2 => ?_, ?_⟩⟩
  · rw [hrl, hres, hrt]
    exact hR _ _ _
  · rw [hargs]
    exact trodAll_clean hl hc _ hread hA fun p hp => by simpa using hlt p hp
  · rw [hvars, hv]
    rfl
  · exact hc.below.frame _
  · rw [hrl] at h2
    rw [hrt] at h1
    cases j with
    | zero =>
      simp at h1 h2
      subst h1; subst h2
      simp [Value.okWide, hb, Cell.okWide, Cell.ok]
    | succ j => simp at h1
  · refine ⟨[.lit (.bool true)] ++ ds, [], pa, ⟨[] ++ pa, [], ?_, ?_, by simp, ?_, ?_⟩, fun p hp _ => hp⟩
    · rw [hrl, hrt]
      exact trodAll_append (trodAll_clean hl hc _ hread hA fun _ _ => rfl) (hR _ _ _)
    · rw [hv]
      rfl
    · intro b off hp
      rw [hc.frozen (hlt _ hp)]
      exact hz b off hp
    · intro ha
      simpa using hn ha

end Go.AM
end
/-
  From a row's reading of an argument to the abstract machine's memory. Own work of this project.
-/
section
namespace Go.AM
open Go Go.ChangeShapes Go.WideShapes Go.ChangeAt Go.RowKit Go.Deep

/-- The kinds of plain cells. -/
inductive CK where
  | b | i (k : IntKind) | s
def CK.ok : CK → AV → Prop
  | .b, v => ∃ x, v = .bool x
  | .i k, v => ∃ n, v = .int k n ∧ (Lit.int k n).wf = true
  | .s, v => ∃ x, v = .str x
def CKs : List CK → List AV → Prop
  | [], vs => vs = []
  | k :: ks, vs => ∃ v r, vs = v :: r ∧ k.ok v ∧ CKs ks r
theorem CKs.append : ∀ {ks ks' : List CK} {vs vs' : List AV}, CKs ks vs → CKs ks' vs' → CKs (ks ++ ks') (vs ++ vs')
  | [], ks', vs, vs', h, h' => by simp only [CKs] at h; subst h; exact h'
  | k :: ks, ks', vs, vs', h, h' => by
    simp only [CKs] at h
    obtain ⟨v, r, rfl, h1, h2⟩ := h
    exact ⟨v, r ++ vs', rfl, h1, CKs.append h2 h'⟩
theorem CKs.len : ∀ {ks : List CK} {vs : List AV}, CKs ks vs → vs.length = ks.length
  | [], vs, h => by simp only [CKs] at h; subst h; rfl
  | k :: ks, vs, h => by
    simp only [CKs] at h
    obtain ⟨v, r, rfl, h1, h2⟩ := h
    simp [CKs.len h2]
theorem CK.ok_one {k : CK} {v : AV} (h : k.ok v) : v.one = true := by
  cases k <;> simp only [CK.ok] at h
  · obtain ⟨x, rfl⟩ := h; rfl
  · obtain ⟨x, rfl, _⟩ := h; rfl
  · obtain ⟨x, rfl⟩ := h; rfl
theorem CKs.one : ∀ {ks : List CK} {vs : List AV}, CKs ks vs → vs.all AV.one = true
  | [], vs, h => by simp only [CKs] at h; subst h; rfl
  | k :: ks, vs, h => by
    simp only [CKs] at h
    obtain ⟨v, r, rfl, h1, h2⟩ := h
    simp [CK.ok_one h1, CKs.one h2]

variable (P : Program)
def cks : Nat → TypeId → Option (List CK)
  | 0, _ => none
  | d + 1, t =>
    match P.underlying t with
    | some .bool => some [.b]
    | some (.int k) => some [.i k]
    | some .string => some [.s]
    | some (.struct fs) => cksF (cks d) fs.toList 0 (P.cellsOf t)
    | _ => none
where
  cksF (ok : TypeId → Option (List CK)) : List Field → Nat → Nat → Option (List CK)
    | [], at_, sz => if sz = at_ then some [] else none
    | f :: r, at_, sz =>
      if f.offset = at_ then
        match ok f.type with
        | some ks => if ks.length = P.cellsOf f.type then (cksF ok r (at_ + ks.length) sz).map (ks ++ ·) else none
        | none => none
      else none

variable {P}
variable {H : Type} {enc : TypeId × Value → H} {w : World} {base : Nat} {spare : Nat → Bool} {held : Bool}
theorem cell_some {a : Addr} {v : Value} (h : w.cell? a = some v) : ∃ cells el fr, w.heap[a.block]? = some (.cells cells el fr) ∧ a.spot = none := by
  unfold World.cell? at h
  split at h
  · rename_i c el fr hh
    split at h
    · cases h
    · rename_i hs
      exact ⟨c, el, fr, hh, by simpa using hs⟩
  · cases h
theorem addr_block (a : Addr) (i : Nat) : (a.add i).block = a.block := by unfold Addr.add; split <;> rfl
theorem addr_spot (a : Addr) (i : Nat) (h : (a.add i).spot = none) (h0 : i = 0 ∨ True) : i = 0 → a.spot = none := by
  intro hi
  subst hi
  unfold Addr.add at h
  simpa using h

/-- Cells, each kind in its turn, again and again. -/
def Rows (ks : List CK) (rows : List (List AV)) : Prop := ∀ r ∈ rows, CKs ks r
end Go.AM
end
