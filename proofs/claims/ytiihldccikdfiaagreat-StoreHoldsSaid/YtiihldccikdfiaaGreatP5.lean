/-
  Plain laws: the join of what does not clash is determined by what is in it. Own work of this project.
-/
import Derived.Test.YtiihldccikdfiaaGreatP4
import Derived.KernelRfl
import Derived.ProofKit
import Derived.Carry
import Derived.Deep.Slices
import Derived.HandedShaped
import Derived.OpenShut
section
set_option linter.unusedVariables false
set_option linter.unusedSimpArgs false
namespace Go.AM
open Go Go.Proofs

/-- No two of them clash. -/
def NC (S : Nd → Prop) : Prop := ∀ x y, S x → S y → x.d = y.d → x.clash y = false
theorem NC.sub {S T : Nd → Prop} (h : NC S) (k : ∀ x, T x → S x) : NC T := fun x y hx hy e => h x y (k x hx) (k y hy) e
/-- All dots of S, each once, in order; dead where one is dead. -/
structure Res (S : Nd → Prop) (j : List Nd) : Prop where
  sorted : j.Pairwise ltP
  sub : ∀ y ∈ j, S y
  dead : ∀ y ∈ j, ∀ z, S z → z.d = y.d → z.x = 0 → y.x = 0
  cover : ∀ z, S z → ∃ y ∈ j, y.d = z.d
theorem nd_eq {x y : Nd} (hc : x.clash y = false) (h0 : x.x = 0 ↔ y.x = 0) : x = y := by
  rw [Nd.clash_false] at hc
  obtain ⟨⟨_, _⟩, ⟨_, _⟩, _, _⟩ := x
  obtain ⟨⟨_, _⟩, ⟨_, _⟩, _, _⟩ := y
  simp only at *
  grind
theorem Res.mem {S : Nd → Prop} (hS : NC S) {j k : List Nd} (h : Res S j) (g : Res S k) {y : Nd} (hy : y ∈ j) : y ∈ k := by
  obtain ⟨y', h1, h2⟩ := g.cover y (h.sub y hy)
  have hc := hS y y' (h.sub y hy) (g.sub y' h1) h2.symm
  have : y = y' := nd_eq hc ⟨fun e => g.dead y' h1 y (h.sub y hy) h2.symm e, fun e => h.dead y hy y' (g.sub y' h1) h2 e⟩
  rw [this]
  exact h1
theorem Res.uniq {S : Nd → Prop} (hS : NC S) {j k : List Nd} (h : Res S j) (g : Res S k) : j = k :=
  sorted_unique j k ((List.perm_ext_iff_of_nodup (nodup_of h.sorted) (nodup_of g.sorted)).2 fun x => ⟨fun hx => h.mem hS g hx, fun hx => g.mem hS h hx⟩) h.sorted g.sorted
theorem Res.congr {S T : Nd → Prop} {j : List Nd} (h : Res S j) (e : ∀ x, S x ↔ T x) : Res T j :=
  ⟨h.sorted, fun y hy => (e y).1 (h.sub y hy), fun y hy z hz => h.dead y hy z ((e z).2 hz), fun z hz => h.cover z ((e z).2 hz)⟩
def M2 (l m : List Nd) (x : Nd) : Prop := x ∈ l ∨ x ∈ m
/-- The join of a join. -/
theorem Res.step {S T : Nd → Prop} {j k : List Nd} (h : Res S j) (g : Res (fun x => x ∈ j ∨ T x) k) : Res (fun x => S x ∨ T x) k := by
  refine ⟨g.sorted, fun y hy => ?_, fun y hy z hz e z0 => ?_, fun z hz => ?_⟩
  · rcases g.sub y hy with q | q
    · exact .inl (h.sub y q)
    · exact .inr q
  · rcases hz with q | q
    · obtain ⟨y', h1, h2⟩ := h.cover z q
      exact g.dead y hy y' (.inl h1) (h2.trans e) (h.dead y' h1 z q h2.symm z0)
    · exact g.dead y hy z (.inr q) e z0
  · rcases hz with q | q
    · obtain ⟨y', h1, h2⟩ := h.cover z q
      obtain ⟨y, h3, h4⟩ := g.cover y' (.inl h1)
      exact ⟨y, h3, h4.trans h2⟩
    · exact g.cover z (.inr q)
theorem sorted_dot {l : List Nd} (hl : l.Pairwise ltP) {x y : Nd} (hx : x ∈ l) (hy : y ∈ l) (e : x.d = y.d) : x = y := by
  have h1 := getN_mem hl hx
  have h2 := getN_mem hl hy
  rw [e, h2] at h1
  injection h1 with h1
  exact h1.symm
/-! ### store.Of: one list with all -/
theorem updN_mem' {l : List Nd} {x y : Nd} (hn : (l.map Nd.d).Nodup) (h : y ∈ updN l x) : y = x ∨ (y ∈ l ∧ y.d ≠ x.d) := by
  unfold updN at h
  split at h
  · rename_i j old hj
    obtain ⟨h1, h2⟩ := lookN_some hj
    obtain ⟨i, hi⟩ := List.getElem?_of_mem h
    by_cases hij : j = i
    · subst hij
      rw [List.getElem?_set_self (getlt h1)] at hi
      injection hi with hi
      exact .inl hi.symm
    · rw [List.getElem?_set_ne hij] at hi
      refine .inr ⟨List.mem_of_getElem? hi, fun e => hij ?_⟩
      have hlt : j < (l.map Nd.d).length := by simpa using getlt h1
      have he : (l.map Nd.d)[j]? = (l.map Nd.d)[i]? := by
        rw [List.getElem?_map, List.getElem?_map, h1, hi]
        simp [h2, e]
      exact (List.getElem?_inj hlt hn).1 he
  · rename_i hj
    rcases List.mem_append.1 h with h | h
    · exact .inr ⟨h, lookN_none hj y h⟩
    · exact .inl (by simpa using h)
theorem updN_self (l : List Nd) (x : Nd) : x ∈ updN l x := by
  unfold updN
  split
  · rename_i j old hj
    obtain ⟨h1, _⟩ := lookN_some hj
    exact List.mem_of_getElem? (List.getElem?_set_self (getlt h1))
  · simp
theorem updN_old {l : List Nd} {x z : Nd} (h : z ∈ l) (e : z.d ≠ x.d) : z ∈ updN l x := by
  unfold updN
  split
  · rename_i j old hj
    obtain ⟨h1, h2⟩ := lookN_some hj
    obtain ⟨i, hi⟩ := List.getElem?_of_mem h
    have hij : j ≠ i := by
      rintro rfl
      rw [h1] at hi
      injection hi with hi
      subst hi
      exact e h2
    exact List.mem_of_getElem? (by rw [List.getElem?_set_ne hij]; exact hi)
  · exact List.mem_append.2 (.inl h)
theorem updN_cov {l : List Nd} {x z : Nd} (h : z ∈ l) : ∃ y ∈ updN l x, y.d = z.d := by
  by_cases e : z.d = x.d
  · exact ⟨x, updN_self l x, e.symm⟩
  · exact ⟨z, updN_old h e, rfl⟩
def clA (A : List Nd) (n : Nd) : Bool := match lookN A n.d with
  | some (_, x) => x.clash n
  | none => false
theorem ofStep_eq (M A : List Nd) (n : Nd) : ofStep M A n = if clA A n = true then none else match lookN M n.d with
    | some (_, old) => if old.clash n = true then none else some (updN M (old.merge n), if n.x = 0 then A else updN A n)
    | none => some (updN M n, if n.x = 0 then A else updN A n) := rfl
structure OInv (p M A : List Nd) : Prop where
  nc : NC (· ∈ p)
  nd : (M.map Nd.d).Nodup
  sub : ∀ y ∈ M, y ∈ p
  dead : ∀ y ∈ M, ∀ z ∈ p, z.d = y.d → z.x = 0 → y.x = 0
  cover : ∀ z ∈ p, ∃ y ∈ M, y.d = z.d
  asub : ∀ y ∈ A, y ∈ p ∧ y.x ≠ 0
  acov : ∀ z ∈ p, z.x ≠ 0 → ∃ y ∈ A, y.d = z.d
theorem OInv.nil : OInv [] [] [] := ⟨fun x y h => by simp at h, by simp, by simp, by simp, by simp, by simp, by simp⟩
theorem look_in {l : List Nd} {d : Dot} (h : ∃ y ∈ l, y.d = d) : ∃ j y, lookN l d = some (j, y) := by
  obtain ⟨y, h1, h2⟩ := h
  cases hk : lookN l d with
  | none => exact absurd h2 (lookN_none hk y h1)
  | some p => exact ⟨p.1, p.2, rfl⟩
theorem OInv.step {p M A : List Nd} (h : OInv p M A) (n : Nd) : match ofStep M A n with
    | some (M', A') => OInv (p ++ [n]) M' A'
    | none => ∃ x ∈ p, x.d = n.d ∧ x.clash n = true := by
  have hA : ∀ z ∈ p, z.x ≠ 0 → z.d = n.d → clA A n = false → z.clash n = false := by
    intro z hz z0 hd hc
    obtain ⟨j, y, hj⟩ := look_in (h.acov z hz z0)
    rw [hd] at hj
    obtain ⟨h1, h2⟩ := lookN_some hj
    obtain ⟨y1, y2⟩ := h.asub y (List.mem_of_getElem? h1)
    unfold clA at hc
    rw [hj] at hc
    simp only at hc
    have : z = y := nd_eq (h.nc z y hz y1 (hd.trans h2.symm)) ⟨fun e => absurd e z0, fun e => absurd e y2⟩
    rw [this]
    exact hc
  have mk : ∀ m : Nd, m.d = n.d → (m = n ∨ m ∈ M) → (n.x = 0 → m.x = 0) → (∀ z ∈ p, z.d = n.d → z.x = 0 → m.x = 0) → (∀ z ∈ p, z.d = n.d → z.clash n = false) → OInv (p ++ [n]) (updN M m) (if n.x = 0 then A else updN A n) := by
    intro m md hm m0 mp hnc
    have hmem : ∀ x, x ∈ p ++ [n] ↔ x ∈ p ∨ x = n := by simp
    refine ⟨fun x y hx hy e => ?_, updN_nodup h.nd, fun y hy => ?_, fun y hy z hz e z0 => ?_, fun z hz => ?_, fun y hy => ?_, fun z hz z0 => ?_⟩
    · rcases (hmem x).1 hx with kx | kx <;> rcases (hmem y).1 hy with ky | ky
      · exact h.nc x y kx ky e
      · rw [ky]; exact hnc x kx (by rw [e, ky])
      · rw [clash_symm, kx]; exact hnc y ky (by rw [← e, kx])
      · rw [kx, ky]; exact clash_self _
    · rw [hmem]
      rcases updN_mem hy with rfl | hy
      · rcases hm with rfl | hm
        · exact .inr rfl
        · exact .inl (h.sub _ hm)
      · exact .inl (h.sub y hy)
    · rw [hmem] at hz
      rcases updN_mem' h.nd hy with rfl | ⟨hy, hyd⟩
      · rcases hz with hz | rfl
        · exact mp z hz (e.trans md) z0
        · exact m0 z0
      · rcases hz with hz | rfl
        · exact h.dead y hy z hz e z0
        · exact absurd (e.symm.trans md.symm) hyd
    · rw [hmem] at hz
      rcases hz with hz | rfl
      · obtain ⟨y, h1, h2⟩ := h.cover z hz
        obtain ⟨y', h3, h4⟩ := updN_cov (x := m) h1
        exact ⟨y', h3, h4.trans h2⟩
      · exact ⟨m, updN_self M m, md⟩
    · split at hy
      · exact ⟨(hmem y).2 (.inl (h.asub y hy).1), (h.asub y hy).2⟩
      · rename_i hn0
        rcases updN_mem hy with rfl | hy
        · exact ⟨(hmem _).2 (.inr rfl), hn0⟩
        · exact ⟨(hmem y).2 (.inl (h.asub y hy).1), (h.asub y hy).2⟩
    · rw [hmem] at hz
      rcases hz with hz | rfl
      · obtain ⟨y, h1, h2⟩ := h.acov z hz z0
        split
        · exact ⟨y, h1, h2⟩
        · obtain ⟨y', h3, h4⟩ := updN_cov (x := n) h1
          exact ⟨y', h3, h4.trans h2⟩
      · rw [if_neg z0]
        exact ⟨z, updN_self A z, rfl⟩
  rw [ofStep_eq]
  by_cases hc : clA A n = true
  · rw [if_pos hc]
    unfold clA at hc
    cases hk : lookN A n.d with
    | none => rw [hk] at hc; cases hc
    | some q =>
      obtain ⟨j, y⟩ := q
      rw [hk] at hc
      obtain ⟨h1, h2⟩ := lookN_some hk
      exact ⟨y, (h.asub y (List.mem_of_getElem? h1)).1, h2, hc⟩
  · rw [if_neg hc]
    have hc' : clA A n = false := by simpa using hc
    cases hm : lookN M n.d with
    | none =>
      have hno : ∀ z ∈ p, z.d ≠ n.d := fun z hz e => by
        obtain ⟨y, h1, h2⟩ := h.cover z hz
        exact lookN_none hm y h1 (h2.trans e)
      exact mk n rfl (.inl rfl) (fun e => e) (fun z hz e => absurd e (hno z hz)) fun z hz e => absurd e (hno z hz)
    | some q =>
      obtain ⟨j, old⟩ := q
      obtain ⟨h1, h2⟩ := lookN_some hm
      have ho := List.mem_of_getElem? h1
      simp only
      by_cases hco : old.clash n = true
      · rw [if_pos hco]
        exact ⟨old, h.sub old ho, h2, hco⟩
      · rw [if_neg hco]
        have hco' : old.clash n = false := by simpa using hco
        refine mk (old.merge n) (merge_d h2) ?_ (fun e => ?_) (fun z hz e z0 => ?_) fun z hz e => ?_
        · unfold Nd.merge
          split
          · exact .inl rfl
          · exact .inr ho
        · unfold Nd.merge
          rw [if_pos e]
          exact e
        · exact merge_dead (h.dead old ho z hz (e.trans h2.symm) z0)
        · by_cases z0 : z.x = 0
          · have hzo := h.nc z old hz (h.sub old ho) (e.trans h2.symm)
            rw [Nd.clash_false] at hzo hco' ⊢
            grind
          · exact hA z hz z0 e hc'
theorem of_fold : ∀ (r p M A : List Nd), OInv p M A → match ofFold r M A with
    | some M' => ∃ A', OInv (p ++ r) M' A'
    | none => ¬ NC (· ∈ p ++ r)
  | [], p, M, A, h => by
    rw [List.append_nil]
    exact ⟨A, h⟩
  | n :: r, p, M, A, h => by
    have hs := h.step n
    rw [ofFold]
    cases hk : ofStep M A n with
    | none =>
      rw [hk] at hs
      obtain ⟨x, h1, h2, h3⟩ := hs
      intro hn
      have := hn x n (List.mem_append.2 (.inl h1)) (by simp) h2
      rw [this] at h3
      cases h3
    | some q =>
      obtain ⟨M', A'⟩ := q
      rw [hk] at hs
      have := of_fold r (p ++ [n]) M' A' hs
      rw [List.append_assoc, List.singleton_append] at this
      exact this
theorem gof_res {l : List Nd} (hv : l.all Nd.valid = true) : (NC (· ∈ l) ∧ ∃ j, gOf l = some (j, some (.int .i64 0)) ∧ Res (· ∈ l) j) ∨ (¬ NC (· ∈ l) ∧ gOf l = some ([], some (.int .i64 15))) := by
  have h := of_fold l [] [] [] .nil
  rw [List.nil_append] at h
  unfold gOf
  rw [if_pos hv]
  cases hk : ofFold l [] [] with
  | none =>
    rw [hk] at h
    exact .inr ⟨h, rfl⟩
  | some M =>
    rw [hk] at h
    obtain ⟨A, h⟩ := h
    have hp := sortN_perm M
    refine .inl ⟨h.nc, sortN M, rfl, sortN_sorted M h.nd, fun y hy => h.sub y (hp.mem_iff.1 hy), fun y hy z hz e z0 => h.dead y (hp.mem_iff.1 hy) z hz e z0, fun z hz => ?_⟩
    obtain ⟨y, h1, h2⟩ := h.cover z hz
    exact ⟨y, hp.mem_iff.2 h1, h2⟩

/-! ### join.All -/
def ofP (l : List Nd) : List Nd × Int := match gOf l with
  | some (j, some (.int _ e)) => (j, e)
  | _ => ([], 2)
def allP (ls : List (List Nd)) : List Nd × Int := if ls.all storeL = true then ofP ls.flatten else ([], 2)
theorem gOf_P (l : List Nd) : gOf l = some ((ofP l).1, some (.int .i64 (ofP l).2)) := by
  unfold ofP gOf
  split
  · split <;> rfl
  · rfl
theorem store_valid {l : List Nd} (h : storeL l = true) : l.all Nd.valid = true := by
  simp only [storeL, Bool.and_eq_true] at h
  exact h.1
/-! ### What JoinHolds asks -/
theorem store_of_res {S : Nd → Prop} {j : List Nd} (h : Res S j) (hv : ∀ x, S x → x.valid = true) : storeL j = true := by
  simp only [storeL, Bool.and_eq_true]
  exact ⟨List.all_eq_true.2 fun x hx => hv x (h.sub x hx), pairwise_chain h.sorted⟩
theorem store_mem {l : List Nd} (h : storeL l = true) {x : Nd} (hx : x ∈ l) : x.valid = true := List.all_eq_true.1 (store_valid h) x hx
structure Holds3 (a b c : List Nd) (bc all : List Nd) : Prop where
  s : storeL bc = true
  j1 : joinsP b c = (bc, 0)
  j2 : joinsP a bc = (all, 0)
  j3 : joinsP (refJ a b) c = (all, 0)
  a1 : allP [a, b, c] = (all, 0)
  a2 : allP [c, b, b, a, c] = (all, 0)
end Go.AM
end
/-
  Plain laws of stores: putting a node, finding and killing by dots. Own work of this project.
-/
section
set_option linter.unusedVariables false
set_option linter.unusedSimpArgs false
namespace Go.AM
open Go Go.Proofs

/-- The number of nodes before a dot's place. -/
def kOf (l : List Nd) (d : Dot) : Nat := (l.takeWhile fun x => x.d.before d).length
theorem kOf_cons (x : Nd) (l : List Nd) (d : Dot) : kOf (x :: l) d = if x.d.before d = true then kOf l d + 1 else 0 := by
  unfold kOf
  rw [List.takeWhile_cons]
  split <;> rfl
theorem kOf_pre : ∀ (l : List Nd) (d : Dot), ∀ y ∈ l.take (kOf l d), y.d.before d = true
  | [], d => by simp [kOf]
  | x :: l, d => by
    rw [kOf_cons]
    split
    · rename_i h
      intro y hy
      rw [List.take_succ_cons] at hy
      rcases List.mem_cons.1 hy with rfl | hy
      · exact h
      · exact kOf_pre l d y hy
    · simp
theorem kOf_stop : ∀ (l : List Nd) (d : Dot) (y : Nd) (r : List Nd), l.drop (kOf l d) = y :: r → y.d.before d = false
  | [], d, y, r, h => by simp at h
  | x :: l, d, y, r, h => by
    rw [kOf_cons] at h
    split at h
    · rw [List.drop_succ_cons] at h
      exact kOf_stop l d y r h
    · rename_i hb
      simp only [List.drop_zero] at h
      injection h with h1 h2
      rw [← h1]
      simpa using hb
theorem kOf_eq : ∀ {l : List Nd} {d : Dot} {i : Nat}, i ≤ l.length → (∀ k y, k < i → l[k]? = some y → y.d.before d = true) → (∀ y, l[i]? = some y → y.d.before d = false) → kOf l d = i
  | [], d, i, hi, _, _ => by
    have : i = 0 := by simpa using hi
    subst this
    rfl
  | x :: l, d, 0, _, _, hs => by
    rw [kOf_cons, hs x rfl]
    rfl
  | x :: l, d, i + 1, hi, h, hs => by
    rw [kOf_cons, h 0 x (by omega) rfl, if_pos rfl, kOf_eq (i := i) (by simpa using hi) (fun k y hk hy => h (k + 1) y (by omega) (by simpa using hy)) (fun y hy => hs y (by simpa using hy))]

/-! ### Putting a node -/
def pmerge (a b : Nd) : Nd := if a.x = 0 then a else b
def rput (l : List Nd) (n : Nd) : List Nd × Int := match l.drop (kOf l n.d) with
  | [] => (l.take (kOf l n.d) ++ [n], 0)
  | x :: r => if x.d = n.d then (if x.clash n = true then ([], 15) else (l.take (kOf l n.d) ++ pmerge x n :: r, 0)) else (l.take (kOf l n.d) ++ n :: x :: r, 0)
theorem pmerge_or (x n : Nd) : pmerge x n = x ∨ pmerge x n = n := by
  unfold pmerge
  split
  · exact .inl rfl
  · exact .inr rfl
theorem rput_ok {l : List Nd} (hl : l.Pairwise ltP) (n : Nd) (hc : ∀ x ∈ l, x.d = n.d → x.clash n = false) : ∃ j, rput l n = (j, 0) ∧ Res (fun x => x ∈ l ∨ x = n) j := by
  have hpre := kOf_pre l n.d
  have hstop := kOf_stop l n.d
  have hsplit : l = l.take (kOf l n.d) ++ l.drop (kOf l n.d) := (List.take_append_drop _ _).symm
  unfold rput
  generalize hA : l.take (kOf l n.d) = A at *
  generalize hB : l.drop (kOf l n.d) = B at *
  subst hsplit
  obtain ⟨hlA, hlB, hlAB⟩ := List.pairwise_append.1 hl
  have nA : ∀ a ∈ A, a.d ≠ n.d := fun a ha e => by
    have := hpre a ha
    rw [e, before_irr] at this
    cases this
  cases B with
  | nil =>
    refine ⟨_, rfl, ?_, ?_, ?_, ?_⟩
    · rw [List.pairwise_append]
      exact ⟨hlA, List.pairwise_singleton _ _, fun a ha b hb => by
        rw [List.mem_singleton.1 hb]
        exact hpre a ha⟩
    · intro y hy
      rcases List.mem_append.1 hy with h | h
      · exact .inl (by simpa using h)
      · exact .inr (List.mem_singleton.1 h)
    · intro y hy z hz e z0
      rcases List.mem_append.1 hy with h | h
      · rcases hz with q | rfl
        · have : z = y := sorted_dot hl q (by simpa using h) e
          rw [← this]; exact z0
        · exact absurd e.symm (nA y h)
      · rw [List.mem_singleton.1 h] at e ⊢
        rcases hz with q | rfl
        · exact absurd e (nA z (by simpa using q))
        · exact z0
    · intro z hz
      rcases hz with q | rfl
      · exact ⟨z, List.mem_append.2 (.inl (by simpa using q)), rfl⟩
      · exact ⟨z, by simp, rfl⟩
  | cons x r =>
    have hx0 := hstop x r rfl
    obtain ⟨hxr, hrr⟩ := List.pairwise_cons.1 hlB
    by_cases hd : x.d = n.d
    · have hcx := hc x (by simp) hd
      simp only [if_pos hd, hcx, Bool.false_eq_true, if_false]
      have hmd : (pmerge x n).d = n.d := by
        rcases pmerge_or x n with h | h
        · rw [h, hd]
        · rw [h]
      refine ⟨_, rfl, ?_, ?_, ?_, ?_⟩
      · rw [List.pairwise_append, List.pairwise_cons]
        refine ⟨hlA, ⟨fun b hb => ?_, hrr⟩, fun a ha b hb => ?_⟩
        · have := hxr b hb
          unfold ltP at this ⊢
          rw [hmd, ← hd]; exact this
        · rcases List.mem_cons.1 hb with rfl | hb
          · unfold ltP
            rw [hmd]
            exact hpre a ha
          · exact hlAB a ha b (by simp [hb])
      · intro y hy
        rcases List.mem_append.1 hy with h | h
        · exact .inl (by simp [h])
        · rcases List.mem_cons.1 h with rfl | h
          · rcases pmerge_or x n with h | h
            · rw [h]; exact .inl (by simp)
            · rw [h]; exact .inr rfl
          · exact .inl (by simp [h])
      · intro y hy z hz e z0
        have key : y = pmerge x n ∨ (y ∈ A ++ x :: r ∧ y.d ≠ n.d) := by
          rcases List.mem_append.1 hy with h | h
          · exact .inr ⟨by simp [h], nA y h⟩
          · rcases List.mem_cons.1 h with rfl | h
            · exact .inl rfl
            · refine .inr ⟨by simp [h], fun q => ?_⟩
              have := hxr y h
              unfold ltP at this
              rw [q, hd, before_irr] at this
              cases this
        rcases key with rfl | ⟨hm, hne⟩
        · rw [hmd] at e
          rcases hz with q | rfl
          · have : z = x := sorted_dot hl q (by simp) (e.trans hd.symm)
            subst this
            unfold pmerge
            rw [if_pos z0]; exact z0
          · unfold pmerge
            split
            · assumption
            · exact z0
        · rcases hz with q | rfl
          · have : z = y := sorted_dot hl q hm e
            rw [← this]; exact z0
          · exact absurd e.symm hne
      · intro z hz
        have here : ∃ y ∈ A ++ pmerge x n :: r, y.d = n.d := ⟨_, by simp, hmd⟩
        rcases hz with q | rfl
        · rcases List.mem_append.1 q with h | h
          · exact ⟨z, by simp [h], rfl⟩
          · rcases List.mem_cons.1 h with rfl | h
            · rw [hd]; exact here
            · exact ⟨z, by simp [h], rfl⟩
        · exact here
    · simp only [if_neg hd]
      have hnx : ltP n x := by
        rcases ltP_tri n x (Ne.symm hd) with h | h
        · exact h
        · unfold ltP at h
          rw [hx0] at h
          cases h
      refine ⟨_, rfl, ?_, ?_, ?_, ?_⟩
      · rw [List.pairwise_append, List.pairwise_cons]
        refine ⟨hlA, ⟨fun b hb => ?_, hlB⟩, fun a ha b hb => ?_⟩
        · rcases List.mem_cons.1 hb with rfl | hb
          · exact hnx
          · exact ltP_trans hnx (hxr b hb)
        · rcases List.mem_cons.1 hb with rfl | hb
          · exact hpre a ha
          · exact hlAB a ha b hb
      · intro y hy
        rcases List.mem_append.1 hy with h | h
        · exact .inl (by simp [h])
        · rcases List.mem_cons.1 h with rfl | h
          · exact .inr rfl
          · exact .inl (List.mem_append.2 (.inr h))
      · have nB : ∀ b ∈ x :: r, b.d ≠ n.d := by
          intro b hb e
          rcases List.mem_cons.1 hb with rfl | hb
          · exact hd e
          · have := ltP_trans hnx (hxr b hb)
            unfold ltP at this
            rw [e, before_irr] at this
            cases this
        intro y hy z hz e z0
        have key : y = n ∨ (y ∈ A ++ x :: r ∧ y.d ≠ n.d) := by
          rcases List.mem_append.1 hy with h | h
          · exact .inr ⟨by simp [h], nA y h⟩
          · rcases List.mem_cons.1 h with rfl | h
            · exact .inl rfl
            · exact .inr ⟨List.mem_append.2 (.inr h), nB y h⟩
        rcases key with rfl | ⟨hm, hne⟩
        · rcases hz with q | rfl
          · rcases List.mem_append.1 q with h | h
            · exact absurd e (nA z h)
            · exact absurd e (nB z h)
          · exact z0
        · rcases hz with q | rfl
          · have : z = y := sorted_dot hl q hm e
            rw [← this]; exact z0
          · exact absurd e.symm hne
      · intro z hz
        rcases hz with q | rfl
        · refine ⟨z, ?_, rfl⟩
          rcases List.mem_append.1 q with h | h
          · simp [h]
          · exact List.mem_append.2 (.inr (List.mem_cons_of_mem _ h))
        · exact ⟨z, by simp, rfl⟩
theorem at_kOf {l : List Nd} (hl : l.Pairwise ltP) {x : Nd} (hx : x ∈ l) : ∃ r, l.drop (kOf l x.d) = x :: r := by
  have hpre := kOf_pre l x.d
  have hstop := kOf_stop l x.d
  have hsplit : l = l.take (kOf l x.d) ++ l.drop (kOf l x.d) := (List.take_append_drop _ _).symm
  generalize hA : l.take (kOf l x.d) = A at *
  generalize hB : l.drop (kOf l x.d) = B at *
  subst hsplit
  rcases List.mem_append.1 hx with h | h
  · have := hpre x h
    rw [before_irr] at this
    cases this
  · cases B with
    | nil => simp at h
    | cons y r =>
      obtain ⟨_, hlB, _⟩ := List.pairwise_append.1 hl
      obtain ⟨hyr, _⟩ := List.pairwise_cons.1 hlB
      rcases List.mem_cons.1 h with rfl | h
      · exact ⟨r, rfl⟩
      · have h1 := hyr x h
        have h2 := hstop y r rfl
        unfold ltP at h1
        rw [h2] at h1
        cases h1
theorem rput_bad {l : List Nd} (hl : l.Pairwise ltP) {n x : Nd} (hx : x ∈ l) (hd : x.d = n.d) (hc : x.clash n = true) : rput l n = ([], 15) := by
  obtain ⟨r, hr⟩ := at_kOf hl hx
  unfold rput
  rw [← hd, hr]
  simp [hc]
theorem nc_app {l : List Nd} (hl : l.Pairwise ltP) (n : Nd) : NC (· ∈ l ++ [n]) ↔ ∀ x ∈ l, x.d = n.d → x.clash n = false := by
  constructor
  · intro h x hx e
    exact h x n (by simp [hx]) (by simp) e
  · intro h x y hx hy e
    simp only [List.mem_append, List.mem_singleton] at hx hy
    rcases hx with hx | rfl <;> rcases hy with hy | rfl
    · rw [sorted_dot hl hx hy e]
      exact clash_self y
    · exact h x hx e
    · rw [clash_symm]
      exact h y hy e.symm
    · exact clash_self _
theorem ofP_res {l : List Nd} (hv : l.all Nd.valid = true) (hn : NC (· ∈ l)) : ∃ j, ofP l = (j, 0) ∧ Res (· ∈ l) j := by
  rcases gof_res hv with ⟨_, j, h1, h2⟩ | ⟨h, _⟩
  · exact ⟨j, by unfold ofP; rw [h1], h2⟩
  · exact absurd hn h
theorem ofP_clash {l : List Nd} (hv : l.all Nd.valid = true) (hn : ¬ NC (· ∈ l)) : ofP l = ([], 15) := by
  rcases gof_res hv with ⟨h, _⟩ | ⟨_, h⟩
  · exact absurd h hn
  · unfold ofP; rw [h]
theorem ofP_bad {l : List Nd} (hv : l.all Nd.valid = false) : ofP l = ([], 2) := by
  unfold ofP gOf
  rw [hv]
  rfl
theorem put_eq {l : List Nd} (hl : storeL l = true) {n : Nd} (hn : n.valid = true) : ofP (l ++ [n]) = rput l n := by
  have hs := store_sorted hl
  have hv : (l ++ [n]).all Nd.valid = true := by rw [List.all_append, store_valid hl]; simp [hn]
  by_cases hc : ∀ x ∈ l, x.d = n.d → x.clash n = false
  · obtain ⟨j, h1, h2⟩ := rput_ok hs n hc
    obtain ⟨k, h3, h4⟩ := ofP_res hv ((nc_app hs n).2 hc)
    rw [h1, h3, h4.uniq ((nc_app hs n).2 hc) (h2.congr fun x => by simp)]
  · rw [ofP_clash hv fun h => hc ((nc_app hs n).1 h)]
    simp only [Classical.not_forall] at hc
    obtain ⟨x, hx, hd, hcl⟩ := hc
    rw [rput_bad hs hx hd (by simpa using hcl)]
theorem of_self {l : List Nd} (hl : storeL l = true) : ofP l = (l, 0) := by
  have hs := store_sorted hl
  have hn : NC (· ∈ l) := fun x y hx hy e => by
    rw [sorted_dot hs hx hy e]
    exact clash_self y
  obtain ⟨j, h1, h2⟩ := ofP_res (store_valid hl) hn
  have : Res (· ∈ l) l := ⟨hs, fun y hy => hy, fun y hy z hz e z0 => by rw [← sorted_dot hs hz hy e]; exact z0, fun z hz => ⟨z, hz, rfl⟩⟩
  rw [h1, h2.uniq hn this]
theorem ofP_store {l : List Nd} (h : (ofP l).2 = 0) : storeL (ofP l).1 = true ∧ NC (· ∈ l) ∧ l.all Nd.valid = true := by
  cases hv : l.all Nd.valid
  · rw [ofP_bad hv] at h
    cases h
  · by_cases hn : NC (· ∈ l)
    · obtain ⟨j, h1, h2⟩ := ofP_res hv hn
      rw [h1]
      exact ⟨store_of_res h2 fun x hx => List.all_eq_true.1 hv x hx, hn, rfl⟩
    · rw [ofP_clash hv hn] at h
      cases h
/-- Only what nodes there are matters. -/
theorem ofP_congr {l m : List Nd} (h : ∀ x, x ∈ l ↔ x ∈ m) : ofP l = ofP m := by
  have hv : l.all Nd.valid = m.all Nd.valid := by
    rw [Bool.eq_iff_iff, List.all_eq_true, List.all_eq_true]
    exact ⟨fun q x hx => q x ((h x).2 hx), fun q x hx => q x ((h x).1 hx)⟩
  cases hm : m.all Nd.valid
  · rw [ofP_bad hm, ofP_bad (hv.trans hm)]
  · have hl := hv.trans hm
    have e : NC (· ∈ l) ↔ NC (· ∈ m) := ⟨fun q => q.sub fun x hx => (h x).2 hx, fun q => q.sub fun x hx => (h x).1 hx⟩
    by_cases hn : NC (· ∈ m)
    · obtain ⟨j, h1, h2⟩ := ofP_res hl (e.2 hn)
      obtain ⟨k, h3, h4⟩ := ofP_res hm hn
      rw [h1, h3, (h2.congr h).uniq hn h4]
    · rw [ofP_clash hm hn, ofP_clash hl fun q => hn (e.1 q)]
/-- Putting the nodes one after the other. -/
theorem put_step {p : List Nd} {n : Nd} (hv : (p ++ [n]).all Nd.valid = true) (hn : NC (· ∈ p ++ [n])) : ofP ((ofP p).1 ++ [n]) = ofP (p ++ [n]) ∧ (ofP (p ++ [n])).2 = 0 ∧ storeL (ofP p).1 = true := by
  have hv1 : p.all Nd.valid = true := by
    rw [List.all_append, Bool.and_eq_true] at hv
    exact hv.1
  obtain ⟨j, h1, h2⟩ := ofP_res hv1 (hn.sub fun x hx => by simp [hx])
  have hsj : storeL j = true := store_of_res h2 fun x hx => List.all_eq_true.1 hv1 x hx
  rw [h1]
  have hnj : NC (· ∈ j ++ [n]) := hn.sub fun x hx => by
    simp only [List.mem_append, List.mem_singleton] at hx ⊢
    exact hx.imp (h2.sub x) id
  have hvj : (j ++ [n]).all Nd.valid = true := by
    rw [List.all_append, store_valid hsj]
    rw [List.all_append, Bool.and_eq_true] at hv
    exact hv.2
  obtain ⟨k, h3, h4⟩ := ofP_res hvj hnj
  obtain ⟨m, h5, h6⟩ := ofP_res hv hn
  have h7 : Res (fun x => x ∈ p ∨ x = n) k := h2.step (h4.congr fun x => by simp)
  simp only
  rw [h3, h5, (h7.congr fun x => by simp).uniq hn h6]
  exact ⟨rfl, rfl, hsj⟩

/-! ### Finding and killing -/
def hasN (l : List Nd) (d : Dot) : Bool := l.any fun x => decide (x.d = d)
theorem hasN_iff {l : List Nd} {d : Dot} : hasN l d = true ↔ ∃ x ∈ l, x.d = d := by simp [hasN]
theorem at_found {l : List Nd} (hl : l.Pairwise ltP) (d : Dot) : (match l[kOf l d]? with
    | some x => decide (x.d = d)
    | none => false) = hasN l d := by
  rw [Bool.eq_iff_iff, hasN_iff]
  constructor
  · intro h
    split at h
    · rename_i x hx
      exact ⟨x, List.mem_of_getElem? hx, by simpa using h⟩
    · cases h
  · rintro ⟨x, hx, rfl⟩
    obtain ⟨r, hr⟩ := at_kOf hl hx
    have : l[kOf l x.d]? = some x := by
      have h := congrArg (·[0]?) hr
      simpa using h
    rw [this]
    simp
def kill1 (n : Nd) : Nd := { n with x := 0 }
def killL (l : List Nd) (ds : List Dot) : List Nd := l.map fun n => if n.d ∈ ds then kill1 n else n
theorem killL_len (l : List Nd) (ds : List Dot) : (killL l ds).length = l.length := List.length_map _
theorem killL_nil (l : List Nd) : killL l [] = l := by
  unfold killL
  simp
theorem killL_dots (l : List Nd) (ds : List Dot) : (killL l ds).map Nd.d = l.map Nd.d := by
  unfold killL
  rw [List.map_map]
  apply List.map_congr_left
  intro n _
  simp only [Function.comp]
  split <;> rfl
theorem killL_at (l : List Nd) (ds : List Dot) (i : Nat) : (killL l ds)[i]? = (l[i]?).map fun n => if n.d ∈ ds then kill1 n else n := List.getElem?_map ..
theorem sorted_dots {l m : List Nd} (h : l.map Nd.d = m.map Nd.d) (hl : l.Pairwise ltP) : m.Pairwise ltP := by
  have h1 : (l.map Nd.d).Pairwise (fun a b : Dot => a.before b = true) := List.pairwise_map.2 hl
  rw [h] at h1
  have h2 := List.pairwise_map.1 h1
  exact h2
theorem killL_sorted {l : List Nd} (hl : l.Pairwise ltP) (ds : List Dot) : (killL l ds).Pairwise ltP := sorted_dots (killL_dots l ds).symm hl
theorem kOf_dots : ∀ {l m : List Nd} (_ : l.map Nd.d = m.map Nd.d) (d : Dot), kOf l d = kOf m d
  | [], [], _, _ => rfl
  | [], _ :: _, h, _ => by simp at h
  | _ :: _, [], h, _ => by simp at h
  | x :: l, y :: m, h, d => by
    simp only [List.map_cons, List.cons.injEq] at h
    rw [kOf_cons, kOf_cons, h.1, kOf_dots h.2]
theorem hasN_dots {l m : List Nd} (h : l.map Nd.d = m.map Nd.d) (d : Dot) : hasN l d = hasN m d := by
  have e : ∀ k : List Nd, hasN k d = (k.map Nd.d).any fun a => decide (a = d) := fun k => by
    unfold hasN
    rw [List.any_map]
    rfl
  rw [e, e, h]
theorem kill_step {l : List Nd} (hl : l.Pairwise ltP) (ds : List Dot) {d : Dot} {x : Nd} (hx : (killL l ds)[kOf l d]? = some x) (hd : x.d = d) : (killL l ds).set (kOf l d) (kill1 x) = killL l (ds ++ [d]) := by
  apply List.ext_getElem?
  intro i
  rw [List.getElem?_set, killL_at]
  rw [killL_at] at hx
  obtain ⟨y, hy, hyx⟩ := Option.map_eq_some_iff.1 hx
  have hyd : y.d = d := by
    rw [← hd, ← hyx]
    split <;> rfl
  split
  · rename_i e
    subst e
    have hlt : kOf l d < (killL l ds).length := by rw [killL_len]; exact (List.getElem?_eq_some_iff.1 hy).1
    rw [if_pos hlt, killL_at, hy]
    simp only [Option.map_some, Option.some.injEq]
    rw [if_pos (by simp [hyd]), ← hyx]
    split <;> rfl
  · rename_i hne
    rw [killL_at]
    cases hi : l[i]? with
    | none => rfl
    | some z =>
      simp only [Option.map_some, Option.some.injEq]
      have : z.d ≠ d := by
        intro e
        have hzm := List.mem_of_getElem? hi
        have : z = y := sorted_dot hl hzm (List.mem_of_getElem? hy) (e.trans hyd.symm)
        subst this
        have h1 := (List.getElem?_eq_some_iff.1 hi)
        have h2 := (List.getElem?_eq_some_iff.1 hy)
        obtain ⟨p1, q1⟩ := h1
        obtain ⟨p2, q2⟩ := h2
        exact hne ((List.getElem_inj (nodup_of hl)).1 (q2.trans q1.symm))
      by_cases hm : z.d ∈ ds
      · rw [if_pos hm, if_pos (by simp [hm])]
      · rw [if_neg hm, if_neg (by simp [hm, this])]
theorem goodRune_zero (n : Nd) (h : n.valid = true) : (kill1 n).valid = true := by
  simp only [Nd.valid, kill1, Bool.and_eq_true] at h ⊢
  exact ⟨h.1, by simp⟩
theorem killL_store {l : List Nd} (hl : storeL l = true) (ds : List Dot) : storeL (killL l ds) = true := by
  simp only [storeL, Bool.and_eq_true]
  refine ⟨List.all_eq_true.2 fun x hx => ?_, pairwise_chain (killL_sorted (store_sorted hl) ds)⟩
  obtain ⟨y, hy, rfl⟩ := List.mem_map.1 hx
  have := store_mem hl hy
  split
  · exact goodRune_zero y this
  · exact this
def killP (l : List Nd) (ds : List Dot) : List Nd × Int := if ds.all (hasN l) = true then (killL l ds, 0) else ([], 9)

end Go.AM
end
/-
  Nodes: the reference of layer 9. Own work of this project; in part printed by a program of it.
-/
section
set_option linter.unusedVariables false
set_option linter.unusedSimpArgs false
set_option maxRecDepth 100000
set_option maxHeartbeats 8000000
namespace Go.AM
open Go Go.Proofs

variable {s t u : St}

theorem bY : type_of% (And.intro @ap_mkfn <|
  And.intro @ae_callvV <|
  And.intro @callvV_fn <|
  And.intro @boxV_i <|
  And.intro @boxV_dot <|
  And.intro @sto_dot <|
  And.intro @ap_conv <|
  And.intro @convV_int <|
  And.intro @bslV_0 <|
  And.intro @fstep_d0 <|
  And.intro @fstep_d1 <|
  And.intro @bsl_dot <|
  And.intro @ae_appz <|
  And.intro @ap_cap <|
  And.intro @capV_nils <|
  And.intro @slcV_nils0 <|
  And.intro @slcV_sl0 <|
  And.intro @wrap_0 <|
  And.intro @ae_clr <|
  And.intro @boxV_f <|
  And.intro @fstep_f <|
  @lod_new2) :=
  And.intro @ap_mkfn <|
  And.intro @ae_callvV <|
  And.intro @callvV_fn <|
  And.intro @boxV_i <|
  And.intro @boxV_dot <|
  And.intro @sto_dot <|
  And.intro @ap_conv <|
  And.intro @convV_int <|
  And.intro @bslV_0 <|
  And.intro @fstep_d0 <|
  And.intro @fstep_d1 <|
  And.intro @bsl_dot <|
  And.intro @ae_appz <|
  And.intro @ap_cap <|
  And.intro @capV_nils <|
  And.intro @slcV_nils0 <|
  And.intro @slcV_sl0 <|
  And.intro @wrap_0 <|
  And.intro @ae_clr <|
  And.intro @boxV_f <|
  And.intro @fstep_f <|
  @lod_new2

theorem box_nd (s : St) (n : Nd) (hK : Keep (s.push (.row (Nd.av n) true)) t) : lod t 6 (.ptr s.next 0) = some (.agg (Nd.av n)) ∧ lod t 2 (.ptr s.next 0) = some (.agg (Dot.av n.d)) ∧ lod t 2 (.ptr s.next 2) = some (.agg (Dot.av n.p)) ∧ lod1 t (.ptr s.next 4) = some (.int .i64 n.t) ∧ lod1 t (.ptr s.next 5) = some (.int .i32 n.x) ∧ ltN s.next t := by
  have h := hK.blk (St.get_push_new s (.row (Nd.av n) true))
  refine ⟨by simp [lod, h, Nd.av], by simp [lod, h, Nd.av, Dot.av], by simp [lod, h, Nd.av, Dot.av], ?_, ?_, St.get_lt h⟩ <;> simp [lod1, h, Nd.av]
/-- What a rune can be at all. -/
def okR (x : Int) : Prop := -2147483648 ≤ x ∧ x ≤ 2147483647
def okL (l : List Nd) : Prop := ∀ n ∈ l, okR n.x
end Go.AM
end
/-
  Lists of nodes: Clone, Equal, IndexFunc, Grow, Concat, DeleteFunc; as for lists of dots. Own work of this project; in part printed by a program of it.
-/
section
set_option linter.unusedVariables false
set_option linter.unusedSimpArgs false
set_option maxRecDepth 100000
set_option maxHeartbeats 8000000
namespace Go.AM
open Go Go.Proofs

variable {s t u : St}
theorem read_groundN {v : AV} {l : List Nd} (h : read ndC s v = some l) (hg : v.ground = true) : v = .nils ∧ l = [] := by
  cases v <;> simp_all [read, AV.ground, AV.plains, AV.plain]
theorem bslV_0N : bslV [] 0 6 [] = some (fun id => .sl id 0 0 (some 0) 6, .row [] true) := nrfl rfl
theorem app_cloneN {v : AV} {l : List Nd} (hr : read ndC s v = some l) (hl : l.length ≤ lim) : ∃ v' t, appV (s.push (.row [] true)) 6 48 (.sl s.next 0 0 (some 0) 6) v = some (v', t) ∧ (NewX ndC s t v' l ∧ CapOK v') ∧ Keep s t := by
  have hK : Keep s (s.push (.row [] true)) := (Keep.refl s).push _
  have hr1 := hK.read hr
  have h2 : ndC.sz = 6 := rfl
  simp only [appV]
  rw [← h2, read_shown hr1, read_len hr1]
  simp only [aappend, if_true, St.get_push_new]
  by_cases h0 : l.length = 0
  · have : l = [] := List.length_eq_zero_iff.1 h0
    subst this
    exact ⟨_, _, if_pos (rfl : ([] : List Nd).length = 0), ⟨.inr ⟨s.next, some 0, rfl, Nat.le_refl _, St.get_push_new _ _⟩, fun _ _ _ _ _ h => by injection h with _ _ h; omega⟩, hK⟩
  · rw [if_neg h0, if_pos ⟨by simp, by unfold lim at hl; unfold roomBytes; omega⟩, if_neg (by omega)]
    refine ⟨_, _, rfl, ⟨.inr ⟨_, none, by rw [Nat.zero_add], hK.next, ?_⟩, fun _ _ _ _ _ h => by cases h⟩, hK.push _⟩
    rw [St.get_push_new]
    simp
noncomputable def R_SClN : Con := runFn (tb []) a72
theorem s_SClN : SoundAt Tryz.prog 72 R_SClN := run_sound (tb_sound (l := []) (by simp)) mixed Tryz.func72 k72 c72
theorem n_SClN : noNxtC a72.body = true := by kernel_rfl
theorem w_SClN {s : St} {v : AV} {l : List Nd} (hr : read ndC s v = some l) (hl : l.length ≤ lim) : ∀ env : Env, elen env = a72.ntmps → (∀ i x_, [v][i]? = some x_ → E env i = x_) → awp (tb []) a72.body (fun x e t => (∀ i, x ≠ .exit i) ∧ ∃ r, aresults e t a72.results = some r ∧ (NewX ndC s t r l ∧ CapOK r) ∧ Keep s t) env s := by
  intro env hlen ha
  have h0 : E env 0 = _ := ha 0 _ rfl
  have hlen : elen env = _ := hlen
  simp only [a72] at hlen
  unfold a72
  try dsimp only [oO, oG]
  cases v with
  | nils =>
    rw [read_nils] at hr
    injection hr with hr
    subst hr
    simp (config := {contextual := true, maxDischargeDepth := 12}) only [tb_at, h0, hlen, ↓bD, bU, forall_const, bS, implies_true, isNx, eq_self, ↓wp_cond, ↓wp_loop, ↓reduceIte, reduceCtorEq, Nat.reduceEqDiff, Nat.reduceLT, Nat.reduceAdd, Nat.reduceMul, bT, ↓sg_bsl, ↓st_callf, bX, ap_mkfn, ae_callvV, callvV_fn, List.cons_append, List.nil_append, boxV_i, boxV_nd, sto_dot, ap_conv, convV_int, bslV_0N]
    first | exact ⟨_, rfl, ⟨.nil _ _ _, .nils⟩, .refl s⟩ | exact ⟨_, rfl, .nil _ _ _, .nils⟩
  | sl id off n cap z =>
    obtain ⟨v', t, hap, hN, hK⟩ := app_cloneN hr hl
    simp (config := {contextual := true, maxDischargeDepth := 12}) only [tb_at, h0, hlen, hap, ↓bD, bU, forall_const, bS, implies_true, isNx, eq_self, ↓wp_cond, ↓wp_loop, ↓reduceIte, reduceCtorEq, Nat.reduceEqDiff, Nat.reduceLT, Nat.reduceAdd, Nat.reduceMul, bT, ↓sg_bsl, ↓st_callf, bX, ap_mkfn, ae_callvV, callvV_fn, List.cons_append, List.nil_append, boxV_i, boxV_nd, sto_dot, ap_conv, convV_int, bslV_0N]
    exact ⟨_, rfl, hN, hK⟩
  | _ => simp [read] at hr
theorem q_SClN {s : St} {v : AV} {l : List Nd} (hr : read ndC s v = some l) (hl : l.length ≤ lim) : ∃ v' t, acall R_SClN false [v] s = some (v', t) ∧ (NewX ndC s t v' l ∧ CapOK v') ∧ Keep s t :=
  run_any n_SClN (by simp [a72]) (fun r t t' hg hn hq => ⟨hq.1.mono fun id b hb => by rw [hg]; exact hb, hq.2⟩) (fun r t hgr hk hq => by obtain ⟨rfl, rfl⟩ := hq.1.ground hgr; exact ⟨.nil _ _ _, .nils⟩) (w_SClN (s := lowd s) (read_low' hr) hl)
def idxN (l : List Nd) (p : Nd → Bool) : Int := match l.findIdx? p with
  | some i => (i : Int)
  | none => -1
theorem idxN_hit {l : List Nd} {p : Nd → Bool} {i : Nat} {x : Nd} (hx : l[i]? = some x) (hp : p x = true) (h : ∀ k y, k < i → l[k]? = some y → p y = false) : idxN l p = (i : Int) := by
  unfold idxN
  have hlt := getlt hx
  have e : l.findIdx? p = some i := by
    rw [List.findIdx?_eq_some_iff_getElem]
    refine ⟨hlt, ?_, fun j hj => ?_⟩
    · rw [List.getElem?_eq_getElem hlt] at hx
      injection hx with hx
      rw [hx, hp]
    · have := h j l[j] hj (List.getElem?_eq_getElem (by omega))
      simp [this]
  rw [e]
theorem idxN_miss {l : List Nd} {p : Nd → Bool} (h : ∀ k y, k < l.length → l[k]? = some y → p y = false) : idxN l p = -1 := by
  unfold idxN
  have e : l.findIdx? p = none := by
    rw [List.findIdx?_eq_none_iff]
    intro x hx
    obtain ⟨k, hk⟩ := List.getElem?_of_mem hx
    exact h k x (getlt hk) hk
  rw [e]
theorem read_oneN {v : AV} {l : List Nd} (h : read ndC s v = some l) : v.cells = [v] ∧ v.one = true := by
  cases v <;> simp_all [read, AV.cells, AV.one]
theorem slcV_nils0N : slcV 6 .nils none (some (.int .i64 0)) = some .nils := nrfl rfl
theorem slcV_sl0N (j n : Nat) : slcV 6 (.sl j 0 n none 6) none (some (.int .i64 0)) = some (.sl j 0 0 none 6) := nrfl (by
  simp [slcV, optNat, asNatIn])
theorem appz_nilN {n : Nat} (h0 : 0 < n) (hn : n ≤ 4000000) : appzV s 6 48 [.int .i64 0, .int .i64 0, .int .i64 0, .int .i64 0, .int .i64 0, .int .i32 0] .nils (.int .i64 (n : Int)) = some (.sl s.next 0 n none 6, s.push (.row (zeros [.int .i64 0, .int .i64 0, .int .i64 0, .int .i64 0, .int .i64 0, .int .i32 0] n) true)) := by
  simp only [appzV]
  rw [if_pos ⟨by omega, by omega, rfl⟩, Int.toNat_natCast]
  simp only [aappend]
  rw [if_neg (by omega), if_pos (by unfold roomBytes; omega)]
def PreOwnN (s t : St) (v : AV) (l : List Nd) : Prop := Own ndC s t v l ∨ (l = [] ∧ ∃ j cs, v = .sl j 0 0 none 6 ∧ s.next ≤ j ∧ t.get j = some (.row cs true))
theorem PreOwnN.read {v : AV} {l : List Nd} (h : PreOwnN s t v l) : read ndC t v = some l := by
  rcases h with h | ⟨rfl, j, cs, rfl, _, h⟩
  · exact h.read
  · exact read_of (C := ndC) (n := 0) rfl h (by omega) (by simp [cells_nil])
theorem PreOwnN.mono {v : AV} {l : List Nd} (h : PreOwnN s t v l) (k : ∀ id b, t.get id = some b → u.get id = some b) : PreOwnN s u v l := h.imp (fun h => h.mono k) fun ⟨h1, j, cs, h2, h3, h4⟩ => ⟨h1, j, cs, h2, h3, k _ _ h4⟩
theorem PreOwnN.app {v w : AV} {l m : List Nd} (hK : Keep s t) (h : PreOwnN s t v l) (hr : AM.read ndC t w = some m) (hb : l.length + m.length ≤ 4000000) : ∃ v' t', appV t 6 48 v w = some (v', t') ∧ Keep s t' ∧ PreOwnN s t' v' (l ++ m) := by
  rcases h with h | ⟨rfl, j, cs, rfl, h1, h⟩
  · obtain ⟨v', t', q1, q2, q3⟩ := appV_list hK h hr 48 (by unfold roomBytes; omega)
    exact ⟨v', t', q1, q2, .inl q3⟩
  · have h2 : ndC.sz = 6 := rfl
    simp only [appV]
    rw [← h2, read_shown hr, read_len hr]
    simp only [aappend, if_true, h]
    by_cases h0 : m.length = 0
    · have : m = [] := List.length_eq_zero_iff.1 h0
      subst this
      exact ⟨_, _, if_pos (rfl : ([] : List Nd).length = 0), hK, .inr ⟨rfl, j, cs, rfl, h1, h⟩⟩
    · rw [if_neg h0, if_pos ⟨by omega, by simp at hb; unfold roomBytes; omega⟩]
      refine ⟨_, _, rfl, (hK.put .dead h1 (St.get_lt h)).push _, .inl (.inr ⟨t.next, by simp, by simpa using h0, hK.next, ?_⟩)⟩
      have := St.get_push_new (t.put j .dead) (.row (ndC.cells m) true)
      simpa using this
noncomputable def R_GrowN : Con := runFn (tb []) a91
theorem s_GrowN : SoundAt Tryz.prog 91 R_GrowN := run_sound (tb_sound (l := []) (by simp)) mixed Tryz.func91 k91 c91
theorem n_GrowN : noNxtC a91.body = true := by kernel_rfl
theorem w_GrowN {s : St} {n : Nat} (hn : n ≤ 4000000) : ∀ env : Env, elen env = a91.ntmps → (∀ i x_, [.nils, .int .i64 (n : Int)][i]? = some x_ → E env i = x_) → awp (tb []) a91.body (fun x e t => (∀ i, x ≠ .exit i) ∧ ∃ r, aresults e t a91.results = some r ∧ PreOwnN s t r [] ∧ Keep s t) env s := by
  intro env hlen ha
  have h0 : E env 0 = _ := ha 0 _ rfl
  have h1 : E env 1 = _ := ha 1 _ rfl
  have hlen : elen env = _ := hlen
  simp only [a91] at hlen
  unfold a91
  try dsimp only [oO, oG]
  have hw := wrap_m0 (n := n) (by omega)
  have hz : ((n : Int) < 0) = False := eq_false (by omega)
  by_cases h0n : n = 0
  · have hz2 : ((0 : Int) < (n : Int)) = False := eq_false (by omega)
    simp (config := {contextual := true, maxDischargeDepth := 12}) only [tb_at, h0, h1, hlen, lenV_nils, hw, hz, hz2, ↓bD, bU, forall_const, bS, implies_true, isNx, eq_self, ↓wp_cond, ↓wp_loop, ↓reduceIte, reduceCtorEq, Nat.reduceEqDiff, Nat.reduceLT, Nat.reduceAdd, Nat.reduceMul, bT, ↓sg_bsl, ↓st_callf, bX, ap_mkfn, ae_callvV, callvV_fn, List.cons_append, List.nil_append, boxV_i, boxV_nd, sto_dot, ap_conv, convV_int, bslV_0N, fstep_d0, fstep_d1, bsl_dot, ae_appz, ap_cap, capV_nils, slcV_nils0N, slcV_sl0N, wrap_0]
    exact ⟨_, rfl, .inl (.nil _ _ _)⟩
  · have hz2 : ((0 : Int) < (n : Int)) = True := eq_true (by omega)
    have ha := appz_nilN (s := s) (n := n) (by omega) hn
    simp (config := {contextual := true, maxDischargeDepth := 12}) only [tb_at, h0, h1, hlen, lenV_nils, hw, hz, hz2, ha, ↓bD, bU, forall_const, bS, implies_true, isNx, eq_self, ↓wp_cond, ↓wp_loop, ↓reduceIte, reduceCtorEq, Nat.reduceEqDiff, Nat.reduceLT, Nat.reduceAdd, Nat.reduceMul, bT, ↓sg_bsl, ↓st_callf, bX, ap_mkfn, ae_callvV, callvV_fn, List.cons_append, List.nil_append, boxV_i, boxV_nd, sto_dot, ap_conv, convV_int, bslV_0N, fstep_d0, fstep_d1, bsl_dot, ae_appz, ap_cap, capV_nils, slcV_nils0N, slcV_sl0N, wrap_0]
    exact ⟨_, rfl, .inr ⟨rfl, s.next, _, rfl, Nat.le_refl _, St.get_push_new _ _⟩⟩
theorem q_GrowN {s : St} {n : Nat} (hn : n ≤ 4000000) : ∃ w t, acall R_GrowN false [.nils, .int .i64 (n : Int)] s = some (w, t) ∧ PreOwnN s t w [] ∧ Keep s t :=
  run_any n_GrowN (by simp [a91]) (fun r t t' hg hn hq => hq.mono fun id b hb => by rw [hg]; exact hb) (fun r t hgr hk hq => by
    rcases hq with hq | ⟨_, j, cs, rfl, _⟩
    · obtain ⟨rfl, _⟩ := hq.ground hgr
      exact .inl (.nil _ _ _)
    · cases hgr) (w_GrowN (s := lowd s) hn)
noncomputable def R_ConcN : Con := runFn (tb [(91, R_GrowN)]) a63
theorem s_ConcN : SoundAt Tryz.prog 63 R_ConcN := run_sound (tb_sound (l := [(91, R_GrowN)]) (by simpa using s_GrowN)) mixed Tryz.func63 k63 c63
theorem n_ConcN : noNxtC a63.body = true := by kernel_rfl
theorem w_ConcN {s : St} {j : Nat} {a b : AV} {la lb : List Nd} {own : Bool} (hj : s.get j = some (.row [a, b] own)) (hra : read ndC s a = some la) (hrb : read ndC s b = some lb) (hla : la.length ≤ lim) (hlb : lb.length ≤ lim) : ∀ env : Env, elen env = a63.ntmps → (∀ i x_, [.sl j 0 2 (some 2) 1][i]? = some x_ → E env i = x_) → awp (tb [(91, R_GrowN)]) a63.body (fun x e t => (∀ i, x ≠ .exit i) ∧ ∃ r, aresults e t a63.results = some r ∧ read ndC t r = some (la ++ lb) ∧ Keep s t) env s := by
  intro env hlen ha
  have h0 : E env 0 = _ := ha 0 _ rfl
  have hlen : elen env = _ := hlen
  simp only [a63] at hlen
  unfold a63
  try dsimp only [oO, oG]
  have hL2 : lenV (.sl j 0 2 (some 2) 1) = some (.int .i64 2) := rfl
  obtain ⟨j1, j2, jlt⟩ := row2_lod hj
  obtain ⟨x1, x2⟩ := two_facts hj
  have hLa := lenV_read hra
  have hLb := lenV_read hrb
  have wa : IntKind.i64.wrap (((0 : Nat) : Int) + (la.length : Int)) = (la.length : Int) := by
    have := wrap_addn (n := 0) (m := la.length) (by unfold lim at hla; omega)
    rwa [Nat.zero_add] at this
  have wb := wrap_addn (n := la.length) (m := lb.length) (by unfold lim at hla hlb; omega)
  have z1 : ((la.length : Int) < 0) = False := eq_false (by omega)
  have z2 : (((la.length + lb.length : Nat) : Int) < 0) = False := eq_false (by omega)
  simp (config := {contextual := true, maxDischargeDepth := 12}) only [tb_at, h0, hlen, hL2, ↓bD, bU, forall_const, bS, implies_true, isNx, eq_self, ↓wp_cond, ↓wp_loop, ↓reduceIte, reduceCtorEq, Nat.reduceEqDiff, Nat.reduceLT, Nat.reduceAdd, Nat.reduceMul, bT, ↓sg_bsl, ↓st_callf, bX, ap_mkfn, ae_callvV, callvV_fn, List.cons_append, List.nil_append, boxV_i, boxV_nd, sto_dot, ap_conv, convV_int, bslV_0N, fstep_d0, fstep_d1, bsl_dot, ae_appz, ap_cap, capV_nils, slcV_nils0N, slcV_sl0N, wrap_0]
  obtain ⟨I, hI⟩ : ∃ I : Nat → Env → St → Prop, ∀ n e t, I n e t = (t = s ∧ ∃ i : Nat, n + i = 2 ∧ elen e = 36 ∧ E e 0 = .sl j 0 2 (some 2) 1 ∧ E e 9 = .sl j 0 2 (some 2) 1 ∧ E e 10 = .int .i64 2 ∧ E e 11 = .int .i64 (i : Int) ∧ E e 3 = .int .i64 (((if i = 0 then 0 else if i = 1 then la.length else la.length + lb.length) : Nat) : Int) ∧ i ≤ 2) := ⟨fun n e t => (t = s ∧ ∃ i : Nat, n + i = 2 ∧ elen e = 36 ∧ E e 0 = .sl j 0 2 (some 2) 1 ∧ E e 9 = .sl j 0 2 (some 2) 1 ∧ E e 10 = .int .i64 2 ∧ E e 11 = .int .i64 (i : Int) ∧ E e 3 = .int .i64 (((if i = 0 then 0 else if i = 1 then la.length else la.length + lb.length) : Nat) : Int) ∧ i ≤ 2), fun _ _ _ => rfl⟩
  refine lwp_inv I (n := 2) ?_ ?_
  · rw [hI]
    exact ⟨rfl, 0, by omega, (by simp only [bE, Nat.reduceEqDiff, bN, Nat.reduceLT, hlen]; try rfl), (by simp only [bE, Nat.reduceEqDiff, bN, Nat.reduceLT, hlen, h0]; try rfl), (by simp only [bE, Nat.reduceEqDiff, bN, Nat.reduceLT, hlen, h0]; try rfl), (by simp only [bE, Nat.reduceEqDiff, bN, Nat.reduceLT, hlen]; try rfl), (by simp only [bE, Nat.reduceEqDiff, bN, Nat.reduceLT, hlen]; try rfl), (by simp only [bE, Nat.reduceEqDiff, bN, Nat.reduceLT, hlen]; try rfl), by omega⟩
  intro n e t hi
  rw [hI] at hi
  obtain ⟨hK, i, hni, he, e0, e9, e10, e11, e3, hi2⟩ := hi
  have hK := hK.symm
  subst hK
  have w01 : IntKind.i64.wrap (0 + 1) = 1 := by decide
  have w11 : IntKind.i64.wrap (1 + 1) = 2 := by decide
  by_cases hi0 : i = 0
  · subst hi0
    have zz : (((0 : Nat) : Int) < 2) = True := eq_true (by decide)
    simp only [if_true] at e3
    have e11 : E e 11 = .int .i64 0 := e11
    simp (config := {contextual := true, maxDischargeDepth := 12}) only [tb_at, he, e0, e9, e10, e11, e3, hL2, zz, j1, jlt, x1, hLa, wa, z1, w01, Int.reduceLT, ↓bD, bU, forall_const, bS, implies_true, isNx, eq_self, ↓wp_cond, ↓wp_loop, ↓reduceIte, reduceCtorEq, Nat.reduceEqDiff, Nat.reduceLT, Nat.reduceAdd, Nat.reduceMul, bT, ↓sg_bsl, ↓st_callf, bX, ap_mkfn, ae_callvV, callvV_fn, List.cons_append, List.nil_append, boxV_i, boxV_nd, sto_dot, ap_conv, convV_int, bslV_0N, fstep_d0, fstep_d1, bsl_dot, ae_appz, ap_cap, capV_nils, slcV_nils0N, slcV_sl0N, wrap_0]
    refine ⟨1, by omega, ?_⟩
    rw [hI]
    exact ⟨rfl, 1, by omega, (by simp only [bE, Nat.reduceEqDiff, bN, Nat.reduceLT, he, e0, e9, e10, e11, e3]; try rfl), (by simp only [bE, Nat.reduceEqDiff, bN, Nat.reduceLT, he, e0, e9, e10, e11, e3]; try rfl), (by simp only [bE, Nat.reduceEqDiff, bN, Nat.reduceLT, he, e0, e9, e10, e11, e3]; try rfl), (by simp only [bE, Nat.reduceEqDiff, bN, Nat.reduceLT, he, e0, e9, e10, e11, e3]; try rfl), (by simp only [bE, Nat.reduceEqDiff, bN, Nat.reduceLT, he, e0, e9, e10, e11, e3]; try rfl), (by simp only [bE, Nat.reduceEqDiff, bN, Nat.reduceLT, he, e0, e9, e10, e11, e3]; try rfl), by omega⟩
  by_cases hi1 : i = 1
  · subst hi1
    simp only [if_true, Nat.one_ne_zero, if_false] at e3
    have e11 : E e 11 = .int .i64 1 := e11
    simp (config := {contextual := true, maxDischargeDepth := 12}) only [tb_at, he, e0, e9, e10, e11, e3, hL2, j2, jlt, x2, hLb, wb, z2, w11, Int.reduceLT, ↓bD, bU, forall_const, bS, implies_true, isNx, eq_self, ↓wp_cond, ↓wp_loop, ↓reduceIte, reduceCtorEq, Nat.reduceEqDiff, Nat.reduceLT, Nat.reduceAdd, Nat.reduceMul, bT, ↓sg_bsl, ↓st_callf, bX, ap_mkfn, ae_callvV, callvV_fn, List.cons_append, List.nil_append, boxV_i, boxV_nd, sto_dot, ap_conv, convV_int, bslV_0N, fstep_d0, fstep_d1, bsl_dot, ae_appz, ap_cap, capV_nils, slcV_nils0N, slcV_sl0N, wrap_0]
    refine ⟨0, by omega, ?_⟩
    rw [hI]
    exact ⟨rfl, 2, by omega, (by simp only [bE, Nat.reduceEqDiff, bN, Nat.reduceLT, he, e0, e9, e10, e11, e3]; try rfl), (by simp only [bE, Nat.reduceEqDiff, bN, Nat.reduceLT, he, e0, e9, e10, e11, e3]; try rfl), (by simp only [bE, Nat.reduceEqDiff, bN, Nat.reduceLT, he, e0, e9, e10, e11, e3]; try rfl), (by simp only [bE, Nat.reduceEqDiff, bN, Nat.reduceLT, he, e0, e9, e10, e11, e3]; try rfl), (by simp only [bE, Nat.reduceEqDiff, bN, Nat.reduceLT, he, e0, e9, e10, e11, e3]; try rfl), (by simp only [bE, Nat.reduceEqDiff, bN, Nat.reduceLT, he, e0, e9, e10, e11, e3]; try rfl), by omega⟩
  obtain rfl : i = 2 := by omega
  simp only [Nat.reduceEqDiff, if_false] at e3
  have e11 : E e 11 = .int .i64 2 := e11
  obtain ⟨w0, t1, hgr, hP0, hK1⟩ := q_GrowN (s := s) (n := la.length + lb.length) (by unfold lim at hla hlb; omega)
  simp (config := {contextual := true, maxDischargeDepth := 12}) only [tb_at, he, e0, e9, e10, e11, e3, hL2, hgr, Int.reduceLT, ↓bD, bU, forall_const, bS, implies_true, isNx, eq_self, ↓wp_cond, ↓wp_loop, ↓reduceIte, reduceCtorEq, Nat.reduceEqDiff, Nat.reduceLT, Nat.reduceAdd, Nat.reduceMul, bT, ↓sg_bsl, ↓st_callf, bX, ap_mkfn, ae_callvV, callvV_fn, List.cons_append, List.nil_append, boxV_i, boxV_nd, sto_dot, ap_conv, convV_int, bslV_0N, fstep_d0, fstep_d1, bsl_dot, ae_appz, ap_cap, capV_nils, slcV_nils0N, slcV_sl0N, wrap_0]
  obtain ⟨I2, hI2⟩ : ∃ I : Nat → Env → St → Prop, ∀ n e t, I n e t = (Keep s t ∧ ∃ i : Nat, n + i = 2 ∧ elen e = 36 ∧ E e 25 = .sl j 0 2 (some 2) 1 ∧ E e 26 = .int .i64 2 ∧ E e 27 = .int .i64 (i : Int) ∧ i ≤ 2 ∧ PreOwnN s t (E e 6) (if i = 0 then [] else if i = 1 then la else la ++ lb)) := ⟨fun n e t => (Keep s t ∧ ∃ i : Nat, n + i = 2 ∧ elen e = 36 ∧ E e 25 = .sl j 0 2 (some 2) 1 ∧ E e 26 = .int .i64 2 ∧ E e 27 = .int .i64 (i : Int) ∧ i ≤ 2 ∧ PreOwnN s t (E e 6) (if i = 0 then [] else if i = 1 then la else la ++ lb)), fun _ _ _ => rfl⟩
  refine lwp_inv I2 (n := 2) ?_ ?_
  · rw [hI2]
    exact ⟨hK1, 0, by omega, (by simp only [bE, Nat.reduceEqDiff, bN, Nat.reduceLT, he]; try rfl), (by simp only [bE, Nat.reduceEqDiff, bN, Nat.reduceLT, he, e0]; try rfl), (by simp only [bE, Nat.reduceEqDiff, bN, Nat.reduceLT, he]; try rfl), (by simp only [bE, Nat.reduceEqDiff, bN, Nat.reduceLT, he]; try rfl), by omega, by simp only [bE, Nat.reduceEqDiff, bN, Nat.reduceLT, he]; exact hP0⟩
  clear e11 e3 he e0 hgr hP0 hK1
  intro n e t2 hi
  rw [hI2] at hi
  obtain ⟨hK, i, hni, he, e25, e26, e27, hi2, hP⟩ := hi
  have hj2 := hK.blk hj
  obtain ⟨j1, j2, jlt⟩ := row2_lod hj2
  by_cases hi0 : i = 0
  · subst hi0
    simp only [if_true] at hP
    have e27 : E e 27 = .int .i64 0 := e27
    obtain ⟨v', t', hap, hK', hP'⟩ := hP.app hK (hK.read hra) (by simp; unfold lim at hla; omega)
    simp (config := {contextual := true, maxDischargeDepth := 12}) only [tb_at, he, e25, e26, e27, j1, jlt, x1, hap, w01, Int.reduceLT, ↓bD, bU, forall_const, bS, implies_true, isNx, eq_self, ↓wp_cond, ↓wp_loop, ↓reduceIte, reduceCtorEq, Nat.reduceEqDiff, Nat.reduceLT, Nat.reduceAdd, Nat.reduceMul, bT, ↓sg_bsl, ↓st_callf, bX, ap_mkfn, ae_callvV, callvV_fn, List.cons_append, List.nil_append, boxV_i, boxV_nd, sto_dot, ap_conv, convV_int, bslV_0N, fstep_d0, fstep_d1, bsl_dot, ae_appz, ap_cap, capV_nils, slcV_nils0N, slcV_sl0N, wrap_0]
    refine ⟨1, by omega, ?_⟩
    rw [hI2]
    exact ⟨hK', 1, by omega, (by simp only [bE, Nat.reduceEqDiff, bN, Nat.reduceLT, he]; try rfl), (by simp only [bE, Nat.reduceEqDiff, bN, Nat.reduceLT, he, e25]; try rfl), (by simp only [bE, Nat.reduceEqDiff, bN, Nat.reduceLT, he, e26]; try rfl), (by simp only [bE, Nat.reduceEqDiff, bN, Nat.reduceLT, he]; try rfl), by omega, by simp only [bE, Nat.reduceEqDiff, bN, Nat.reduceLT, he]; exact hP'⟩
  by_cases hi1 : i = 1
  · subst hi1
    simp only [if_true, Nat.one_ne_zero, if_false] at hP
    have e27 : E e 27 = .int .i64 1 := e27
    obtain ⟨v', t', hap, hK', hP'⟩ := hP.app hK (hK.read hrb) (by unfold lim at hla hlb; omega)
    simp (config := {contextual := true, maxDischargeDepth := 12}) only [tb_at, he, e25, e26, e27, j2, jlt, x2, hap, w11, Int.reduceLT, ↓bD, bU, forall_const, bS, implies_true, isNx, eq_self, ↓wp_cond, ↓wp_loop, ↓reduceIte, reduceCtorEq, Nat.reduceEqDiff, Nat.reduceLT, Nat.reduceAdd, Nat.reduceMul, bT, ↓sg_bsl, ↓st_callf, bX, ap_mkfn, ae_callvV, callvV_fn, List.cons_append, List.nil_append, boxV_i, boxV_nd, sto_dot, ap_conv, convV_int, bslV_0N, fstep_d0, fstep_d1, bsl_dot, ae_appz, ap_cap, capV_nils, slcV_nils0N, slcV_sl0N, wrap_0]
    refine ⟨0, by omega, ?_⟩
    rw [hI2]
    exact ⟨hK', 2, by omega, (by simp only [bE, Nat.reduceEqDiff, bN, Nat.reduceLT, he]; try rfl), (by simp only [bE, Nat.reduceEqDiff, bN, Nat.reduceLT, he, e25]; try rfl), (by simp only [bE, Nat.reduceEqDiff, bN, Nat.reduceLT, he, e26]; try rfl), (by simp only [bE, Nat.reduceEqDiff, bN, Nat.reduceLT, he]; try rfl), by omega, by simp only [bE, Nat.reduceEqDiff, bN, Nat.reduceLT, he]; exact hP'⟩
  obtain rfl : i = 2 := by omega
  simp only [Nat.reduceEqDiff, if_false] at hP
  have e27 : E e 27 = .int .i64 2 := e27
  simp (config := {contextual := true, maxDischargeDepth := 12}) only [tb_at, he, e25, e26, e27, Int.reduceLT, ↓bD, bU, forall_const, bS, implies_true, isNx, eq_self, ↓wp_cond, ↓wp_loop, ↓reduceIte, reduceCtorEq, Nat.reduceEqDiff, Nat.reduceLT, Nat.reduceAdd, Nat.reduceMul, bT, ↓sg_bsl, ↓st_callf, bX, ap_mkfn, ae_callvV, callvV_fn, List.cons_append, List.nil_append, boxV_i, boxV_nd, sto_dot, ap_conv, convV_int, bslV_0N, fstep_d0, fstep_d1, bsl_dot, ae_appz, ap_cap, capV_nils, slcV_nils0N, slcV_sl0N, wrap_0]
  first | exact ⟨_, rfl, hP.read, hK⟩ | exact ⟨hP.read, hK⟩
theorem q_ConcN {s : St} {j : Nat} {a b : AV} {la lb : List Nd} {own : Bool} (hj : s.get j = some (.row [a, b] own)) (hra : read ndC s a = some la) (hrb : read ndC s b = some lb) (hla : la.length ≤ lim) (hlb : lb.length ≤ lim) : ∃ w t, acall R_ConcN false [.sl j 0 2 (some 2) 1] s = some (w, t) ∧ read ndC t w = some (la ++ lb) ∧ Keep s t :=
  run_any n_ConcN (by simp [a63]) (fun r t t' hg hn hq => read_mono hq fun id b hrb => by rw [hg]; exact hrb) (fun r t hgr hk hq => by
    obtain ⟨rfl, h⟩ := read_groundN hq hgr
    rw [h]; rfl) (w_ConcN (s := lowd s) hj (read_low' hra) (read_low' hrb) hla hlb)
noncomputable def R_DeadF : Con := runFn (tb [(59, conN fDead)]) a76
theorem s_DeadF : SoundAt Tryz.prog 76 R_DeadF := run_sound (tb_sound (l := [(59, conN fDead)]) (by simpa using s_Dead)) mixed Tryz.func76 k76 c76
theorem n_DeadF : noNxtC a76.body = true := by kernel_rfl
theorem w_DeadF {s : St} (n : Nd) : ∀ env : Env, elen env = a76.ntmps → (∀ i x_, [.agg (Nd.av n)][i]? = some x_ → E env i = x_) → awp (tb [(59, conN fDead)]) a76.body (fun x e t => (∀ i, x ≠ .exit i) ∧ aresults e t a76.results = some (.bool (!decide (n.x = 0))) ∧ Keep s t) env s := by
  intro env hlen ha
  have h0 : E env 0 = _ := ha 0 _ rfl
  have hlen : elen env = _ := hlen
  simp only [a76] at hlen
  unfold a76
  try dsimp only [oO, oG]
  have hK : Keep s (s.push (.row (Nd.av n) true)) := (Keep.refl s).push _
  obtain ⟨b1, b2, b3, b4, b5, b6⟩ := box_nd s n (.refl _)
  simp (config := {contextual := true, maxDischargeDepth := 12}) only [tb_at, h0, hlen, b1, b2, b3, b4, b5, b6, q_Dead, notV_bool, ↓bD, bU, forall_const, bS, implies_true, isNx, eq_self, ↓wp_cond, ↓wp_loop, ↓reduceIte, reduceCtorEq, Nat.reduceEqDiff, Nat.reduceLT, Nat.reduceAdd, Nat.reduceMul, bT, ↓sg_bsl, ↓st_callf, bX, List.cons_append, List.nil_append, ↓st_appf, bY]
  all_goals first | exact hK | skip
theorem q_DeadF (cl : Bool) {s : St} (n : Nd) : acall R_DeadF cl [.agg (Nd.av n)] s = some (.bool (!decide (n.x = 0)), s) := run_same n_DeadF (by simp [a76]) rfl (w_DeadF (s := lowd s) n)
noncomputable def R_IdxN : Con := runFn (tb [(76, R_DeadF)]) a85
theorem s_IdxN : SoundAt Tryz.prog 85 R_IdxN := run_sound (tb_sound (l := [(76, R_DeadF)]) (by simpa using s_DeadF)) mixed Tryz.func85 k85 c85
theorem n_IdxN : noNxtC a85.body = true := by kernel_rfl
theorem w_IdxN {s : St} {v : AV} {l : List Nd} (hr : read ndC s v = some l) (hl : l.length ≤ lim) {T : List (Nat × Con)} {g : Nat} {caps : List AV} (p : Nd → Bool) (hf : ∀ (t : St) (d : Nd), Keep s t → acall (tb T g) false (.agg (Nd.av d) :: caps) t = some (.bool (p d), t)) : ∀ env : Env, elen env = a85.ntmps → (∀ i x_, [v, .fn g caps][i]? = some x_ → E env i = x_) → awp (tb T) a85.body (fun x e t => (∀ i, x ≠ .exit i) ∧ aresults e t a85.results = some (.int .i64 (idxN l p)) ∧ Keep s t) env s := by
  intro env hlen ha
  have h0 : E env 0 = _ := ha 0 _ rfl
  have h1 : E env 1 = _ := ha 1 _ rfl
  have hlen : elen env = _ := hlen
  simp only [a85] at hlen
  unfold a85
  try dsimp only [oO, oG]
  have hL := lenV_read hr
  simp (config := {contextual := true, maxDischargeDepth := 12}) only [tb_at, h0, h1, hlen, hL, ↓bD, bU, forall_const, bS, implies_true, isNx, eq_self, ↓wp_cond, ↓wp_loop, ↓reduceIte, reduceCtorEq, Nat.reduceEqDiff, Nat.reduceLT, Nat.reduceAdd, Nat.reduceMul, bT, ↓sg_bsl, ↓st_callf, bX, ap_mkfn, ae_callvV, callvV_fn, List.cons_append, List.nil_append, boxV_i, boxV_nd, sto_dot]
  obtain ⟨I, hI⟩ : ∃ I : Nat → Env → St → Prop, ∀ n e t, I n e t = (t = s ∧ ∃ i : Nat, n + i = l.length ∧ elen e = 19 ∧ E e 0 = v ∧ E e 1 = .fn g caps ∧ E e 6 = v ∧ E e 7 = .int .i64 (l.length : Int) ∧ E e 8 = .int .i64 (i : Int) ∧ ∀ k y, k < i → l[k]? = some y → p y = false) := ⟨fun n e t => (t = s ∧ ∃ i : Nat, n + i = l.length ∧ elen e = 19 ∧ E e 0 = v ∧ E e 1 = .fn g caps ∧ E e 6 = v ∧ E e 7 = .int .i64 (l.length : Int) ∧ E e 8 = .int .i64 (i : Int) ∧ ∀ k y, k < i → l[k]? = some y → p y = false), fun _ _ _ => rfl⟩
  refine lwp_inv I (n := l.length) ?_ ?_
  · rw [hI]
    exact ⟨rfl, 0, by omega, (by simp only [bE, Nat.reduceEqDiff, bN, Nat.reduceLT, hlen]; try rfl), (by simp only [bE, Nat.reduceEqDiff, bN, Nat.reduceLT, hlen, h0]; try rfl), (by simp only [bE, Nat.reduceEqDiff, bN, Nat.reduceLT, hlen, h1]; try rfl), (by simp only [bE, Nat.reduceEqDiff, bN, Nat.reduceLT, hlen, h0]; try rfl), (by simp only [bE, Nat.reduceEqDiff, bN, Nat.reduceLT, hlen, hL]; try rfl), (by simp only [bE, Nat.reduceEqDiff, bN, Nat.reduceLT, hlen]; try rfl), fun k y hk => by omega⟩
  intro n e t hi
  rw [hI] at hi
  obtain ⟨hK, i, hni, he, e0, e1, e6, e7, e8, hpre⟩ := hi
  subst hK
  by_cases hlt : i < l.length
  · obtain ⟨x, hx⟩ := getsome hlt
    have hw2 := wrap_add1 (n := i) (by unfold lim at hl; omega)
    obtain ⟨a1, a2, a3, a4x, a4y, a4⟩ := nd_lods hr (.refl _) hx
    have i1 := nd_idx hr hx .i64
    have hq := hf _ x (.refl _)
    cases hp : p x
    · rw [hp] at hq
      simp (config := {contextual := true, maxDischargeDepth := 12}) only [tb_at, he, e0, e1, e6, e7, e8, hL, hlt, hw2, a1, i1, hq, ↓bD, bU, forall_const, bS, implies_true, isNx, eq_self, ↓wp_cond, ↓wp_loop, ↓reduceIte, reduceCtorEq, Nat.reduceEqDiff, Nat.reduceLT, Nat.reduceAdd, Nat.reduceMul, bT, ↓sg_bsl, ↓st_callf, bX, ap_mkfn, ae_callvV, callvV_fn, List.cons_append, List.nil_append, boxV_i, boxV_nd, sto_dot]
      refine ⟨n - 1, by omega, ?_⟩
      rw [hI]
      exact ⟨rfl, i + 1, by omega, (by simp only [bE, Nat.reduceEqDiff, bN, Nat.reduceLT, he, e0, e1, e6, e7, e8]; try rfl), (by simp only [bE, Nat.reduceEqDiff, bN, Nat.reduceLT, he, e0, e1, e6, e7, e8]; try rfl), (by simp only [bE, Nat.reduceEqDiff, bN, Nat.reduceLT, he, e0, e1, e6, e7, e8]; try rfl), (by simp only [bE, Nat.reduceEqDiff, bN, Nat.reduceLT, he, e0, e1, e6, e7, e8]; try rfl), (by simp only [bE, Nat.reduceEqDiff, bN, Nat.reduceLT, he, e0, e1, e6, e7, e8]; try rfl), (by simp only [bE, Nat.reduceEqDiff, bN, Nat.reduceLT, he, e0, e1, e6, e7, e8]; try rfl), pre_next (P := fun k y => p y = false) hx hpre hp⟩
    · rw [hp] at hq
      have hS := idxN_hit hx hp hpre
      simp (config := {contextual := true, maxDischargeDepth := 12}) only [tb_at, he, e0, e1, e6, e7, e8, hL, hlt, hw2, a1, i1, hq, hS, ↓bD, bU, forall_const, bS, implies_true, isNx, eq_self, ↓wp_cond, ↓wp_loop, ↓reduceIte, reduceCtorEq, Nat.reduceEqDiff, Nat.reduceLT, Nat.reduceAdd, Nat.reduceMul, bT, ↓sg_bsl, ↓st_callf, bX, ap_mkfn, ae_callvV, callvV_fn, List.cons_append, List.nil_append, boxV_i, boxV_nd, sto_dot]
      all_goals first | exact .refl _ | skip
  · obtain rfl : i = l.length := by omega
    have hS := idxN_miss hpre
    simp (config := {contextual := true, maxDischargeDepth := 12}) only [tb_at, he, e0, e1, e6, e7, e8, hL, hlt, hS, ↓bD, bU, forall_const, bS, implies_true, isNx, eq_self, ↓wp_cond, ↓wp_loop, ↓reduceIte, reduceCtorEq, Nat.reduceEqDiff, Nat.reduceLT, Nat.reduceAdd, Nat.reduceMul, bT, ↓sg_bsl, ↓st_callf, bX, ap_mkfn, ae_callvV, callvV_fn, List.cons_append, List.nil_append, boxV_i, boxV_nd, sto_dot]
    all_goals first | exact .refl _ | skip
theorem q_IdxN (cl : Bool) {s : St} {v : AV} {l : List Nd} (hr : read ndC s v = some l) (hl : l.length ≤ lim) {g : Nat} {caps : List AV} (p : Nd → Bool) (hf : ∀ (t : St) (d : Nd), Keep s t → acall (tb [(76, R_DeadF)] g) false (.agg (Nd.av d) :: caps) t = some (.bool (p d), t)) : acall R_IdxN cl [v, .fn g caps] s = some (.int .i64 (idxN l p), s) := run_same n_IdxN (by simp [a85]) rfl (w_IdxN (s := lowd s) (read_low' hr) hl p (fun t d h => hf t d ((keep_lowd s).trans h)))
theorem zeros_cellsN (m : Nat) : zeros [.int .i64 0, .int .i64 0, .int .i64 0, .int .i64 0, .int .i64 0, .int .i32 0] m = ndC.cells (List.replicate m ⟨⟨0, 0⟩, ⟨0, 0⟩, 0, 0⟩) := by
  simp [zeros, Cod.cells, ndC, Nd.av]
theorem cells_setDN : ∀ (l : List Nd) (k : Nat) (d : Nd), k < l.length → setAt (ndC.cells l) (k * 6) (Nd.av d) = ndC.cells (l.set k d)
  | [], k, d, h => by simp at h
  | x :: l, 0, d, h => by
    have e : ndC.enc x = Nd.av x := rfl
    simp [setAt, cells_cons, e, Nd.av, ndC]
  | x :: l, k + 1, d, h => by
    have ih := cells_setDN l k d (by simpa using h)
    have e : ndC.enc x = Nd.av x := rfl
    have h2 : (Nd.av x).length = 6 := rfl
    rw [List.set_cons_succ, cells_cons, cells_cons, ← ih, e]
    simp only [setAt]
    have e1 : (k + 1) * 6 = (Nd.av x).length + k * 6 := by rw [h2]; omega
    have e2 : (k + 1) * 6 + (Nd.av d).length = (Nd.av x).length + (k * 6 + (Nd.av d).length) := by rw [h2]; omega
    rw [e2, e1]
    have e3 : List.take ((Nd.av x).length + k * 6) (Nd.av x) = Nd.av x := List.take_of_length_le (by omega)
    have e4 : List.drop ((Nd.av x).length + (k * 6 + (Nd.av d).length)) (Nd.av x) = [] := List.drop_eq_nil_of_le (by omega)
    simp [List.take_append, List.drop_append, e3, e4]
theorem slc_ownN (j n k : Nat) (cap : Option Nat) (h : k ≤ n) (hc : CapOK (.sl j 0 n cap 6)) : slcV 6 (.sl j 0 n cap 6) (some (.int .i64 (k : Int))) none = some (.sl j (k * 6) (n - k) (cap.map (· - k)) 6) ∧ slcV 6 (.sl j 0 n cap 6) none (some (.int .i64 (k : Int))) = some (.sl j 0 k cap 6) := by
  cases cap with
  | none => constructor <;> simp [slcV, optNat, asNatIn, h]
  | some c =>
    have := hc _ _ _ _ _ rfl
    constructor
    · simp [slcV, optNat, asNatIn, h]
    · have hkc : k ≤ c := by omega
      simp [slcV, optNat, asNatIn, hkc]
theorem clr_ownN {j n k : Nat} {cap : Option Nat} {l : List Nd} (h : t.get j = some (.row (ndC.cells l) true)) (hn : n ≤ l.length) (hk : k < n) :
    clrV t [.int .i64 0, .int .i64 0, .int .i64 0, .int .i64 0, .int .i64 0, .int .i32 0] (.sl j (k * 6) (n - k) cap 6) = some (.tup [], t.put j (.row (setAt (ndC.cells l) (k * 6) (ndC.cells (List.replicate (n - k) ⟨⟨0, 0⟩, ⟨0, 0⟩, 0, 0⟩))) true)) := by
  have h2 : ndC.sz = 6 := rfl
  simp only [clrV]
  rw [if_neg (by omega), if_pos (by rfl), h]
  simp only
  rw [if_pos (by rw [cells_len, h2]; omega), zeros_cellsN]
theorem iad_ownN {j n k : Nat} {cap : Option Nat} (off : Nat) (h : k < n) : iadV 6 (.sl j off n cap 6) (.int .i64 (k : Int)) = some (.ptr j (off + k * 6)) := iadV_nat h
theorem lod_ownN {j k : Nat} {l : List Nd} (h : t.get j = some (.row (ndC.cells l) true)) {d : Nd} (hd : l[k]? = some d) : lod t 6 (.ptr j (k * 6)) = some (.agg (Nd.av d)) := by
  have hk := getlt hd
  have h2 : ndC.sz = 6 := rfl
  simp only [lod, h]
  rw [if_pos (by rw [cells_len, h2]; omega)]
  have := cells_at ndC l k d hd 0 6 (by decide)
  rw [h2, Nat.add_zero, List.drop_zero] at this
  rw [this]
  rfl
theorem sto_ownN {j k : Nat} {l : List Nd} (h : t.get j = some (.row (ndC.cells l) true)) (hk : k < l.length) (d : Nd) : sto t 6 (.ptr j (k * 6)) (.agg (Nd.av d)) = some (.und, t.put j (.row (ndC.cells (l.set k d)) true)) := by
  have h2 : ndC.sz = 6 := rfl
  have hcond : (AV.agg (Nd.av d)).cells.length = 6 ∧ (AV.agg (Nd.av d)).cells.all AV.one = true ∧ k * 6 + 6 ≤ (ndC.cells l).length := ⟨rfl, rfl, by rw [cells_len, h2]; omega⟩
  simp only [sto, h]
  rw [if_pos hcond]
  show some (AV.und, t.put j (.row (setAt (ndC.cells l) (k * 6) (Nd.av d)) true)) = _
  rw [cells_setDN l k d hk]
theorem setAt_cells'N (l r : List Nd) (k : Nat) (h : k + r.length ≤ l.length) : setAt (ndC.cells l) (k * 6) (ndC.cells r) = ndC.cells (l.take k ++ (r ++ l.drop (k + r.length))) := by
  have hk : (ndC.cells (l.take k)).length = k * 6 := by
    rw [cells_len, List.length_take]
    have : ndC.sz = 6 := rfl
    rw [this, Nat.min_eq_left (by omega)]
  have hr : (ndC.cells r).length = r.length * 6 := by rw [cells_len]; rfl
  have hl : ndC.cells l = ndC.cells (l.take k) ++ ndC.cells (l.drop k) := by rw [← cells_append, List.take_append_drop]
  have hd : l.drop k = (l.drop k).take r.length ++ l.drop (k + r.length) := by
    rw [← List.drop_drop, List.take_append_drop]
  have hd2 : (ndC.cells ((l.drop k).take r.length)).length = r.length * 6 := by
    rw [cells_len, List.length_take, List.length_drop]
    have : ndC.sz = 6 := rfl
    rw [this, Nat.min_eq_left (by omega)]
  unfold setAt
  rw [cells_append, cells_append, hr]
  have e1 : (ndC.cells l).take (k * 6) = ndC.cells (l.take k) := by rw [hl, ← hk, List.take_left]
  have e2 : (ndC.cells l).drop (k * 6 + r.length * 6) = ndC.cells (l.drop (k + r.length)) := by
    rw [hl, ← hk, ← List.drop_drop, List.drop_left, hd, cells_append, ← hd2, List.drop_left]
  rw [e1, e2, List.append_assoc]
theorem idxN_cases (l : List Nd) (p : Nd → Bool) : (idxN l p = -1 ∧ ∀ x ∈ l, p x = false) ∨ ∃ (i : Nat) (x : Nd), idxN l p = (i : Int) ∧ l[i]? = some x ∧ p x = true ∧ ∀ k y, k < i → l[k]? = some y → p y = false := by
  unfold idxN
  cases h : l.findIdx? p with
  | none =>
    rw [List.findIdx?_eq_none_iff] at h
    exact .inl ⟨rfl, fun x hx => by simpa using h x hx⟩
  | some i =>
    rw [List.findIdx?_eq_some_iff_getElem] at h
    obtain ⟨h1, h2, h3⟩ := h
    refine .inr ⟨i, l[i], rfl, List.getElem?_eq_getElem h1, h2, fun k y hk hy => ?_⟩
    have := h3 k hk
    rw [List.getElem?_eq_getElem (by omega)] at hy
    injection hy with hy
    rw [hy] at this
    simpa using this
theorem filter_takeN {l : List Nd} {p : Nd → Bool} {i : Nat} (h : ∀ k y, k < i → l[k]? = some y → p y = false) (hi : i ≤ l.length) : (l.take i).filter (fun d => !p d) = l.take i := by
  rw [List.filter_eq_self]
  intro x hx
  obtain ⟨k, hk⟩ := List.getElem?_of_mem hx
  have hkl := getlt hk
  rw [List.length_take] at hkl
  rw [List.getElem?_take, if_pos (by omega)] at hk
  rw [h k x (by omega) hk]
  rfl
noncomputable def R_DelN : Con := runFn (tb [(85, R_IdxN), (76, R_DeadF)]) a75
theorem s_DelN : SoundAt Tryz.prog 75 R_DelN := run_sound (tb_sound (l := [(85, R_IdxN), (76, R_DeadF)]) (by simpa using ⟨s_IdxN, s_DeadF⟩)) mixed Tryz.func75 k75 c75
theorem n_DelN : noNxtC a75.body = true := by kernel_rfl
theorem w_DelN {s : St} {T : List (Nat × Con)} (hT : ∀ xs : List AV, tb T 85 xs = R_IdxN xs) {s0 : St} {v : AV} {l : List Nd} (hN : NewR ndC s0 s v l) (hc : CapOK v) (hl : l.length ≤ lim) {g : Nat} {caps : List AV} (p : Nd → Bool) (hf0 : ∀ (t : St) (d : Nd), Keep s t → acall (tb [(76, R_DeadF)] g) false (.agg (Nd.av d) :: caps) t = some (.bool (p d), t)) (hf : ∀ (t : St) (d : Nd), Chg (vids v) s t → acall (tb T g) false (.agg (Nd.av d) :: caps) t = some (.bool (p d), t)) : ∀ env : Env, elen env = a75.ntmps → (∀ i x_, [v, .fn g caps][i]? = some x_ → E env i = x_) → awp (tb T) a75.body (fun x e t => (∀ i, x ≠ .exit i) ∧ ∃ r, aresults e t a75.results = some r ∧ NewR ndC s0 t r (l.filter fun d => !p d) ∧ Chg (vids v) s t ∧ (v = .nils → r = .nils ∧ Keep s t) ∧ (v ≠ .nils → r.ground = false)) env s := by
  intro env hlen ha
  have h0 : E env 0 = _ := ha 0 _ rfl
  have h1 : E env 1 = _ := ha 1 _ rfl
  have hlen : elen env = _ := hlen
  simp only [a75] at hlen
  unfold a75
  try dsimp only [oO, oG]
  have q0 : ∀ cl, acall (tb T 85) cl [v, .fn g caps] s = some (.int .i64 (idxN l p), s) := fun cl => by
    have e : tb T 85 = R_IdxN := funext hT
    rw [e]
    exact q_IdxN cl hN.read hl p hf0
  have q0 := q0 false
  rcases hN with ⟨rfl, rfl⟩ | ⟨j, cap, rest, rfl, hj0, hg⟩
  · have hi : idxN [] p = -1 := rfl
    rw [hi] at q0
    simp (config := {contextual := true, maxDischargeDepth := 12}) only [tb_at, h0, h1, hlen, q0, ↓bD, bU, forall_const, bS, implies_true, isNx, eq_self, ↓wp_cond, ↓wp_loop, ↓reduceIte, reduceCtorEq, Nat.reduceEqDiff, Nat.reduceLT, Nat.reduceAdd, Nat.reduceMul, bT, ↓sg_bsl, ↓st_callf, bX, ap_mkfn, ae_callvV, callvV_fn, List.cons_append, List.nil_append, boxV_i, boxV_nd, sto_dot, ap_conv, convV_int, bslV_0N, fstep_d0, fstep_d1, bsl_dot, ae_appz, ap_cap, capV_nils, slcV_nils0N, slcV_sl0N, wrap_0, ae_clr, boxV_f, fstep_f, lod_new2]
    exact ⟨_, rfl, .nil _ _ _, (Keep.refl s).chg _, rfl, fun h => absurd trivial h⟩
  have hN : NewR ndC s0 s (.sl j 0 l.length cap 6) l := .inr ⟨j, cap, rest, rfl, hj0, hg⟩
  have hjl := St.get_lt hg
  have h2 : ndC.sz = 6 := rfl
  rw [h2] at h0 hc q0
  rcases idxN_cases l p with ⟨hi, hall⟩ | ⟨i, x, hi, hx, hpx, hpre⟩
  · rw [hi] at q0
    have hd : l.filter (fun d => !p d) = l := by
      rw [List.filter_eq_self]
      intro x hx
      rw [hall x hx]; rfl
    simp (config := {contextual := true, maxDischargeDepth := 12}) only [tb_at, h0, h1, hlen, q0, ↓bD, bU, forall_const, bS, implies_true, isNx, eq_self, ↓wp_cond, ↓wp_loop, ↓reduceIte, reduceCtorEq, Nat.reduceEqDiff, Nat.reduceLT, Nat.reduceAdd, Nat.reduceMul, bT, ↓sg_bsl, ↓st_callf, bX, ap_mkfn, ae_callvV, callvV_fn, List.cons_append, List.nil_append, boxV_i, boxV_nd, sto_dot, ap_conv, convV_int, bslV_0N, fstep_d0, fstep_d1, bsl_dot, ae_appz, ap_cap, capV_nils, slcV_nils0N, slcV_sl0N, wrap_0, ae_clr, boxV_f, fstep_f, lod_new2]
    exact ⟨_, rfl, by rw [hd]; exact hN, (Keep.refl s).chg _, fun h => h.elim, rfl⟩
  · rw [hi] at q0
    have hil := getlt hx
    have hz : ((i : Int) = -1) = False := eq_false (by omega)
    have hwi := wrap_add1 (n := i) (by unfold lim at hl; omega)
    simp (config := {contextual := true, maxDischargeDepth := 12}) only [tb_at, h0, h1, hlen, q0, hz, hwi, ↓bD, bU, forall_const, bS, implies_true, isNx, eq_self, ↓wp_cond, ↓wp_loop, ↓reduceIte, reduceCtorEq, Nat.reduceEqDiff, Nat.reduceLT, Nat.reduceAdd, Nat.reduceMul, bT, ↓sg_bsl, ↓st_callf, bX, ap_mkfn, ae_callvV, callvV_fn, List.cons_append, List.nil_append, boxV_i, boxV_nd, sto_dot, ap_conv, convV_int, bslV_0N, fstep_d0, fstep_d1, bsl_dot, ae_appz, ap_cap, capV_nils, slcV_nils0N, slcV_sl0N, wrap_0, ae_clr, boxV_f, fstep_f, lod_new2]
    obtain ⟨I, hI⟩ : ∃ I : Nat → Env → St → Prop, ∀ n e t, I n e t = (Chg [j] s t ∧ ∃ (q k : Nat) (L : List Nd), n + q = l.length ∧ elen e = 42 ∧ E e 0 = .sl j 0 l.length cap 6 ∧ E e 1 = .fn g caps ∧ E e 5 = .int .i64 (k : Int) ∧ E e 6 = .int .i64 (q : Int) ∧ q ≤ l.length ∧ k < q ∧ L.length = (l ++ rest).length ∧ t.get j = some (.row (ndC.cells L) true) ∧ L.take k = ((l.take q).filter fun d => !p d) ∧ k = ((l.take q).filter fun d => !p d).length ∧ ∀ x, q ≤ x → L[x]? = (l ++ rest)[x]?) := ⟨fun n e t => (Chg [j] s t ∧ ∃ (q k : Nat) (L : List Nd), n + q = l.length ∧ elen e = 42 ∧ E e 0 = .sl j 0 l.length cap 6 ∧ E e 1 = .fn g caps ∧ E e 5 = .int .i64 (k : Int) ∧ E e 6 = .int .i64 (q : Int) ∧ q ≤ l.length ∧ k < q ∧ L.length = (l ++ rest).length ∧ t.get j = some (.row (ndC.cells L) true) ∧ L.take k = ((l.take q).filter fun d => !p d) ∧ k = ((l.take q).filter fun d => !p d).length ∧ ∀ x, q ≤ x → L[x]? = (l ++ rest)[x]?), fun _ _ _ => rfl⟩
    have hf1 : (l.take (i + 1)).filter (fun d => !p d) = l.take i := by
      rw [take_snoc hx, List.filter_append, filter_takeN hpre (by omega)]
      simp [hpx]
    refine lwp_inv I (n := l.length - (i + 1)) ?_ ?_
    · rw [hI]
      refine ⟨(Keep.refl s).chg _, i + 1, i, l ++ rest, by omega, (by simp only [bE, Nat.reduceEqDiff, bN, Nat.reduceLT, hlen]; try rfl), (by simp only [bE, Nat.reduceEqDiff, bN, Nat.reduceLT, hlen, h0]; try rfl), (by simp only [bE, Nat.reduceEqDiff, bN, Nat.reduceLT, hlen, h1]; try rfl), (by simp only [bE, Nat.reduceEqDiff, bN, Nat.reduceLT, hlen]; try rfl), (by simp only [bE, Nat.reduceEqDiff, bN, Nat.reduceLT, hlen]; try rfl), by omega, by omega, rfl, hg, ?_, ?_, fun _ _ => rfl⟩
      · rw [hf1, List.take_append_of_le_length (by omega)]
      · rw [hf1, List.length_take, Nat.min_eq_left (by omega)]
    clear hlen h0 h1 q0 hz hwi
    intro n e t hi
    rw [hI] at hi
    obtain ⟨hC, q, k, L, hni, he, e0, e1, e5, e6, hq, hkq, hLl, hgt, hLk, hkd, hrest⟩ := hi
    rw [List.length_append] at hLl
    have hjt := St.get_lt hgt
    have hltj : ltN j t := hjt
    by_cases hlt : q < l.length
    · obtain ⟨d, hd⟩ := getsome hlt
      have i1 := iad_ownN (j := j) (cap := cap) 0 hlt
      rw [Nat.zero_add] at i1
      have a1 := lod_ownN hgt (show L[q]? = some d by rw [hrest _ (Nat.le_refl _), List.getElem?_append_left hlt]; exact hd)
      have hw2 := wrap_add1 (n := q) (by unfold lim at hl; omega)
      have hCp : Chg [j] s (t.lowed.push (.row (Nd.av d) true)) := hC.trans ((Keep.refl t).lowed.push _ |>.chg []) (by simp)
      have hq := hf (t.lowed.push (.row (Nd.av d) true)) d hCp
      have hsn : l.take (q + 1) = l.take q ++ [d] := take_snoc hd
      cases hpd : p d
      · rw [hpd] at hq
        have i2 := iad_ownN (j := j) (cap := cap) 0 (show k < l.length by omega)
        rw [Nat.zero_add] at i2
        have st1 := sto_ownN hgt (show k < L.length by omega) d
        have hw3 := wrap_add1 (n := k) (by unfold lim at hl; omega)
        have hf2 : (l.take (q + 1)).filter (fun d => !p d) = (l.take q).filter (fun d => !p d) ++ [d] := by rw [hsn, List.filter_append]; simp [hpd]
        simp (config := {contextual := true, maxDischargeDepth := 12}) only [tb_at, he, e0, e1, e5, e6, lenV_sl, hlt, i1, i2, a1, hltj, hq, hw2, hw3, st1, notV_bool, sto_push_lt, lt_lowed, Bool.not_false, ↓bD, bU, forall_const, bS, implies_true, isNx, eq_self, ↓wp_cond, ↓wp_loop, ↓reduceIte, reduceCtorEq, Nat.reduceEqDiff, Nat.reduceLT, Nat.reduceAdd, Nat.reduceMul, bT, ↓sg_bsl, ↓st_callf, bX, ap_mkfn, ae_callvV, callvV_fn, List.cons_append, List.nil_append, boxV_i, boxV_nd, sto_dot, ap_conv, convV_int, bslV_0N, fstep_d0, fstep_d1, bsl_dot, ae_appz, ap_cap, capV_nils, slcV_nils0N, slcV_sl0N, wrap_0, ae_clr, boxV_f, fstep_f, lod_new2]
        refine ⟨n - 1, by omega, ?_⟩
        rw [hI]
        refine ⟨(hC.put _ (.inl (by simp)) hjt).trans ((Keep.refl _).lowed.push _ |>.chg []) (by simp), q + 1, k + 1, L.set k d, by omega, (by simp only [bE, Nat.reduceEqDiff, bN, Nat.reduceLT, he]; try rfl), (by simp only [bE, Nat.reduceEqDiff, bN, Nat.reduceLT, he, e0]; try rfl), (by simp only [bE, Nat.reduceEqDiff, bN, Nat.reduceLT, he, e1]; try rfl), (by simp only [bE, Nat.reduceEqDiff, bN, Nat.reduceLT, he, e5]; try rfl), (by simp only [bE, Nat.reduceEqDiff, bN, Nat.reduceLT, he]; try rfl), by omega, by omega, by rw [List.length_set, List.length_append]; exact hLl, get_push_some _ (St.get_put_same hgt), ?_, by rw [hf2, List.length_append, ← hkd]; rfl, fun z hz => ?_⟩
        · rw [hf2, ← hLk, List.take_add_one, List.getElem?_set_self (by omega), List.take_set_of_le (Nat.le_refl _)]
          rfl
        · rw [List.getElem?_set_ne (by omega)]
          exact hrest z (by omega)
      · rw [hpd] at hq
        have hf2 : (l.take (q + 1)).filter (fun d => !p d) = (l.take q).filter (fun d => !p d) := by rw [hsn, List.filter_append]; simp [hpd]
        simp (config := {contextual := true, maxDischargeDepth := 12}) only [tb_at, he, e0, e1, e5, e6, lenV_sl, hlt, i1, a1, hltj, hq, hw2, notV_bool, Bool.not_true, ↓bD, bU, forall_const, bS, implies_true, isNx, eq_self, ↓wp_cond, ↓wp_loop, ↓reduceIte, reduceCtorEq, Nat.reduceEqDiff, Nat.reduceLT, Nat.reduceAdd, Nat.reduceMul, bT, ↓sg_bsl, ↓st_callf, bX, ap_mkfn, ae_callvV, callvV_fn, List.cons_append, List.nil_append, boxV_i, boxV_nd, sto_dot, ap_conv, convV_int, bslV_0N, fstep_d0, fstep_d1, bsl_dot, ae_appz, ap_cap, capV_nils, slcV_nils0N, slcV_sl0N, wrap_0, ae_clr, boxV_f, fstep_f, lod_new2]
        refine ⟨n - 1, by omega, ?_⟩
        rw [hI]
        exact ⟨hCp, q + 1, k, L, by omega, (by simp only [bE, Nat.reduceEqDiff, bN, Nat.reduceLT, he]; try rfl), (by simp only [bE, Nat.reduceEqDiff, bN, Nat.reduceLT, he, e0]; try rfl), (by simp only [bE, Nat.reduceEqDiff, bN, Nat.reduceLT, he, e1]; try rfl), (by simp only [bE, Nat.reduceEqDiff, bN, Nat.reduceLT, he, e5]; try rfl), (by simp only [bE, Nat.reduceEqDiff, bN, Nat.reduceLT, he]; try rfl), by omega, by omega, by rw [List.length_append]; exact hLl, get_push_some _ hgt, by rw [hf2]; exact hLk, by rw [hf2]; exact hkd, fun z hz => hrest z (by omega)⟩
    · have hql : q = l.length := by omega
      subst hql
      rw [List.take_length] at hLk hkd
      obtain ⟨sl2, sl3⟩ := slc_ownN j l.length k cap (by omega) hc
      have hcl := clr_ownN (cap := cap.map (· - k)) hgt (n := l.length) (k := k) (by omega) (by omega)
      rw [setAt_cells'N L _ k (by rw [List.length_replicate]; omega), hLk] at hcl
      simp (config := {contextual := true, maxDischargeDepth := 12}) only [tb_at, he, e0, e1, e5, e6, lenV_sl, hlt, sl2, sl3, hcl, ↓bD, bU, forall_const, bS, implies_true, isNx, eq_self, ↓wp_cond, ↓wp_loop, ↓reduceIte, reduceCtorEq, Nat.reduceEqDiff, Nat.reduceLT, Nat.reduceAdd, Nat.reduceMul, bT, ↓sg_bsl, ↓st_callf, bX, ap_mkfn, ae_callvV, callvV_fn, List.cons_append, List.nil_append, boxV_i, boxV_nd, sto_dot, ap_conv, convV_int, bslV_0N, fstep_d0, fstep_d1, bsl_dot, ae_appz, ap_cap, capV_nils, slcV_nils0N, slcV_sl0N, wrap_0, ae_clr, boxV_f, fstep_f, lod_new2]
      exact ⟨_, rfl, .inr ⟨j, cap, _, by rw [← hkd]; rfl, hj0, St.get_put_same hgt⟩, hC.put _ (.inl (by simp [vids])) hjt, fun h => h.elim, rfl⟩
theorem q_DelN {s : St} {s0 : St} {v : AV} {l : List Nd} (hN : NewR ndC s0 s v l) (hc : CapOK v) (hl : l.length ≤ lim) {g : Nat} {caps : List AV} (p : Nd → Bool) (hf0 : ∀ (t : St) (d : Nd), Keep s t → acall (tb [(76, R_DeadF)] g) false (.agg (Nd.av d) :: caps) t = some (.bool (p d), t)) (hf : ∀ (t : St) (d : Nd), Chg (vids v) s t → acall (tb [(85, R_IdxN), (76, R_DeadF)] g) false (.agg (Nd.av d) :: caps) t = some (.bool (p d), t)) : ∃ w t, acall R_DelN false [v, .fn g caps] s = some (w, t) ∧ NewR ndC s0 t w (l.filter fun d => !p d) ∧ Chg (vids v) s t := by
  obtain ⟨r, t, h1, h2, h3, h4, h5⟩ := run_awp n_DelN (args := [v, .fn g caps]) (by simp [a75]) (Q := fun r t => NewR ndC s0 t r (l.filter fun d => !p d) ∧ Chg (vids v) (lowd s) t ∧ (v = .nils → r = .nils ∧ Keep (lowd s) t) ∧ (v ≠ .nils → r.ground = false)) (w_DelN (s := lowd s) (fun xs => rfl) (hN.mono fun _ _ h => h) hc hl p (fun t d h => hf0 t d ((keep_lowd s).trans h)) fun t d h => hf t d ((keep_lowd s).chg _ |>.trans h fun id hid => .inl hid))
  by_cases hv : v = .nils
  · obtain ⟨rfl, hk⟩ := h4 hv
    rcases hN with ⟨_, rfl⟩ | ⟨j, cap, rest, e, _⟩
    · exact ⟨.nils, s, acall_same h1 hk rfl, .nil _ _ _, (Keep.refl s).chg _⟩
    · rw [e] at hv; cases hv
  · obtain ⟨t', g1, g2, g3, g4⟩ := acall_new h1 h3 (.inl (h5 hv))
    exact ⟨r, t', g1, h2.mono fun id b hb => by rw [g2]; exact hb, g4⟩

end Go.AM
end
/-
  Searching a store: BinarySearchFunc, find, Find, Put. Own work of this project; in part printed by a program of it.
-/
section
set_option linter.unusedVariables false
set_option linter.unusedSimpArgs false
set_option maxRecDepth 100000
set_option maxHeartbeats 8000000
namespace Go.AM
open Go Go.Proofs

variable {s t u : St}

theorem bin_shr1 (n : Nat) : binOp .shr .no (.int .u64 (n : Int)) (.int .u64 1) = some (.int .u64 ((n / 2 : Nat) : Int)) := by
  simp only [binOp, shOp]
  have h1 : ¬ ((1 : Int) < 0) := by decide
  have h2 : (2 : Int) ^ (min (Int.toNat 1) IntKind.u64.bits) = 2 := by decide
  rw [if_neg h1, h2]
  have : Int.fdiv (n : Int) 2 = ((n / 2 : Nat) : Int) := by
    rw [Int.fdiv_eq_ediv_of_nonneg _ (by decide)]
    omega
  simp only [this]
theorem dcmp_neg (a b : Dot) : (dcmp a b < 0) = (a.before b = true) := by
  rcases dcmp_casesD a b with ⟨h, h1, _⟩ | ⟨h, h1, _⟩ | ⟨h, h1, _⟩ <;> rw [h, h1] <;> simp
theorem dcmp_zero (a b : Dot) : (dcmp a b = 0) = (a = b) := by
  rcases dcmp_casesD a b with ⟨h, h1, h2⟩ | ⟨h, h1, h2⟩ | ⟨h, h1, h2, h3⟩
  · rw [h]
    simp only [eq_iff_iff]
    refine ⟨fun q => by omega, fun q => ?_⟩
    rw [q, before_irr] at h1
    cases h1
  · rw [h]
    simp only [eq_iff_iff]
    refine ⟨fun q => by omega, fun q => ?_⟩
    rw [q, before_irr] at h2
    cases h2
  · rw [h]
    simp [h3]
theorem sorted_lt {l : List Nd} (hl : l.Pairwise ltP) {i k : Nat} {x y : Nd} (hx : l[i]? = some x) (hy : l[k]? = some y) (h : i < k) : x.d.before y.d = true := by
  obtain ⟨h1, rfl⟩ := List.getElem?_eq_some_iff.1 hx
  obtain ⟨h2, rfl⟩ := List.getElem?_eq_some_iff.1 hy
  exact List.pairwise_iff_getElem.1 hl i k h1 h2 h
theorem before_trans {a b c : Dot} (h : a.before b = true) (k : b.before c = true) : a.before c = true := by
  obtain ⟨ar, ac⟩ := a
  obtain ⟨br, bc⟩ := b
  obtain ⟨cr, cc⟩ := c
  simp only [Dot.before, Bool.or_eq_true, Bool.and_eq_true, decide_eq_true_eq] at *
  omega
def fndN (l : List Nd) (d : Dot) : Bool := match l[kOf l d]? with
  | some x => decide (x.d = d)
  | none => false
theorem fnd_has {l : List Nd} (hl : l.Pairwise ltP) (d : Dot) : fndN l d = hasN l d := at_found hl d
def findV (l : List Nd) (d : Dot) : AV := .tup [.int .i64 ((kOf l d : Nat) : Int), .bool (fndN l d)]
noncomputable def R_Find1 : Con := runFn (tb [(62, conDD fCmp)]) a93
theorem s_Find1 : SoundAt Tryz.prog 93 R_Find1 := run_sound (tb_sound (l := [(62, conDD fCmp)]) (by simpa using s_Cmp)) mixed Tryz.func93 k93 c93
theorem n_Find1 : noNxtC a93.body = true := by kernel_rfl
theorem w_Find1 {s : St} (n : Nd) (d : Dot) : ∀ env : Env, elen env = a93.ntmps → (∀ i x_, [.agg (Nd.av n), .agg (Dot.av d)][i]? = some x_ → E env i = x_) → awp (tb [(62, conDD fCmp)]) a93.body (fun x e t => (∀ i, x ≠ .exit i) ∧ aresults e t a93.results = some (.int .i64 (dcmp n.d d)) ∧ Keep s t) env s := by
  intro env hlen ha
  have h0 : E env 0 = _ := ha 0 _ rfl
  have h1 : E env 1 = _ := ha 1 _ rfl
  have hlen : elen env = _ := hlen
  simp only [a93] at hlen
  unfold a93
  try dsimp only [oO, oG]
  have hK1 : Keep s (s.push (.row (Nd.av n) true)) := (Keep.refl s).push _
  have hK2 : Keep (s.push (.row (Nd.av n) true)) ((s.push (.row (Nd.av n) true)).push (.row (Dot.av d) true)) := (Keep.refl _).push _
  obtain ⟨b1, b2, b3, b4, b5, b6⟩ := box_nd s n hK2
  obtain ⟨c1, c2, c3, c4⟩ := box_dot (s.push (.row (Nd.av n) true)) d (.refl _)
  simp (config := {contextual := true, maxDischargeDepth := 12}) only [tb_at, h0, h1, hlen, b1, b2, b6, c1, c4, q_Cmp, ↓bD, bU, forall_const, bS, implies_true, isNx, eq_self, ↓wp_cond, ↓wp_loop, ↓reduceIte, reduceCtorEq, Nat.reduceEqDiff, Nat.reduceLT, Nat.reduceAdd, Nat.reduceMul, bT, ↓sg_bsl, ↓st_callf, bX, List.cons_append, List.nil_append, ↓st_appf, bY, slcV_nils0N, slcV_sl0N, bslV_0N, bin_shr1]
  all_goals first | exact hK1.trans hK2 | skip
theorem q_Find1 (cl : Bool) {s : St} (n : Nd) (d : Dot) : acall R_Find1 cl [.agg (Nd.av n), .agg (Dot.av d)] s = some (.int .i64 (dcmp n.d d), s) := run_same n_Find1 (by simp [a93]) rfl (w_Find1 (s := lowd s) n d)
noncomputable def R_BSrch : Con := runFn (tb [(93, R_Find1)]) a92
theorem s_BSrch : SoundAt Tryz.prog 92 R_BSrch := run_sound (tb_sound (l := [(93, R_Find1)]) (by simpa using s_Find1)) mixed Tryz.func92 k92 c92
theorem n_BSrch : noNxtC a92.body = true := by kernel_rfl
theorem w_BSrch {s : St} {v : AV} {l : List Nd} (hr : read ndC s v = some l) (hl : l.length ≤ lim) (hs : l.Pairwise ltP) (d : Dot) : ∀ env : Env, elen env = a92.ntmps → (∀ i x_, [v, .agg (Dot.av d), .fn 93 []][i]? = some x_ → E env i = x_) → awp (tb [(93, R_Find1)]) a92.body (fun x e t => (∀ i, x ≠ .exit i) ∧ aresults e t a92.results = some (findV l d) ∧ Keep s t) env s := by
  intro env hlen ha
  have h0 : E env 0 = _ := ha 0 _ rfl
  have h1 : E env 1 = _ := ha 1 _ rfl
  have h2 : E env 2 = _ := ha 2 _ rfl
  have hlen : elen env = _ := hlen
  simp only [a92] at hlen
  unfold a92
  try dsimp only [oO, oG]
  have hL := lenV_read hr
  have hK1 : Keep s (s.push (.row (Dot.av d) true)) := (Keep.refl s).push _
  obtain ⟨b1, b2, b3, b4⟩ := box_dot s d (.refl _)
  simp (config := {contextual := true, maxDischargeDepth := 12}) only [tb_at, h0, h1, h2, hlen, hL, ↓bD, bU, forall_const, bS, implies_true, isNx, eq_self, ↓wp_cond, ↓wp_loop, ↓reduceIte, reduceCtorEq, Nat.reduceEqDiff, Nat.reduceLT, Nat.reduceAdd, Nat.reduceMul, bT, ↓sg_bsl, ↓st_callf, bX, List.cons_append, List.nil_append, ↓st_appf, bY, slcV_nils0N, slcV_sl0N, bslV_0N, bin_shr1]
  obtain ⟨I, hI⟩ : ∃ I : Nat → Env → St → Prop, ∀ n e t, I n e t = (t = s.push (.row (Dot.av d) true) ∧ ∃ i j : Nat, n = j - i ∧ i ≤ j ∧ j ≤ l.length ∧ elen e = 49 ∧ E e 0 = v ∧ E e 2 = .fn 93 [] ∧ E e 4 = .ptr s.next 0 ∧ E e 8 = .int .i64 (l.length : Int) ∧ E e 9 = .int .i64 (i : Int) ∧ E e 10 = .int .i64 (j : Int) ∧ (∀ k y, k < i → l[k]? = some y → y.d.before d = true) ∧ ∀ k y, j ≤ k → l[k]? = some y → y.d.before d = false) := ⟨fun n e t => (t = s.push (.row (Dot.av d) true) ∧ ∃ i j : Nat, n = j - i ∧ i ≤ j ∧ j ≤ l.length ∧ elen e = 49 ∧ E e 0 = v ∧ E e 2 = .fn 93 [] ∧ E e 4 = .ptr s.next 0 ∧ E e 8 = .int .i64 (l.length : Int) ∧ E e 9 = .int .i64 (i : Int) ∧ E e 10 = .int .i64 (j : Int) ∧ (∀ k y, k < i → l[k]? = some y → y.d.before d = true) ∧ ∀ k y, j ≤ k → l[k]? = some y → y.d.before d = false), fun _ _ _ => rfl⟩
  refine lwp_inv I (n := l.length) ?_ ?_
  · rw [hI]
    exact ⟨rfl, 0, l.length, rfl, by omega, by omega, (by simp only [bE, Nat.reduceEqDiff, bN, Nat.reduceLT, hlen]; try rfl), (by simp only [bE, Nat.reduceEqDiff, bN, Nat.reduceLT, hlen, h0]; try rfl), (by simp only [bE, Nat.reduceEqDiff, bN, Nat.reduceLT, hlen, h2]; try rfl), (by simp only [bE, Nat.reduceEqDiff, bN, Nat.reduceLT, hlen]; try rfl), (by simp only [bE, Nat.reduceEqDiff, bN, Nat.reduceLT, hlen]; try rfl), (by simp only [bE, Nat.reduceEqDiff, bN, Nat.reduceLT, hlen]; try rfl), (by simp only [bE, Nat.reduceEqDiff, bN, Nat.reduceLT, hlen]; try rfl), fun k y hk => by omega, fun k y hk hy => absurd (getlt hy) (by omega)⟩
  intro n e t hi
  rw [hI] at hi
  obtain ⟨rfl, i, j, rfl, hij, hjl, he, e0, e2, e4, e8, e9, e10, hpre, hpost⟩ := hi
  by_cases hlt : i < j
  · obtain ⟨m, hm⟩ : ∃ m, m = (i + j) / 2 := ⟨_, rfl⟩
    obtain ⟨x, hx⟩ := getsome (show m < l.length by omega)
    have w1 := wrap_addn (n := i) (m := j) (by unfold lim at hl; omega)
    have w2 := wrap_u64 (n := i + j) (by unfold lim at hl; omega)
    have w3 := wrap_nat (n := m) (by unfold lim at hl; omega)
    have w4 := wrap_add1 (n := m) (by unfold lim at hl; omega)
    have sh := bin_shr1 (i + j)
    rw [← hm] at sh
    obtain ⟨a1, a2, a3, a5, a6, a4⟩ := nd_lods hr hK1 hx
    have i1 := nd_idx hr hx .i64
    have q := q_Find1 false x d (s := s.push (.row (Dot.av d) true))
    cases hb : x.d.before d
    · have hz : (dcmp x.d d < 0) = False := by rw [dcmp_neg, hb]; simp
      simp (config := {contextual := true, maxDischargeDepth := 12}) only [tb_at, he, e0, e2, e4, e8, e9, e10, hlt, w1, w2, w3, sh, a1, a4, i1, b1, b4, q, hz, ↓bD, bU, forall_const, bS, implies_true, isNx, eq_self, ↓wp_cond, ↓wp_loop, ↓reduceIte, reduceCtorEq, Nat.reduceEqDiff, Nat.reduceLT, Nat.reduceAdd, Nat.reduceMul, bT, ↓sg_bsl, ↓st_callf, bX, List.cons_append, List.nil_append, ↓st_appf, bY, slcV_nils0N, slcV_sl0N, bslV_0N, bin_shr1]
      refine ⟨m - i, by omega, ?_⟩
      rw [hI]
      exact ⟨rfl, i, m, rfl, by omega, by omega, (by simp only [bE, Nat.reduceEqDiff, bN, Nat.reduceLT, he, e0, e2, e4, e8, e9, e10]; try rfl), (by simp only [bE, Nat.reduceEqDiff, bN, Nat.reduceLT, he, e0, e2, e4, e8, e9, e10]; try rfl), (by simp only [bE, Nat.reduceEqDiff, bN, Nat.reduceLT, he, e0, e2, e4, e8, e9, e10]; try rfl), (by simp only [bE, Nat.reduceEqDiff, bN, Nat.reduceLT, he, e0, e2, e4, e8, e9, e10]; try rfl), (by simp only [bE, Nat.reduceEqDiff, bN, Nat.reduceLT, he, e0, e2, e4, e8, e9, e10]; try rfl), (by simp only [bE, Nat.reduceEqDiff, bN, Nat.reduceLT, he, e0, e2, e4, e8, e9, e10]; try rfl), (by simp only [bE, Nat.reduceEqDiff, bN, Nat.reduceLT, he, e0, e2, e4, e8, e9, e10]; try rfl), hpre, fun k y hk hy => by
        by_cases e : k = m
        · subst e
          rw [hx] at hy
          injection hy with hy
          rw [← hy]; exact hb
        · cases hb2 : y.d.before d
          · rfl
          · have := before_trans (sorted_lt hs hx hy (by omega)) hb2
            rw [hb] at this
            cases this⟩
    · have hz : (dcmp x.d d < 0) = True := by rw [dcmp_neg, hb]; simp
      simp (config := {contextual := true, maxDischargeDepth := 12}) only [tb_at, he, e0, e2, e4, e8, e9, e10, hlt, w1, w2, w3, w4, sh, a1, a4, i1, b1, b4, q, hz, ↓bD, bU, forall_const, bS, implies_true, isNx, eq_self, ↓wp_cond, ↓wp_loop, ↓reduceIte, reduceCtorEq, Nat.reduceEqDiff, Nat.reduceLT, Nat.reduceAdd, Nat.reduceMul, bT, ↓sg_bsl, ↓st_callf, bX, List.cons_append, List.nil_append, ↓st_appf, bY, slcV_nils0N, slcV_sl0N, bslV_0N, bin_shr1]
      refine ⟨j - (m + 1), by omega, ?_⟩
      rw [hI]
      exact ⟨rfl, (m + 1), j, rfl, by omega, by omega, (by simp only [bE, Nat.reduceEqDiff, bN, Nat.reduceLT, he, e0, e2, e4, e8, e9, e10]; try rfl), (by simp only [bE, Nat.reduceEqDiff, bN, Nat.reduceLT, he, e0, e2, e4, e8, e9, e10]; try rfl), (by simp only [bE, Nat.reduceEqDiff, bN, Nat.reduceLT, he, e0, e2, e4, e8, e9, e10]; try rfl), (by simp only [bE, Nat.reduceEqDiff, bN, Nat.reduceLT, he, e0, e2, e4, e8, e9, e10]; try rfl), (by simp only [bE, Nat.reduceEqDiff, bN, Nat.reduceLT, he, e0, e2, e4, e8, e9, e10]; try rfl), (by simp only [bE, Nat.reduceEqDiff, bN, Nat.reduceLT, he, e0, e2, e4, e8, e9, e10]; try rfl), (by simp only [bE, Nat.reduceEqDiff, bN, Nat.reduceLT, he, e0, e2, e4, e8, e9, e10]; try rfl), fun k y hk hy => by
        by_cases e : k = m
        · subst e
          rw [hx] at hy
          injection hy with hy
          rw [← hy]; exact hb
        · exact before_trans (sorted_lt hs hy hx (by omega)) hb, hpost⟩
  · obtain rfl : i = j := by omega
    have hk : kOf l d = i := kOf_eq hjl hpre fun y hy => hpost i y (Nat.le_refl _) hy
    by_cases hil : i < l.length
    · obtain ⟨x, hx⟩ := getsome hil
      obtain ⟨a1, a2, a3, a5, a6, a4⟩ := nd_lods hr hK1 hx
      have i1 := nd_idx hr hx .i64
      have q := q_Find1 false x d (s := s.push (.row (Dot.av d) true))
      have hS : findV l d = .tup [.int .i64 (i : Int), .bool (decide (x.d = d))] := by simp only [findV, fndN, hk, hx]
      have hz := dcmp_zero x.d d
      simp (config := {contextual := true, maxDischargeDepth := 12}) only [tb_at, he, e0, e2, e4, e8, e9, e10, hlt, hil, a1, a4, i1, b1, b4, q, hz, hS, ↓bD, bU, forall_const, bS, implies_true, isNx, eq_self, ↓wp_cond, ↓wp_loop, ↓reduceIte, reduceCtorEq, Nat.reduceEqDiff, Nat.reduceLT, Nat.reduceAdd, Nat.reduceMul, bT, ↓sg_bsl, ↓st_callf, bX, List.cons_append, List.nil_append, ↓st_appf, bY, slcV_nils0N, slcV_sl0N, bslV_0N, bin_shr1]
      all_goals first | exact hK1 | skip
    · have hn : l[i]? = none := List.getElem?_eq_none (by omega)
      have hS : findV l d = .tup [.int .i64 (i : Int), .bool false] := by simp only [findV, fndN, hk, hn]
      simp (config := {contextual := true, maxDischargeDepth := 12}) only [tb_at, he, e0, e2, e4, e8, e9, e10, hlt, hil, hS, ↓bD, bU, forall_const, bS, implies_true, isNx, eq_self, ↓wp_cond, ↓wp_loop, ↓reduceIte, reduceCtorEq, Nat.reduceEqDiff, Nat.reduceLT, Nat.reduceAdd, Nat.reduceMul, bT, ↓sg_bsl, ↓st_callf, bX, List.cons_append, List.nil_append, ↓st_appf, bY, slcV_nils0N, slcV_sl0N, bslV_0N, bin_shr1]
      all_goals first | exact hK1 | skip
theorem q_BSrch (cl : Bool) {s : St} {v : AV} {l : List Nd} (hr : read ndC s v = some l) (hl : l.length ≤ lim) (hs : l.Pairwise ltP) (d : Dot) : acall R_BSrch cl [v, .agg (Dot.av d), .fn 93 []] s = some (findV l d, s) := run_same n_BSrch (by simp [a92]) rfl (w_BSrch (s := lowd s) (read_low' hr) hl hs d)
noncomputable def R_Sfind : Con := runFn (tb [(92, R_BSrch)]) a69
theorem s_Sfind : SoundAt Tryz.prog 69 R_Sfind := run_sound (tb_sound (l := [(92, R_BSrch)]) (by simpa using s_BSrch)) mixed Tryz.func69 k69 c69
theorem n_Sfind : noNxtC a69.body = true := by kernel_rfl
theorem w_Sfind {s : St} {v : AV} {l : List Nd} (hr : read ndC s v = some l) (hl : l.length ≤ lim) (hs : l.Pairwise ltP) (d : Dot) : ∀ env : Env, elen env = a69.ntmps → (∀ i x_, [v, .agg (Dot.av d)][i]? = some x_ → E env i = x_) → awp (tb [(92, R_BSrch)]) a69.body (fun x e t => (∀ i, x ≠ .exit i) ∧ aresults e t a69.results = some (findV l d) ∧ Keep s t) env s := by
  intro env hlen ha
  have h0 : E env 0 = _ := ha 0 _ rfl
  have h1 : E env 1 = _ := ha 1 _ rfl
  have hlen : elen env = _ := hlen
  simp only [a69] at hlen
  unfold a69
  try dsimp only [oO, oG]
  have hK1 : Keep s (s.push (.row (Dot.av d) true)) := (Keep.refl s).push _
  obtain ⟨b1, b2, b3, b4⟩ := box_dot s d (.refl _)
  have q := q_BSrch false (hK1.read hr) hl hs d
  have hS : findV l d = .tup [.int .i64 ((kOf l d : Nat) : Int), .bool (fndN l d)] := rfl
  rw [hS] at q
  simp (config := {contextual := true, maxDischargeDepth := 12}) only [tb_at, h0, h1, hlen, b1, b4, q, hS, ↓bD, bU, forall_const, bS, implies_true, isNx, eq_self, ↓wp_cond, ↓wp_loop, ↓reduceIte, reduceCtorEq, Nat.reduceEqDiff, Nat.reduceLT, Nat.reduceAdd, Nat.reduceMul, bT, ↓sg_bsl, ↓st_callf, bX, List.cons_append, List.nil_append, ↓st_appf, bY, slcV_nils0N, slcV_sl0N, bslV_0N, bin_shr1]
  all_goals first | exact hK1 | skip
theorem q_Sfind (cl : Bool) {s : St} {v : AV} {l : List Nd} (hr : read ndC s v = some l) (hl : l.length ≤ lim) (hs : l.Pairwise ltP) (d : Dot) : acall R_Sfind cl [v, .agg (Dot.av d)] s = some (findV l d, s) := run_same n_Sfind (by simp [a69]) rfl (w_Sfind (s := lowd s) (read_low' hr) hl hs d)

def findP (l : List Nd) (d : Dot) : Nd × Int := if storeL l = true ∧ d.valid = true then (match getN l d with
  | some x => (x, 0)
  | none => (nd0, 9)) else (nd0, 2)
theorem getN_at {l : List Nd} (hl : l.Pairwise ltP) (d : Dot) : (fndN l d = true ∧ ∃ x, l[kOf l d]? = some x ∧ getN l d = some x) ∨ (fndN l d = false ∧ getN l d = none) := by
  cases h : fndN l d
  · refine .inr ⟨rfl, ?_⟩
    cases hg : getN l d with
    | none => rfl
    | some x =>
      obtain ⟨h1, h2⟩ := getN_some hg
      rw [fnd_has hl] at h
      have := hasN_iff.2 ⟨x, h1, h2⟩
      rw [h] at this
      cases this
  · refine .inl ⟨rfl, ?_⟩
    unfold fndN at h
    split at h
    · rename_i x hx
      have e : x.d = d := by simpa using h
      have := getN_mem hl (List.mem_of_getElem? hx)
      rw [e] at this
      exact ⟨x, hx, this⟩
    · cases h
noncomputable def R_SFind : Con := runFn (tb [(31, conL ndC fValid), (68, conD fDotValid), (69, R_Sfind)]) a36
theorem s_SFind : SoundAt Tryz.prog 36 R_SFind := run_sound (tb_sound (l := [(31, conL ndC fValid), (68, conD fDotValid), (69, R_Sfind)]) (by simpa using ⟨s_StValid, s_DotValid, s_Sfind⟩)) mixed Tryz.func36 k36 c36
theorem n_SFind : noNxtC a36.body = true := by kernel_rfl
theorem w_SFind {s : St} {v : AV} {l : List Nd} (hr : read ndC s v = some l) (hl : l.length ≤ lim) (d : Dot) : ∀ env : Env, elen env = a36.ntmps → (∀ i x_, [v, .agg (Dot.av d)][i]? = some x_ → E env i = x_) → awp (tb [(31, conL ndC fValid), (68, conD fDotValid), (69, R_Sfind)]) a36.body (fun x e t => (∀ i, x ≠ .exit i) ∧ aresults e t a36.results = some (.tup [.agg (Nd.av (findP l d).1), .int .i64 (findP l d).2]) ∧ Keep s t) env s := by
  intro env hlen ha
  have h0 : E env 0 = _ := ha 0 _ rfl
  have h1 : E env 1 = _ := ha 1 _ rfl
  have hlen : elen env = _ := hlen
  simp only [a36] at hlen
  unfold a36
  try dsimp only [oO, oG]
  have hK1 : Keep s (s.push (.row (Dot.av d) true)) := (Keep.refl s).push _
  have hK2 : Keep s ((s.push (.row (Dot.av d) true)).push (.row [.int .i64 0, .int .i64 0, .int .i64 0, .int .i64 0, .int .i64 0, .int .i32 0] true)) := hK1.push _
  obtain ⟨b1, b2, b3, b4⟩ := box_dot s d ((Keep.refl (s.push (.row (Dot.av d) true))).push (.row [.int .i64 0, .int .i64 0, .int .i64 0, .int .i64 0, .int .i64 0, .int .i32 0] true))
  have q1 := q_StValid false (hK2.read hr) hl
  have q2 := q_DotValid false d (s := (s.push (.row (Dot.av d) true)).push (.row [.int .i64 0, .int .i64 0, .int .i64 0, .int .i64 0, .int .i64 0, .int .i32 0] true))
  cases hst : storeL l
  · have hS : findP l d = (nd0, 2) := by unfold findP; rw [if_neg (by simp [hst])]
    rw [hst] at q1
    rw [hS]
    simp (config := {contextual := true, maxDischargeDepth := 12}) only [tb_at, h0, h1, hlen, q1, notV_bool, Bool.not_false, ↓bD, bU, forall_const, bS, implies_true, isNx, eq_self, ↓wp_cond, ↓wp_loop, ↓reduceIte, reduceCtorEq, Nat.reduceEqDiff, Nat.reduceLT, Nat.reduceAdd, Nat.reduceMul, bT, ↓sg_bsl, ↓st_callf, bX, List.cons_append, List.nil_append, ↓st_appf, bY, slcV_nils0N, slcV_sl0N, bslV_0N, bin_shr1]
    all_goals first | rfl | skip
  cases hdv : d.valid
  · have hS : findP l d = (nd0, 2) := by unfold findP; rw [if_neg (by simp [hdv])]
    rw [hst] at q1
    rw [hdv] at q2
    rw [hS]
    simp (config := {contextual := true, maxDischargeDepth := 12}) only [tb_at, h0, h1, hlen, b1, b4, q1, q2, notV_bool, Bool.not_false, Bool.not_true, ↓bD, bU, forall_const, bS, implies_true, isNx, eq_self, ↓wp_cond, ↓wp_loop, ↓reduceIte, reduceCtorEq, Nat.reduceEqDiff, Nat.reduceLT, Nat.reduceAdd, Nat.reduceMul, bT, ↓sg_bsl, ↓st_callf, bX, List.cons_append, List.nil_append, ↓st_appf, bY, slcV_nils0N, slcV_sl0N, bslV_0N, bin_shr1]
    all_goals first | rfl | skip
  have hs := store_sorted hst
  have q3 := q_Sfind false (hK2.read hr) hl hs d
  rw [hst] at q1
  rw [hdv] at q2
  unfold findV at q3
  rcases getN_at hs d with ⟨hf, x, hx, hg⟩ | ⟨hf, hg⟩
  · have hS : findP l d = (x, 0) := by unfold findP; rw [if_pos ⟨hst, hdv⟩, hg]
    rw [hf] at q3
    rw [hS]
    obtain ⟨a1, a2, a3, a5, a6, a4⟩ := nd_lods hr hK2 hx
    have i1 := nd_idx hr hx .i64
    simp (config := {contextual := true, maxDischargeDepth := 12}) only [tb_at, h0, h1, hlen, b1, b4, q1, q2, q3, a1, a4, i1, notV_bool, Bool.not_false, Bool.not_true, ↓bD, bU, forall_const, bS, implies_true, isNx, eq_self, ↓wp_cond, ↓wp_loop, ↓reduceIte, reduceCtorEq, Nat.reduceEqDiff, Nat.reduceLT, Nat.reduceAdd, Nat.reduceMul, bT, ↓sg_bsl, ↓st_callf, bX, List.cons_append, List.nil_append, ↓st_appf, bY, slcV_nils0N, slcV_sl0N, bslV_0N, bin_shr1]
    all_goals first | rfl | skip
  · have hS : findP l d = (nd0, 9) := by unfold findP; rw [if_pos ⟨hst, hdv⟩, hg]
    rw [hf] at q3
    rw [hS]
    simp (config := {contextual := true, maxDischargeDepth := 12}) only [tb_at, h0, h1, hlen, b1, b4, q1, q2, q3, notV_bool, Bool.not_false, Bool.not_true, ↓bD, bU, forall_const, bS, implies_true, isNx, eq_self, ↓wp_cond, ↓wp_loop, ↓reduceIte, reduceCtorEq, Nat.reduceEqDiff, Nat.reduceLT, Nat.reduceAdd, Nat.reduceMul, bT, ↓sg_bsl, ↓st_callf, bX, List.cons_append, List.nil_append, ↓st_appf, bY, slcV_nils0N, slcV_sl0N, bslV_0N, bin_shr1]
    all_goals first | rfl | skip
theorem q_SFind (cl : Bool) {s : St} {v : AV} {l : List Nd} (hr : read ndC s v = some l) (hl : l.length ≤ lim) (d : Dot) : acall R_SFind cl [v, .agg (Dot.av d)] s = some (.tup [.agg (Nd.av (findP l d).1), .int .i64 (findP l d).2], s) := run_same n_SFind (by simp [a36]) rfl (w_SFind (s := lowd s) (read_low' hr) hl d)

end Go.AM
end
/-
  The reference of layer 10: Valid, Equal, Find. Own work of this project; in part printed by a program of it.
-/
section
set_option linter.unusedVariables false
set_option linter.unusedSimpArgs false
set_option maxRecDepth 100000
set_option maxHeartbeats 8000000
namespace Go.AM
open Go Go.Proofs

variable {s t u : St}

noncomputable def R_REq : Con := runFn (tb []) a17
theorem s_REq : SoundAt Tryz.prog 17 R_REq := run_sound (tb_sound (l := []) (by simp)) mixed Tryz.func17 k17 c17
theorem n_REq : noNxtC a17.body = true := by kernel_rfl
theorem w_REq {s : St} {v : AV} {l : List Nd} (hr : read ndC s v = some l) (hl : l.length ≤ lim) {w : AV} {m : List Nd} (hrw : read ndC s w = some m) (hm : m.length ≤ lim) : ∀ env : Env, elen env = a17.ntmps → (∀ i x_, [v, w][i]? = some x_ → E env i = x_) → awp (tb []) a17.body (fun x e t => (∀ i, x ≠ .exit i) ∧ aresults e t a17.results = some (.bool (decide (l = m))) ∧ Keep s t) env s := by
  intro env hlen ha
  have h0 : E env 0 = _ := ha 0 _ rfl
  have h1 : E env 1 = _ := ha 1 _ rfl
  have hlen : elen env = _ := hlen
  simp only [a17] at hlen
  unfold a17
  try dsimp only [oO, oG]
  have hL := lenV_read hr
  have hM := lenV_read hrw
  by_cases hlm : l.length = m.length
  · have hz : ((l.length : Int) = (m.length : Int)) = True := eq_true (by omega)
    simp (config := {contextual := true, maxDischargeDepth := 12}) only [tb_at, h0, h1, hlen, hL, hM, hz, ↓bD, bU, forall_const, bS, implies_true, isNx, eq_self, ↓wp_cond, ↓wp_loop, ↓reduceIte, reduceCtorEq, Nat.reduceEqDiff, Nat.reduceLT, Nat.reduceAdd, Nat.reduceMul, bT, ↓sg_bsl, ↓st_callf, bX, ap_mkfn, ae_callvV, callvV_fn, List.cons_append, List.nil_append, boxV_i]
    obtain ⟨I, hI⟩ : ∃ I : Nat → Env → St → Prop, ∀ n e t, I n e t = (t = s ∧ ∃ i : Nat, n + i = l.length ∧ elen e = 26 ∧ E e 0 = v ∧ E e 1 = w ∧ E e 5 = .int .i64 (i : Int) ∧ ∀ k y, k < i → l[k]? = some y → m[k]? = some y) := ⟨fun n e t => (t = s ∧ ∃ i : Nat, n + i = l.length ∧ elen e = 26 ∧ E e 0 = v ∧ E e 1 = w ∧ E e 5 = .int .i64 (i : Int) ∧ ∀ k y, k < i → l[k]? = some y → m[k]? = some y), fun _ _ _ => rfl⟩
    refine lwp_inv I (n := l.length) ?_ ?_
    · rw [hI]
      exact ⟨rfl, 0, by omega, (by simp only [bE, Nat.reduceEqDiff, bN, Nat.reduceLT, hlen]; try rfl), (by simp only [bE, Nat.reduceEqDiff, bN, Nat.reduceLT, hlen, h0]; try rfl), (by simp only [bE, Nat.reduceEqDiff, bN, Nat.reduceLT, hlen, h1]; try rfl), (by simp only [bE, Nat.reduceEqDiff, bN, Nat.reduceLT, hlen]; try rfl), fun k y hk => by omega⟩
    intro n e t hi
    rw [hI] at hi
    obtain ⟨hK, i, hni, he, e0, e1, e5, hpre⟩ := hi
    subst hK
    by_cases hlt : i < l.length
    · obtain ⟨x, hx⟩ := getsome hlt
      obtain ⟨y, hy⟩ := getsome (l := m) (i := i) (by omega)
      have hw2 := wrap_add1 (n := i) (by unfold lim at hl; omega)
      obtain ⟨a1, a2, a3, a4x, a4y, a4⟩ := nd_lods hr (.refl _) hx
      have i1 := nd_idx hr hx .i64
      obtain ⟨b1, b2, b3, b4x, b4y, b4⟩ := nd_lods hrw (.refl _) hy
      have i2 := nd_idx hrw hy .i64
      by_cases hp : x = y
      · have hz := eq_true hp
        simp (config := {contextual := true, maxDischargeDepth := 12}) only [tb_at, he, e0, e1, e5, hL, hM, hlt, hw2, a1, i1, b1, i2, hz, reserve0, ↓bD, bU, forall_const, bS, implies_true, isNx, eq_self, ↓wp_cond, ↓wp_loop, ↓reduceIte, reduceCtorEq, Nat.reduceEqDiff, Nat.reduceLT, Nat.reduceAdd, Nat.reduceMul, bT, ↓sg_bsl, ↓st_callf, bX, ap_mkfn, ae_callvV, callvV_fn, List.cons_append, List.nil_append, boxV_i]
        refine ⟨n - 1, by omega, ?_⟩
        rw [hI]
        exact ⟨rfl, i + 1, by omega, (by simp only [bE, Nat.reduceEqDiff, bN, Nat.reduceLT, he, e0, e1, e5]; try rfl), (by simp only [bE, Nat.reduceEqDiff, bN, Nat.reduceLT, he, e0, e1, e5]; try rfl), (by simp only [bE, Nat.reduceEqDiff, bN, Nat.reduceLT, he, e0, e1, e5]; try rfl), (by simp only [bE, Nat.reduceEqDiff, bN, Nat.reduceLT, he, e0, e1, e5]; try rfl), pre_next (P := fun k y => m[k]? = some y) hx hpre (by rw [hp]; exact hy)⟩
      · have hz := eq_false hp
        have hS : decide (l = m) = false := decide_eq_false (ne_at hx hy hp)
        simp (config := {contextual := true, maxDischargeDepth := 12}) only [tb_at, he, e0, e1, e5, hL, hM, hlt, hw2, a1, i1, b1, i2, hz, hS, reserve0, ↓bD, bU, forall_const, bS, implies_true, isNx, eq_self, ↓wp_cond, ↓wp_loop, ↓reduceIte, reduceCtorEq, Nat.reduceEqDiff, Nat.reduceLT, Nat.reduceAdd, Nat.reduceMul, bT, ↓sg_bsl, ↓st_callf, bX, ap_mkfn, ae_callvV, callvV_fn, List.cons_append, List.nil_append, boxV_i]
        all_goals first | exact .refl _ | skip
    · obtain rfl : i = l.length := by omega
      have hS : decide (l = m) = true := decide_eq_true (eq_of_at hlm fun k x y hx hy => by
        have := hpre k x (getlt hx) hx
        rw [hy] at this
        exact (Option.some.inj this).symm)
      simp (config := {contextual := true, maxDischargeDepth := 12}) only [tb_at, he, e0, e1, e5, hL, hM, hlt, hS, ↓bD, bU, forall_const, bS, implies_true, isNx, eq_self, ↓wp_cond, ↓wp_loop, ↓reduceIte, reduceCtorEq, Nat.reduceEqDiff, Nat.reduceLT, Nat.reduceAdd, Nat.reduceMul, bT, ↓sg_bsl, ↓st_callf, bX, ap_mkfn, ae_callvV, callvV_fn, List.cons_append, List.nil_append, boxV_i]
      all_goals first | exact .refl _ | skip
  · have hz : ((l.length : Int) = (m.length : Int)) = False := eq_false (by omega)
    have hS : decide (l = m) = false := decide_eq_false fun h => hlm (by rw [h])
    simp (config := {contextual := true, maxDischargeDepth := 12}) only [tb_at, h0, h1, hlen, hL, hM, hz, hS, ↓bD, bU, forall_const, bS, implies_true, isNx, eq_self, ↓wp_cond, ↓wp_loop, ↓reduceIte, reduceCtorEq, Nat.reduceEqDiff, Nat.reduceLT, Nat.reduceAdd, Nat.reduceMul, bT, ↓sg_bsl, ↓st_callf, bX, ap_mkfn, ae_callvV, callvV_fn, List.cons_append, List.nil_append, boxV_i]
    all_goals first | exact .refl _ | skip
theorem q_REq (cl : Bool) {s : St} {v : AV} {l : List Nd} (hr : read ndC s v = some l) (hl : l.length ≤ lim) {w : AV} {m : List Nd} (hrw : read ndC s w = some m) (hm : m.length ≤ lim) : acall R_REq cl [v, w] s = some (.bool (decide (l = m)), s) := run_same n_REq (by simp [a17]) rfl (w_REq (s := lowd s) (read_low' hr) hl (read_low' hrw) hm)
end Go.AM
end
/-
  The reference of layer 10: Put, Of. Own work of this project; in part printed by a program of it.
-/
section
set_option linter.unusedVariables false
set_option linter.unusedSimpArgs false
set_option maxRecDepth 100000
set_option maxHeartbeats 8000000
namespace Go.AM
open Go Go.Proofs

variable {s t u : St}

theorem bsl_nd {x : Nd} : bslV [.int .i64 0, .int .i64 0, .int .i64 0, .int .i64 0, .int .i64 0, .int .i32 0] 1 6 [(0, .agg (Nd.av x))] = some (fun id => .sl id 0 1 (some 1) 6, .row (Nd.av x) true) := nrfl rfl
end Go.AM
end
/-
  The reference of layer 10: Of. Own work of this project; in part printed by a program of it.
-/
section
set_option linter.unusedVariables false
set_option linter.unusedSimpArgs false
set_option maxRecDepth 100000
set_option maxHeartbeats 8000000
namespace Go.AM
open Go Go.Proofs

variable {s t u : St}
theorem ofFold_lenS : ∀ (r M A M' : List Nd), ofFold r M A = some M' → M'.length ≤ M.length + r.length
  | [], M, A, M', h => by simp [ofFold] at h; subst h; simp
  | n :: r, M, A, M', h => by
    rw [ofFold, ofStep_eq] at h
    split at h
    · rename_i M2 A2 hs
      have ih := ofFold_lenS r M2 A2 M' h
      have : M2.length ≤ M.length + 1 := by
        repeat' split at hs
        all_goals first | cases hs | skip
        all_goals exact updN_len _ _
      simp
      omega
    · cases h
theorem ofP_lenS (l : List Nd) : (ofP l).1.length ≤ l.length := by
  have h := gOf_P l
  unfold gOf at h
  split at h
  · split at h
    · rename_i M hM
      injection h with h
      rw [← (Prod.mk.inj h).1, sortN_len]
      simpa using ofFold_lenS _ _ _ _ hM
    · injection h with h
      rw [← (Prod.mk.inj h).1]
      simp
  · injection h with h
    rw [← (Prod.mk.inj h).1]
    simp

end Go.AM
end
/-
  store.Put and Kill, the reference Kill, and what the statements of layer 10 call. Own work of this project; in part printed by a program of it.
-/
section
set_option linter.unusedVariables false
set_option linter.unusedSimpArgs false
set_option maxRecDepth 100000
set_option maxHeartbeats 8000000
namespace Go.AM
open Go Go.Proofs

variable {s t u : St}

theorem q_SOf {s : St} {vl : AV} {l : List Nd} (hr : read ndC s vl = some l) (hl : l.length ≤ lim) : ∃ w t, acall (conF ndC (pL ndC gOf)) false [vl] s = some (.tup [w, .int .i64 (ofP l).2], t) ∧ Own ndC s t w (ofP l).1 ∧ Keep s t := by
  obtain ⟨w, t, h1, h2, h3⟩ := fresh_L (D := ndC) (f := gOf) hr hl (gOf_P l) (fun x hx => by injection hx with hx; subst hx; rfl)
  exact ⟨w, t, h1, h3, h2⟩
def putP (l : List Nd) (n : Nd) : List Nd × Int := if storeL l = true then ofP (l ++ [n]) else ([], 2)
theorem bsl2N_one {a b : AV} {la lb : List Nd} (ha : read ndC s a = some la) (hb : read ndC t b = some lb) : bslV [.nils, .nils] 2 1 [(0, a), (1, b)] = some (fun id => .sl id 0 2 (some 2) 1, .row [a, b] true) := by
  obtain ⟨a1, a2⟩ := read_oneN ha
  obtain ⟨b1, b2⟩ := read_oneN hb
  simp [bslV, fillP, aev, a1, a2, b1, b2, setAt]
noncomputable def R_SPut : Con := runFn (tb [(31, conL ndC fValid), (63, R_ConcN), (29, conF ndC (pL ndC gOf))]) a30
theorem s_SPut : SoundAt Tryz.prog 30 R_SPut := run_sound (tb_sound (l := [(31, conL ndC fValid), (63, R_ConcN), (29, conF ndC (pL ndC gOf))]) (by simpa using ⟨s_StValid, s_ConcN, s_Of⟩)) mixed Tryz.func30 k30 c30
theorem n_SPut : noNxtC a30.body = true := by kernel_rfl
theorem w_SPut {s : St} {vl : AV} {l : List Nd} (hr : read ndC s vl = some l) (hl : l.length ≤ 200000) (nn : Nd) : ∀ env : Env, elen env = a30.ntmps → (∀ i x_, [vl, .agg (Nd.av nn)][i]? = some x_ → E env i = x_) → awp (tb [(31, conL ndC fValid), (63, R_ConcN), (29, conF ndC (pL ndC gOf))]) a30.body (fun x e t => (∀ i, x ≠ .exit i) ∧ Keep s t ∧ ∃ r, aresults e t a30.results = some (.tup [r, .int .i64 (putP l nn).2]) ∧ Own ndC s t r (putP l nn).1) env s := by
  intro env hlen ha
  have h0 : E env 0 = _ := ha 0 _ rfl
  have h1 : E env 1 = _ := ha 1 _ rfl
  have hlen : elen env = _ := hlen
  simp only [a30] at hlen
  unfold a30
  try dsimp only [oO, oG]
  have hK1 : Keep s (s.push (.row (Nd.av nn) true)) := (Keep.refl s).push _
  obtain ⟨b1, b2, b3, b4, b5, b6⟩ := box_nd s nn (.refl _)
  have q1 := q_StValid false (hK1.read hr) (by unfold lim; omega)
  cases hst : storeL l
  · rw [hst] at q1
    have hS : putP l nn = ([], 2) := by unfold putP; rw [hst]; rfl
    simp (config := {contextual := true, maxDischargeDepth := 12}) only [tb_at, h0, h1, hlen, q1, hS, notV_bool, Bool.not_false, ↓bD, bU, forall_const, bS, implies_true, isNx, eq_self, ↓wp_cond, ↓wp_loop, ↓reduceIte, reduceCtorEq, Nat.reduceEqDiff, Nat.reduceLT, Nat.reduceAdd, Nat.reduceMul, bT, ↓sg_bsl, ↓st_callf, bX, List.cons_append, List.nil_append, ↓st_appf, bY, slcV_nils0N, slcV_sl0N, bslV_0N, bin_shr1, bsl_nd]
    all_goals first | exact ⟨hK1, _, rfl, .nil _ _ _⟩ | exact ⟨_, rfl, .nil _ _ _⟩ | skip
  · rw [hst] at q1
    have hS : putP l nn = ofP (l ++ [nn]) := by unfold putP; rw [hst]; rfl
    have hK2 : Keep s ((s.push (.row (Nd.av nn) true)).push (.row (Nd.av nn) true)) := hK1.push _
    have hr1 : read ndC ((s.push (.row (Nd.av nn) true)).push (.row (Nd.av nn) true)) (.sl (s.push (.row (Nd.av nn) true)).next 0 1 (some 1) 6) = some [nn] := by
      refine read_of (C := ndC) (n := 1) rfl (St.get_push_new _ _) (by simp [Nd.av, ndC]) ?_
      rw [cells_one]
      rfl
    have hb2 := bsl2N_one hr hr1
    have hK3 := hK2.push (.row [vl, .sl (s.push (.row (Nd.av nn) true)).next 0 1 (some 1) 6] true)
    obtain ⟨w, t, hq, hrw, hK4⟩ := q_ConcN (St.get_push_new ((s.push (.row (Nd.av nn) true)).push (.row (Nd.av nn) true)) (.row [vl, .sl (s.push (.row (Nd.av nn) true)).next 0 1 (some 1) 6] true)) (hK3.read hr) (((Keep.refl _).push _).read hr1) (by unfold lim; omega) (by simp [lim])
    obtain ⟨w2, t2, hq2, hO, hK5⟩ := q_SOf hrw (by rw [List.length_append]; unfold lim; simp; omega)
    have hKa := hK3.trans hK4
    simp (config := {contextual := true, maxDischargeDepth := 12}) only [tb_at, h0, h1, hlen, q1, hS, b1, b6, hb2, hq, hq2, notV_bool, Bool.not_true, ↓bD, bU, forall_const, bS, implies_true, isNx, eq_self, ↓wp_cond, ↓wp_loop, ↓reduceIte, reduceCtorEq, Nat.reduceEqDiff, Nat.reduceLT, Nat.reduceAdd, Nat.reduceMul, bT, ↓sg_bsl, ↓st_callf, bX, List.cons_append, List.nil_append, ↓st_appf, bY, slcV_nils0N, slcV_sl0N, bslV_0N, bin_shr1, bsl_nd]
    exact ⟨hKa.trans hK5, _, rfl, hO.from hKa.next⟩
theorem q_SPut {s : St} {vl : AV} {l : List Nd} (hr : read ndC s vl = some l) (hl : l.length ≤ 200000) (nn : Nd) : ∃ v t, acall R_SPut false [vl, .agg (Nd.av nn)] s = some (.tup [v, .int .i64 (putP l nn).2], t) ∧ Own ndC s t v ((putP l nn).1) ∧ Keep s t := run_fresh n_SPut (by simp [a30]) (fun v => .tup [v, .int .i64 (putP l nn).2]) (fun _ _ _ _ _ => rfl) (w_SPut (s := lowd s) (read_low' hr) hl nn)

theorem killP_no {l : List Nd} {ds : List Dot} {d : Dot} (hd : d ∈ ds) (h : hasN l d = false) : killP l ds = ([], 9) := by
  unfold killP
  rw [if_neg]
  intro q
  have := List.all_eq_true.1 q d hd
  rw [h] at this
  cases this
theorem killP_yes {l : List Nd} {ds : List Dot} (h : ∀ k y, k < ds.length → ds[k]? = some y → hasN l y = true) : killP l ds = (killL l ds, 0) := by
  unfold killP
  rw [if_pos (all_at h)]
end Go.AM
end
/-
  store.Kill. Own work of this project; in part printed by a program of it.
-/
section
set_option linter.unusedVariables false
set_option linter.unusedSimpArgs false
set_option maxRecDepth 100000
set_option maxHeartbeats 8000000
namespace Go.AM
open Go Go.Proofs

variable {s t u : St}

def killS (l : List Nd) (ds : List Dot) : List Nd × Int := if storeL l = true ∧ ds.all Dot.valid = true then killP l ds else ([], 2)
theorem kill_find (l : List Nd) (p : List Dot) (hl : l.Pairwise ltP) (d : Dot) : findV (killL l p) d = .tup [.int .i64 ((kOf l d : Nat) : Int), .bool (hasN l d)] := by
  unfold findV
  rw [kOf_dots (killL_dots l p), fnd_has (killL_sorted hl p), hasN_dots (killL_dots l p)]
theorem kill_at {l : List Nd} (p : List Dot) (hl : l.Pairwise ltP) {d : Dot} (h : hasN l d = true) : ∃ x, (killL l p)[kOf l d]? = some x ∧ x.d = d := by
  rw [← hasN_dots (killL_dots l p), ← fnd_has (killL_sorted hl p)] at h
  unfold fndN at h
  rw [kOf_dots (killL_dots l p)] at h
  split at h
  · rename_i x hx
    exact ⟨x, hx, by simpa using h⟩
  · cases h
noncomputable def R_SKill : Con := runFn (tb [(31, conL ndC fValid), (70, R_AnyD), (72, R_SClN), (69, R_Sfind), (73, conN fKill)]) a37
theorem s_SKill : SoundAt Tryz.prog 37 R_SKill := run_sound (tb_sound (l := [(31, conL ndC fValid), (70, R_AnyD), (72, R_SClN), (69, R_Sfind), (73, conN fKill)]) (by simpa using ⟨s_StValid, s_AnyD, s_SClN, s_Sfind, s_Kill⟩)) mixed Tryz.func37 k37 c37
theorem n_SKill : noNxtC a37.body = true := by kernel_rfl
theorem w_SKill {s : St} {vl : AV} {l : List Nd} (hr : read ndC s vl = some l) (hl : l.length ≤ 200000) {vd : AV} {ds : List Dot} (hrd : read dotC s vd = some ds) (hld : ds.length ≤ 200000) : ∀ env : Env, elen env = a37.ntmps → (∀ i x_, [vl, vd][i]? = some x_ → E env i = x_) → awp (tb [(31, conL ndC fValid), (70, R_AnyD), (72, R_SClN), (69, R_Sfind), (73, conN fKill)]) a37.body (fun x e t => (∀ i, x ≠ .exit i) ∧ ∃ r, aresults e t a37.results = some r ∧ (∃ w, r = .tup [w, .int .i64 (killS l ds).2] ∧ NewX ndC s t w (killS l ds).1) ∧ Keep s t) env s := by
  intro env hlen ha
  have h0 : E env 0 = _ := ha 0 _ rfl
  have h1 : E env 1 = _ := ha 1 _ rfl
  have hlen : elen env = _ := hlen
  simp only [a37] at hlen
  unfold a37
  try dsimp only [oO, oG]
  have hLd := lenV_read hrd
  have q1 := q_StValid false hr (by unfold lim; omega)
  have q2 := q_AnyD true hrd (by unfold lim; omega) (fun d => !d.valid) (g := 71) (caps := []) fun t d _ => q_KInv false d
  have q2' := q_AnyD false hrd (by unfold lim; omega) (fun d => !d.valid) (g := 71) (caps := []) fun t d _ => q_KInv false d
  rw [any_inv] at q2 q2'
  by_cases hok : storeL l = true ∧ ds.all Dot.valid = true
  · obtain ⟨hst, hdv⟩ := hok
    have hS : killS l ds = killP l ds := by unfold killS; rw [if_pos ⟨hst, hdv⟩]
    rw [hst] at q1
    rw [hdv] at q2 q2'
    have hs := store_sorted hst
    obtain ⟨w, t0, q3, ⟨hN0, hcap⟩, hK0⟩ := q_SClN hr (by unfold lim; omega)
    have hon : NewX ndC s t0 w (killL l (ds.take 0)) := by rw [List.take_zero, killL_nil]; exact hN0
    simp (config := {contextual := true, maxDischargeDepth := 12}) only [tb_at, h0, h1, hlen, q1, q2, q2', q3, hLd, notV_bool, Bool.not_true, ↓bD, bU, forall_const, bS, implies_true, isNx, eq_self, ↓wp_cond, ↓wp_loop, ↓reduceIte, reduceCtorEq, Nat.reduceEqDiff, Nat.reduceLT, Nat.reduceAdd, Nat.reduceMul, bT, ↓sg_bsl, ↓st_callf, bX, List.cons_append, List.nil_append, ↓st_appf, bY, slcV_nils0N, slcV_sl0N, bslV_0N, bin_shr1, bsl_nd]
    obtain ⟨I, hI⟩ : ∃ I : Nat → Env → St → Prop, ∀ n e t, I n e t = (Keep s t ∧ ∃ i : Nat, n + i = ds.length ∧ elen e = 44 ∧ E e 20 = vd ∧ E e 21 = .int .i64 (ds.length : Int) ∧ E e 22 = .int .i64 (i : Int) ∧ E e 6 = w ∧ NewX ndC s t w (killL l (ds.take i)) ∧ ∀ k y, k < i → ds[k]? = some y → hasN l y = true) := ⟨fun n e t => (Keep s t ∧ ∃ i : Nat, n + i = ds.length ∧ elen e = 44 ∧ E e 20 = vd ∧ E e 21 = .int .i64 (ds.length : Int) ∧ E e 22 = .int .i64 (i : Int) ∧ E e 6 = w ∧ NewX ndC s t w (killL l (ds.take i)) ∧ ∀ k y, k < i → ds[k]? = some y → hasN l y = true), fun _ _ _ => rfl⟩
    refine lwp_inv I (n := ds.length) ?_ ?_
    · rw [hI]
      exact ⟨hK0, 0, by omega, (by simp only [bE, Nat.reduceEqDiff, bN, Nat.reduceLT, hlen]; try rfl), (by simp only [bE, Nat.reduceEqDiff, bN, Nat.reduceLT, hlen, h1]; try rfl), (by simp only [bE, Nat.reduceEqDiff, bN, Nat.reduceLT, hlen, hLd]; try rfl), (by simp only [bE, Nat.reduceEqDiff, bN, Nat.reduceLT, hlen]; try rfl), (by simp only [bE, Nat.reduceEqDiff, bN, Nat.reduceLT, hlen]; try rfl), hon, fun k y hk => by omega⟩
    clear h0 h1 hlen hon
    intro n e t hi
    rw [hI] at hi
    obtain ⟨hK, i, hni, he, e20, e21, e22, e6, hN, hp1⟩ := hi
    by_cases hlt : i < ds.length
    · obtain ⟨d, hx⟩ := getsome hlt
      have hw2 := wrap_add1 (n := i) (by omega)
      obtain ⟨a1, a2, a3, a4⟩ := dot_lods hrd hK hx
      have i1 := dot_idx hrd hx .i64
      have hKb : Keep s (t.lowed.push (.row (Dot.av d) true)) := hK.lowed.push _
      have hNb : NewX ndC s (t.lowed.push (.row (Dot.av d) true)) w (killL l (ds.take i)) := hN.mono fun id b hb => get_push_some _ hb
      have qf := q_Sfind false hNb.read (by rw [killL_len]; unfold lim; omega) (killL_sorted hs (ds.take i)) d
      rw [kill_find l _ hs] at qf
      cases hh : hasN l d
      · rw [hh] at qf
        have hP := killP_no (mem_at hx) hh
        simp (config := {contextual := true, maxDischargeDepth := 12}) only [tb_at, he, e20, e21, e22, e6, hlt, a1, a4, i1, qf, hS, hP, notV_bool, Bool.not_false, ↓bD, bU, forall_const, bS, implies_true, isNx, eq_self, ↓wp_cond, ↓wp_loop, ↓reduceIte, reduceCtorEq, Nat.reduceEqDiff, Nat.reduceLT, Nat.reduceAdd, Nat.reduceMul, bT, ↓sg_bsl, ↓st_callf, bX, List.cons_append, List.nil_append, ↓st_appf, bY, slcV_nils0N, slcV_sl0N, bslV_0N, bin_shr1, bsl_nd]
        all_goals first | exact ⟨_, rfl, ⟨_, rfl, .nil _ _ _⟩, hKb⟩ | exact ⟨_, rfl, ⟨_, rfl, .nil _ _ _⟩, .refl _⟩ | exact ⟨_, rfl, ⟨_, rfl, .nil _ _ _⟩⟩ | exact ⟨_, rfl, _, rfl, .nil _ _ _⟩ | exact ⟨_, rfl, .nil _ _ _⟩ | exact ⟨⟨_, rfl, .nil _ _ _⟩, .refl _⟩ | exact ⟨_, ⟨rfl, rfl⟩, .nil _ _ _⟩ | skip
      · rw [hh] at qf
        obtain ⟨x, hxk, hxd⟩ := kill_at (ds.take i) hs hh
        obtain ⟨c1, c2, c3, c5, c6, c4⟩ := nd_lods hNb.read (.refl _) hxk
        have i2 := nd_idx hNb.read hxk .i64
        have hst2 := kill_step hs (ds.take i) hxk hxd
        rw [← take_snoc hx] at hst2
        have hkl := getlt hxk
        have qk : ∀ u : St, acall (conN fKill) false [.agg (Nd.av x)] u = some (.agg (Nd.av (kill1 x)), u) := fun u => q_Kill false x u
        rcases hNb with ⟨rfl, he0⟩ | ⟨j, cap, rfl, hj0, hg⟩
        · rw [he0] at hkl; simp at hkl
        have st1 := sto_ownN hg hkl (kill1 x)
        rw [hst2] at st1
        have eb : bid (.sl j 0 (killL l (ds.take i)).length cap ndC.sz) = j := rfl
        have eo : boff (.sl j 0 (killL l (ds.take i)).length cap ndC.sz) = 0 := rfl
        rw [eb, eo, Nat.zero_add] at c1 i2
        rw [eb] at c4
        have hjl := St.get_lt hg
        simp (config := {contextual := true, maxDischargeDepth := 12}) only [tb_at, he, e20, e21, e22, e6, hlt, hw2, a1, a4, i1, qf, c1, i2, qk, st1, notV_bool, Bool.not_true, ↓bD, bU, forall_const, bS, implies_true, isNx, eq_self, ↓wp_cond, ↓wp_loop, ↓reduceIte, reduceCtorEq, Nat.reduceEqDiff, Nat.reduceLT, Nat.reduceAdd, Nat.reduceMul, bT, ↓sg_bsl, ↓st_callf, bX, List.cons_append, List.nil_append, ↓st_appf, bY, slcV_nils0N, slcV_sl0N, bslV_0N, bin_shr1, bsl_nd]
        refine ⟨n - 1, by omega, ?_⟩
        rw [hI]
        exact ⟨hKb.put _ hj0 hjl, i + 1, by omega, (by simp only [bE, Nat.reduceEqDiff, bN, Nat.reduceLT, he, e20, e21, e22, e6]; try rfl), (by simp only [bE, Nat.reduceEqDiff, bN, Nat.reduceLT, he, e20, e21, e22, e6]; try rfl), (by simp only [bE, Nat.reduceEqDiff, bN, Nat.reduceLT, he, e20, e21, e22, e6]; try rfl), (by simp only [bE, Nat.reduceEqDiff, bN, Nat.reduceLT, he, e20, e21, e22, e6]; try rfl), (by simp only [bE, Nat.reduceEqDiff, bN, Nat.reduceLT, he, e20, e21, e22, e6]; try rfl), .inr ⟨j, cap, by rw [killL_len, killL_len], hj0, St.get_put_same hg⟩, pre_next (P := fun k y => hasN l y = true) hx hp1 hh⟩
    · obtain rfl : i = ds.length := by omega
      rw [List.take_length] at hN
      have hP := killP_yes hp1
      simp (config := {contextual := true, maxDischargeDepth := 12}) only [tb_at, he, e20, e21, e22, e6, hlt, hS, hP, ↓bD, bU, forall_const, bS, implies_true, isNx, eq_self, ↓wp_cond, ↓wp_loop, ↓reduceIte, reduceCtorEq, Nat.reduceEqDiff, Nat.reduceLT, Nat.reduceAdd, Nat.reduceMul, bT, ↓sg_bsl, ↓st_callf, bX, List.cons_append, List.nil_append, ↓st_appf, bY, slcV_nils0N, slcV_sl0N, bslV_0N, bin_shr1, bsl_nd]
      first | exact ⟨_, rfl, ⟨_, rfl, hN⟩, hK⟩ | exact ⟨⟨_, rfl, hN⟩, hK⟩ | skip
  · have hS : killS l ds = ([], 2) := by unfold killS; rw [if_neg hok]
    rw [hS]
    cases hst : storeL l
    · rw [hst] at q1
      simp (config := {contextual := true, maxDischargeDepth := 12}) only [tb_at, h0, h1, hlen, q1, notV_bool, Bool.not_false, ↓bD, bU, forall_const, bS, implies_true, isNx, eq_self, ↓wp_cond, ↓wp_loop, ↓reduceIte, reduceCtorEq, Nat.reduceEqDiff, Nat.reduceLT, Nat.reduceAdd, Nat.reduceMul, bT, ↓sg_bsl, ↓st_callf, bX, List.cons_append, List.nil_append, ↓st_appf, bY, slcV_nils0N, slcV_sl0N, bslV_0N, bin_shr1, bsl_nd]
      all_goals first | exact ⟨_, rfl, ⟨_, rfl, .nil _ _ _⟩, hKb⟩ | exact ⟨_, rfl, ⟨_, rfl, .nil _ _ _⟩, .refl _⟩ | exact ⟨_, rfl, ⟨_, rfl, .nil _ _ _⟩⟩ | exact ⟨_, rfl, _, rfl, .nil _ _ _⟩ | exact ⟨_, rfl, .nil _ _ _⟩ | exact ⟨⟨_, rfl, .nil _ _ _⟩, .refl _⟩ | exact ⟨_, ⟨rfl, rfl⟩, .nil _ _ _⟩ | skip
    · have hdv : ds.all Dot.valid = false := by
        cases h : ds.all Dot.valid
        · rfl
        · exact absurd ⟨hst, h⟩ hok
      rw [hst] at q1
      rw [hdv] at q2 q2'
      simp (config := {contextual := true, maxDischargeDepth := 12}) only [tb_at, h0, h1, hlen, q1, q2, q2', notV_bool, Bool.not_true, Bool.not_false, ↓bD, bU, forall_const, bS, implies_true, isNx, eq_self, ↓wp_cond, ↓wp_loop, ↓reduceIte, reduceCtorEq, Nat.reduceEqDiff, Nat.reduceLT, Nat.reduceAdd, Nat.reduceMul, bT, ↓sg_bsl, ↓st_callf, bX, List.cons_append, List.nil_append, ↓st_appf, bY, slcV_nils0N, slcV_sl0N, bslV_0N, bin_shr1, bsl_nd]
      all_goals first | exact ⟨_, rfl, ⟨_, rfl, .nil _ _ _⟩, hKb⟩ | exact ⟨_, rfl, ⟨_, rfl, .nil _ _ _⟩, .refl _⟩ | exact ⟨_, rfl, ⟨_, rfl, .nil _ _ _⟩⟩ | exact ⟨_, rfl, _, rfl, .nil _ _ _⟩ | exact ⟨_, rfl, .nil _ _ _⟩ | exact ⟨⟨_, rfl, .nil _ _ _⟩, .refl _⟩ | exact ⟨_, ⟨rfl, rfl⟩, .nil _ _ _⟩ | skip
theorem q_SKill {s : St} {vl : AV} {l : List Nd} (hr : read ndC s vl = some l) (hl : l.length ≤ 200000) {vd : AV} {ds : List Dot} (hrd : read dotC s vd = some ds) (hld : ds.length ≤ 200000) : ∃ w t, acall R_SKill false [vl, vd] s = some (.tup [w, .int .i64 (killS l ds).2], t) ∧ NewX ndC s t w (killS l ds).1 ∧ Keep s t := by
  obtain ⟨r, t, h1, ⟨w, rfl, h2⟩, h3⟩ := run_any n_SKill (args := [vl, vd]) (s := s) (by simp [a37]) (Q := fun r t => ∃ w, r = .tup [w, .int .i64 (killS l ds).2] ∧ NewX ndC s t w (killS l ds).1) (fun r t t' hg hn hq => by
    obtain ⟨w, e, h⟩ := hq
    exact ⟨w, e, h.mono fun id b hb => by rw [hg]; exact hb⟩) (fun r t hgr hk hq => by
    obtain ⟨w, rfl, h⟩ := hq
    rcases h with ⟨rfl, e⟩ | ⟨j, cap, rfl, h1, h2⟩
    · rw [e]
      exact ⟨_, rfl, .nil _ _ _⟩
    · simp [AV.ground, AV.plains, AV.plain] at hgr) (w_SKill (s := lowd s) (read_low' hr) hl (read_low' hrd) hld)
  exact ⟨w, t, h1, h2, h3⟩

end Go.AM
end
/-
  dot.Set of a list without repeats: a new list of its own. Own work of this project; in part printed by a program of it.
-/
section
set_option linter.unusedVariables false
set_option linter.unusedSimpArgs false
set_option maxRecDepth 100000
set_option maxHeartbeats 8000000
namespace Go.AM
open Go Go.Proofs

variable {s t u : St}

theorem app_cloneO {v : AV} {l : List Dot} (hr : read dotC s v = some l) (hl : l.length ≤ lim) (h0 : l ≠ []) : ∃ v' t, appV (s.push (.row [] true)) 2 16 (.sl s.next 0 0 (some 0) 2) v = some (v', t) ∧ Own dotC s t v' l ∧ Keep s t := by
  have hK : Keep s (s.push (.row [] true)) := (Keep.refl s).push _
  have hr1 := hK.read hr
  have h2 : dotC.sz = 2 := rfl
  have h0' : l.length ≠ 0 := fun h => h0 (List.length_eq_zero_iff.1 h)
  simp only [appV]
  rw [← h2, read_shown hr1, read_len hr1]
  simp only [aappend, if_true, St.get_push_new]
  rw [if_neg h0', if_pos ⟨by simp, by unfold lim at hl; unfold roomBytes; omega⟩, if_neg (by omega)]
  refine ⟨_, _, rfl, .inr ⟨_, by rw [Nat.zero_add], h0, hK.next, ?_⟩, hK.push _⟩
  rw [St.get_push_new]
  simp
theorem w_SClDo {s : St} {v : AV} {l : List Dot} (hr : read dotC s v = some l) (hl : l.length ≤ lim) (hne : v = .nils ∨ l ≠ []) : ∀ env : Env, elen env = a96.ntmps → (∀ i x_, [v][i]? = some x_ → E env i = x_) → awp (tb []) a96.body (fun x e t => (∀ i, x ≠ .exit i) ∧ ∃ r, aresults e t a96.results = some r ∧ Own dotC s t r l ∧ Keep s t) env s := by
  intro env hlen ha
  have h0 : E env 0 = _ := ha 0 _ rfl
  have hlen : elen env = _ := hlen
  simp only [a96] at hlen
  unfold a96
  try dsimp only [oO, oG]
  cases v with
  | nils =>
    rw [read_nils] at hr
    injection hr with hr
    subst hr
    simp (config := {contextual := true, maxDischargeDepth := 12}) only [tb_at, h0, hlen, ↓bD, bU, forall_const, bS, implies_true, isNx, eq_self, ↓wp_cond, ↓wp_loop, ↓reduceIte, reduceCtorEq, Nat.reduceEqDiff, Nat.reduceLT, Nat.reduceAdd, Nat.reduceMul, bT, ↓sg_bsl, ↓st_callf, bX, List.cons_append, List.nil_append, ↓st_appf, bY, slcV_nils0N, slcV_sl0N, bslV_0N, bin_shr1, bsl_nd]
    first | exact ⟨_, rfl, .nil _ _ _, .refl s⟩ | exact ⟨_, rfl, .nil _ _ _⟩ | exact ⟨.nil _ _ _, .refl s⟩ | exact .nil _ _ _
  | sl id off n cap z =>
    obtain ⟨v', t, hap, hN, hK⟩ := app_cloneO hr hl (hne.resolve_left (by simp))
    simp (config := {contextual := true, maxDischargeDepth := 12}) only [tb_at, h0, hlen, hap, ↓bD, bU, forall_const, bS, implies_true, isNx, eq_self, ↓wp_cond, ↓wp_loop, ↓reduceIte, reduceCtorEq, Nat.reduceEqDiff, Nat.reduceLT, Nat.reduceAdd, Nat.reduceMul, bT, ↓sg_bsl, ↓st_callf, bX, List.cons_append, List.nil_append, ↓st_appf, bY, slcV_nils0N, slcV_sl0N, bslV_0N, bin_shr1, bsl_nd]
    exact ⟨_, rfl, hN, hK⟩
  | _ => simp [read] at hr
theorem q_SClDo {s : St} {v : AV} {l : List Dot} (hr : read dotC s v = some l) (hl : l.length ≤ lim) (hne : v = .nils ∨ l ≠ []) : ∃ v' t, acall R_SClD false [v] s = some (v', t) ∧ Own dotC s t v' l ∧ Keep s t :=
  run_any n_SClD (by simp [a96]) (fun r t t' hg hn hq => hq.mono fun id b hb => by rw [hg]; exact hb) (fun r t hgr hk hq => by obtain ⟨rfl, rfl⟩ := hq.ground hgr; exact .nil _ _ _) (w_SClDo (s := lowd s) (read_low' hr) hl hne)
theorem w_CompDn {s : St} {s0 : St} {v : AV} {l : List Dot} (hN : NewX dotC s0 s v l) (hl : l.length ≤ lim) (hnd : l.Nodup) : ∀ env : Env, elen env = a98.ntmps → (∀ i x_, [v][i]? = some x_ → E env i = x_) → awp (tb []) a98.body (fun x e t => (∀ i, x ≠ .exit i) ∧ ∃ r, aresults e t a98.results = some r ∧ r = v ∧ Keep s t) env s := by
  intro env hlen ha
  have h0 : E env 0 = _ := ha 0 _ rfl
  have hlen : elen env = _ := hlen
  simp only [a98] at hlen
  unfold a98
  try dsimp only [oO, oG]
  rcases hN with ⟨rfl, rfl⟩ | ⟨j, cap, rfl, hj0, hg⟩
  · have hz : ((0 : Int) < 2) = True := eq_true (by decide)
    simp (config := {contextual := true, maxDischargeDepth := 12}) only [tb_at, h0, hlen, lenV_nils, hz, ↓bD, bU, forall_const, bS, implies_true, isNx, eq_self, ↓wp_cond, ↓wp_loop, ↓reduceIte, reduceCtorEq, Nat.reduceEqDiff, Nat.reduceLT, Nat.reduceAdd, Nat.reduceMul, bT, ↓sg_bsl, ↓st_callf, bX, List.cons_append, List.nil_append, ↓st_appf, bY, slcV_nils0N, slcV_sl0N, bslV_0N, bin_shr1, bsl_nd]
    all_goals first | exact ⟨_, rfl, rfl, .refl s⟩ | exact ⟨_, rfl, rfl⟩ | exact .refl s | trivial | skip
  have h2 : dotC.sz = 2 := rfl
  rw [h2] at h0
  by_cases hlen2 : l.length < 2
  · have hz := eq_true (show (l.length : Int) < 2 by omega)
    simp (config := {contextual := true, maxDischargeDepth := 12}) only [tb_at, h0, hlen, lenV_sl, hz, h2, ↓bD, bU, forall_const, bS, implies_true, isNx, eq_self, ↓wp_cond, ↓wp_loop, ↓reduceIte, reduceCtorEq, Nat.reduceEqDiff, Nat.reduceLT, Nat.reduceAdd, Nat.reduceMul, bT, ↓sg_bsl, ↓st_callf, bX, List.cons_append, List.nil_append, ↓st_appf, bY, slcV_nils0N, slcV_sl0N, bslV_0N, bin_shr1, bsl_nd]
    all_goals first | exact ⟨_, rfl, rfl, .refl s⟩ | exact ⟨_, rfl, rfl⟩ | exact .refl s | trivial | skip
  · have hz := eq_false (show ¬ (l.length : Int) < 2 by omega)
    simp (config := {contextual := true, maxDischargeDepth := 12}) only [tb_at, h0, hlen, lenV_sl, hz, ↓bD, bU, forall_const, bS, implies_true, isNx, eq_self, ↓wp_cond, ↓wp_loop, ↓reduceIte, reduceCtorEq, Nat.reduceEqDiff, Nat.reduceLT, Nat.reduceAdd, Nat.reduceMul, bT, ↓sg_bsl, ↓st_callf, bX, List.cons_append, List.nil_append, ↓st_appf, bY, slcV_nils0N, slcV_sl0N, bslV_0N, bin_shr1, bsl_nd]
    obtain ⟨I, hI⟩ : ∃ I : Nat → Env → St → Prop, ∀ n e t, I n e t = (t = s ∧ ∃ i : Nat, n + i = l.length ∧ elen e = 61 ∧ E e 0 = .sl j 0 l.length cap 2 ∧ E e 3 = .int .i64 ((i + 1 : Nat) : Int)) := ⟨fun n e t => (t = s ∧ ∃ i : Nat, n + i = l.length ∧ elen e = 61 ∧ E e 0 = .sl j 0 l.length cap 2 ∧ E e 3 = .int .i64 ((i + 1 : Nat) : Int)), fun _ _ _ => rfl⟩
    refine lwp_inv I (n := l.length) ?_ ?_
    · rw [hI]
      exact ⟨rfl, 0, by omega, (by simp only [bE, Nat.reduceEqDiff, bN, Nat.reduceLT, hlen]; try rfl), (by simp only [bE, Nat.reduceEqDiff, bN, Nat.reduceLT, hlen, h0]; try rfl), (by simp only [bE, Nat.reduceEqDiff, bN, Nat.reduceLT, hlen]; try rfl)⟩
    intro n e t hi
    rw [hI] at hi
    obtain ⟨hK, i, hni, he, e0, e3⟩ := hi
    have hK := hK.symm
    subst hK
    by_cases hlt : i + 1 < l.length
    · obtain ⟨x, hx⟩ := getsome (l := l) (i := i) (by omega)
      obtain ⟨y, hy⟩ := getsome hlt
      have hw1 := wrap_sub1 (n := i) (by unfold lim at hl; omega)
      have hw2 := wrap_add1 (n := i + 1) (by unfold lim at hl; omega)
      have i1 := iad_own (j := j) (cap := cap) 0 (show i < l.length by omega)
      have i2 := iad_own (j := j) (cap := cap) 0 hlt
      rw [Nat.zero_add] at i1 i2
      have a1 := lod_own hg hx
      have b1 := lod_own hg hy
      have hp : y ≠ x := by
        intro e
        obtain ⟨p1, q1⟩ := List.getElem?_eq_some_iff.1 hx
        obtain ⟨p2, q2⟩ := List.getElem?_eq_some_iff.1 hy
        have := (List.getElem_inj hnd).1 (q2.trans (e.trans q1.symm))
        omega
      have hzz := eq_false hp
      simp (config := {contextual := true, maxDischargeDepth := 12}) only [tb_at, he, e0, e3, lenV_sl, hlt, hw1, hw2, i1, i2, a1, b1, hzz, reserve0, ↓bD, bU, forall_const, bS, implies_true, isNx, eq_self, ↓wp_cond, ↓wp_loop, ↓reduceIte, reduceCtorEq, Nat.reduceEqDiff, Nat.reduceLT, Nat.reduceAdd, Nat.reduceMul, bT, ↓sg_bsl, ↓st_callf, bX, List.cons_append, List.nil_append, ↓st_appf, bY, slcV_nils0N, slcV_sl0N, bslV_0N, bin_shr1, bsl_nd]
      refine ⟨n - 1, by omega, ?_⟩
      rw [hI]
      exact ⟨rfl, i + 1, by omega, (by simp only [bE, Nat.reduceEqDiff, bN, Nat.reduceLT, he, e0, e3]; try rfl), (by simp only [bE, Nat.reduceEqDiff, bN, Nat.reduceLT, he, e0, e3]; try rfl), (by simp only [bE, Nat.reduceEqDiff, bN, Nat.reduceLT, he, e0, e3]; try rfl)⟩
    · have hlt' := hlt
      simp (config := {contextual := true, maxDischargeDepth := 12}) only [tb_at, he, e0, e3, lenV_sl, hlt, h2, ↓bD, bU, forall_const, bS, implies_true, isNx, eq_self, ↓wp_cond, ↓wp_loop, ↓reduceIte, reduceCtorEq, Nat.reduceEqDiff, Nat.reduceLT, Nat.reduceAdd, Nat.reduceMul, bT, ↓sg_bsl, ↓st_callf, bX, List.cons_append, List.nil_append, ↓st_appf, bY, slcV_nils0N, slcV_sl0N, bslV_0N, bin_shr1, bsl_nd]
      all_goals first | exact ⟨_, rfl, rfl, .refl s⟩ | exact ⟨_, rfl, rfl⟩ | exact .refl s | trivial | skip
theorem q_CompDn {s : St} {s0 : St} {v : AV} {l : List Dot} (hN : NewX dotC s0 s v l) (hl : l.length ≤ lim) (hnd : l.Nodup) : ∃ t, acall R_CompD false [v] s = some (v, t) ∧ Keep s t := by
  obtain ⟨r, t, h1, rfl, h3⟩ := run_any n_CompD (args := [v]) (s := s) (by simp [a98]) (Q := fun r t => r = v) (fun r t t' hg hn hq => hq) (fun r t hgr hk hq => hq) (w_CompDn (s := lowd s) (hN.mono fun _ _ h => h) hl hnd)
  exact ⟨t, h1, h3⟩
theorem w_DSeto {s : St} {v : AV} {l : List Dot} (hr : read dotC s v = some l) (hl : l.length ≤ lim) (hne : v = .nils ∨ l ≠ []) (hnd : l.Nodup) : ∀ env : Env, elen env = a78.ntmps → (∀ i x_, [v][i]? = some x_ → E env i = x_) → awp (tb [(96, R_SClD), (97, R_SSortD), (98, R_CompD)]) a78.body (fun x e t => (∀ i, x ≠ .exit i) ∧ ∃ r, aresults e t a78.results = some r ∧ Own dotC s t r (setL l) ∧ Keep s t) env s := by
  intro env hlen ha
  have h0 : E env 0 = _ := ha 0 _ rfl
  have hlen : elen env = _ := hlen
  simp only [a78] at hlen
  unfold a78
  try dsimp only [oO, oG]
  obtain ⟨v1, t1, q1, hO1, hK1⟩ := q_SClDo hr hl hne
  obtain ⟨t2, q2, hN2, hC2⟩ := q_SSortD hO1.newX hl
  have hnd2 : (sortD l).Nodup := (sortD_perm l).nodup_iff.2 hnd
  obtain ⟨t3, q3, hK3⟩ := q_CompDn hN2 (by rw [sortD_len]; exact hl) hnd2
  have hO2 := own_of_new hO1 hN2 (sortD_len l)
  have he : sortD l = setL l := by
    rw [← dedup_sort]
    have := dedup_chain (l := sortD l) (fun k x y hk hx hy e => by
      obtain ⟨p1, q1⟩ := List.getElem?_eq_some_iff.1 hx
      obtain ⟨p2, q2⟩ := List.getElem?_eq_some_iff.1 hy
      have := (List.getElem_inj hnd2).1 (q1.trans (e.trans q2.symm))
      omega) (sortD l).length (Nat.le_refl _)
    rw [List.take_length] at this
    exact this.symm
  rw [he] at hO2
  have hK2 := hK1.chgn hC2 (newX_vids hO1.newX)
  have hO3 : Own dotC s t3 v1 (setL l) := hO2.mono fun id b hb => hK3.blk hb
  simp (config := {contextual := true, maxDischargeDepth := 12}) only [tb_at, h0, hlen, q1, q2, q3, ↓bD, bU, forall_const, bS, implies_true, isNx, eq_self, ↓wp_cond, ↓wp_loop, ↓reduceIte, reduceCtorEq, Nat.reduceEqDiff, Nat.reduceLT, Nat.reduceAdd, Nat.reduceMul, bT, ↓sg_bsl, ↓st_callf, bX, List.cons_append, List.nil_append, ↓st_appf, bY, slcV_nils0N, slcV_sl0N, bslV_0N, bin_shr1, bsl_nd]
  exact ⟨_, rfl, hO3, hK2.trans hK3⟩
theorem q_DSeto {s : St} {v : AV} {l : List Dot} (hr : read dotC s v = some l) (hl : l.length ≤ lim) (hne : v = .nils ∨ l ≠ []) (hnd : l.Nodup) : ∃ w t, acall R_DSet false [v] s = some (w, t) ∧ Own dotC s t w (setL l) ∧ Keep s t :=
  run_any n_DSet (by simp [a78]) (fun r t t' hg hn hq => hq.mono fun id b hb => by rw [hg]; exact hb) (fun r t hgr hk hq => by
    obtain ⟨rfl, h⟩ := hq.ground hgr
    rw [h]
    exact .nil _ _ _) (w_DSeto (s := lowd s) (read_low' hr) hl hne hnd)

end Go.AM
end
/-
  Maps from dots to true; store.Lacking. Own work of this project; in part printed by a program of it.
-/
section
set_option linter.unusedVariables false
set_option linter.unusedSimpArgs false
set_option maxRecDepth 100000
set_option maxHeartbeats 8000000
namespace Go.AM
open Go Go.Proofs

variable {s t u : St}
theorem whole_tt : (AV.bool true).whole = true := rfl
def entsB : Nat → List Dot → List (AV × AV × Nat)
  | _, [] => []
  | k, x :: r => (.agg (Dot.av x), .bool true, k) :: entsB (k + 1) r
def mapB (l : List Dot) : AB := .map (entsB 0 l) l.length
def lookB : List Dot → Dot → Option (Nat × Dot)
  | [], _ => none
  | x :: r, d => if x = d then some (0, x) else (lookB r d).map fun p => (p.1 + 1, p.2)
def updB (l : List Dot) (x : Dot) : List Dot := match lookB l x with
  | some (j, _) => l.set j x
  | none => l ++ [x]
theorem find_entsB : ∀ (l : List Dot) (d : Dot) (k i : Nat), findE (.fl [.i, .i]) (.agg (Dot.av d)) (entsB k l) i = some ((lookB l d).map fun p => (i + p.1, .bool true))
  | [], d, k, i => rfl
  | x :: r, d, k, i => by
    simp only [entsB, findE, eqK_dot, lookB]
    by_cases h : x = d
    · simp [h]
    · simp only [h, decide_false, if_false]
      rw [find_entsB r d (k + 1) (i + 1)]
      cases lookB r d <;> simp [Nat.add_comm, Nat.add_left_comm]
theorem lookB_some : ∀ {l : List Dot} {d : Dot} {j : Nat} {x : Dot}, lookB l d = some (j, x) → l[j]? = some x ∧ x = d
  | [], d, j, x, h => by simp [lookB] at h
  | y :: r, d, j, x, h => by
    simp only [lookB] at h
    split at h
    · injection h with h
      obtain ⟨rfl, rfl⟩ := Prod.mk.inj h
      exact ⟨rfl, by assumption⟩
    · obtain ⟨p, hp, h⟩ := Option.map_eq_some_iff.1 h
      obtain ⟨rfl, rfl⟩ := Prod.mk.inj h
      obtain ⟨h1, h2⟩ := lookB_some (l := r) (j := p.1) (x := p.2) hp
      exact ⟨by simpa using h1, h2⟩
theorem lookB_none : ∀ {l : List Dot} {d : Dot}, lookB l d = none → ∀ x ∈ l, x ≠ d
  | [], d, _ => by simp
  | y :: r, d, h => by
    simp only [lookB] at h
    split at h
    · cases h
    · rename_i e
      have := lookB_none (l := r) (d := d) (by simpa using h)
      intro x hx
      rcases List.mem_cons.1 hx with rfl | hx
      · exact e
      · exact this x hx
theorem entsB_get : ∀ (l : List Dot) (k j : Nat), (entsB k l)[j]? = (l[j]?).map fun x => (.agg (Dot.av x), .bool true, k + j)
  | [], k, j => by simp [entsB]
  | x :: r, k, 0 => rfl
  | x :: r, k, j + 1 => by
    simp only [entsB, List.getElem?_cons_succ, entsB_get r (k + 1) j]
    rw [show k + 1 + j = k + (j + 1) by omega]
theorem entsB_append : ∀ (l m : List Dot) (k : Nat), entsB k (l ++ m) = entsB k l ++ entsB (k + l.length) m
  | [], m, k => by simp [entsB]
  | x :: r, m, k => by
    simp only [List.cons_append, entsB, entsB_append r m (k + 1), List.length_cons]
    rw [show k + 1 + r.length = k + (r.length + 1) by omega]
theorem entsB_set : ∀ (l : List Dot) (k j : Nat) (x : Dot), entsB k (l.set j x) = (entsB k l).set j (.agg (Dot.av x), .bool true, k + j)
  | [], k, j, x => by simp [entsB]
  | y :: r, k, 0, x => by simp [entsB]
  | y :: r, k, j + 1, x => by
    simp only [List.set_cons_succ, entsB, entsB_set r (k + 1) j x]
    rw [show k + 1 + j = k + (j + 1) by omega]
theorem msetB_map {l : List Dot} {id : Nat} (hg : s.get id = some (mapB l)) (x : Dot) : msetV s (.fl [.i, .i]) (.mp id) (.agg (Dot.av x)) (.bool true) = some (.und, s.put id (mapB (updB l x))) := by
  simp only [msetV, key_dot, whole_tt, Bool.and_self, if_true, hg, mapB, find_entsB, updB]
  cases h : lookB l x with
  | none =>
    simp only [Option.map_none, entsB_append, entsB, List.length_append, List.length_singleton, Nat.zero_add]
  | some p =>
    obtain ⟨j, y⟩ := p
    obtain ⟨h1, h2⟩ := lookB_some h
    simp only [Option.map_some, Nat.zero_add, entsB_get, h1, entsB_set, List.length_set]
theorem rngB_map {l : List Dot} {id : Nat} (hg : s.get id = some (mapB l)) : rngV s (.mp id) = some (.ptr s.next 0, s.push (.iter (some id) l.length [] l.length)) := by
  simp only [rngV, hg, mapB]
theorem nextB_map {l : List Dot} {id p : Nat} {seen : List Nat} {K : AV → St → Prop} (hg : s.get id = some (mapB l)) (hp : s.get p = some (.iter (some id) l.length seen l.length))
    (h1 : (∀ i, i < l.length → i ∈ seen) → K (.tup [.bool false]) s) (h2 : ∀ i x, l[i]? = some x → i ∉ seen → K (.tup [.bool true, .agg (Dot.av x), .bool true]) (s.put p (.iter (some id) l.length (seen ++ [i]) l.length))) : anext (.ptr p 0) s K := by
  simp only [anext, hp, hg, mapB]
  have hm : ∀ e ∈ entsB 0 l, ∃ i x, l[i]? = some x ∧ e = (.agg (Dot.av x), .bool true, i) := by
    intro e he
    obtain ⟨i, hi⟩ := List.getElem?_of_mem he
    rw [entsB_get] at hi
    obtain ⟨x, hx, rfl⟩ := Option.map_eq_some_iff.1 hi
    exact ⟨i, x, hx, by simp⟩
  refine ⟨fun e he => ?_, Nat.le_refl _, fun ha => h1 fun i hi => ?_, fun e he hs => ?_⟩
  · obtain ⟨i, x, hx, rfl⟩ := hm e he
    exact getlt hx
  · obtain ⟨x, hx⟩ := getsome hi
    have : (entsB 0 l)[i]? = some (.agg (Dot.av x), .bool true, 0 + i) := by rw [entsB_get, hx]; rfl
    have := ha _ (List.mem_of_getElem? this)
    simpa using this
  · obtain ⟨i, x, hx, rfl⟩ := hm e he
    exact h2 i x hx hs
theorem entB_map {l : List Dot} {id p : Nat} {seen : List Nat} {i : Nat} {x : Dot} (hg : s.get id = some (mapB l)) (hp : s.get p = some (.iter (some id) l.length (seen ++ [i]) l.length)) (hx : l[i]? = some x) : entV s (.ptr p 0) = some (.tup [.agg (Dot.av x), .bool true]) := by
  have key : ∀ (l : List Dot) (k i : Nat) (x : Dot), l[i]? = some x → (entsB k l).find? (fun e => e.2.2 == k + i) = some (.agg (Dot.av x), .bool true, k + i) := by
    intro l
    induction l with
    | nil => intro k i x h; simp at h
    | cons y r ih =>
      intro k i x h
      cases i with
      | zero => simp at h; subst h; simp [entsB]
      | succ i =>
        have e : k + (i + 1) = k + 1 + i := by omega
        rw [entsB, List.find?_cons_of_neg (by simp), e]
        exact ih (k + 1) i x (by simpa using h)
  have := key l 0 i x hx
  rw [Nat.zero_add] at this
  simp only [entV, hp, hg, mapB, List.getLast?_concat, if_true, this, Option.map_some]
theorem updB_mem {l : List Dot} {x y : Dot} : y ∈ updB l x ↔ y ∈ l ∨ y = x := by
  unfold updB
  cases h : lookB l x with
  | none => simp
  | some p =>
    obtain ⟨j, z⟩ := p
    obtain ⟨h1, rfl⟩ := lookB_some h
    have e : l.set j z = l := by
      apply List.ext_getElem?
      intro k
      rw [List.getElem?_set]
      split
      · rename_i e
        subst e
        rw [if_pos (getlt h1), h1]
      · rfl
    simp only [e]
    exact ⟨.inl, fun q => q.elim id fun q => q ▸ mem_at h1⟩
theorem updB_nodup {l : List Dot} {x : Dot} (h : l.Nodup) : (updB l x).Nodup := by
  unfold updB
  cases hl : lookB l x with
  | none =>
    rw [List.nodup_append]
    exact ⟨h, by simp, fun a ha b hb e => by
      rw [List.mem_singleton.1 hb] at e
      exact lookB_none hl a ha e⟩
  | some p =>
    obtain ⟨j, z⟩ := p
    obtain ⟨h1, rfl⟩ := lookB_some hl
    have e : l.set j z = l := by
      apply List.ext_getElem?
      intro k
      rw [List.getElem?_set]
      split
      · rename_i e
        subst e
        rw [if_pos (getlt h1), h1]
      · rfl
    simp only [e]
    exact h
theorem updB_len (l : List Dot) (x : Dot) : (updB l x).length ≤ l.length + 1 := by
  unfold updB
  split <;> simp
def mbstep (M : List Dot) (n : Nd) : List Dot := if n.p.root = true then M else updB M n.p
theorem bfold : ∀ (l : List Nd) (M : List Dot), M.Nodup → (l.foldl mbstep M).Nodup ∧ (l.foldl mbstep M).length ≤ M.length + l.length ∧ ∀ d, d ∈ l.foldl mbstep M ↔ d ∈ M ∨ ∃ n ∈ l, n.p.root = false ∧ n.p = d
  | [], M, h => ⟨h, by simp, fun d => by simp⟩
  | n :: l, M, h => by
    have hb : (mbstep M n).Nodup := by
      unfold mbstep
      split
      · exact h
      · exact updB_nodup h
    have hl : (mbstep M n).length ≤ M.length + 1 := by
      unfold mbstep
      split
      · omega
      · exact updB_len _ _
    obtain ⟨h1, h2, h3⟩ := bfold l (mbstep M n) hb
    refine ⟨h1, by simp only [List.foldl_cons, List.length_cons]; omega, fun d => ?_⟩
    rw [List.foldl_cons, h3]
    unfold mbstep
    cases hr : n.p.root
    · simp only [Bool.false_eq_true, if_false, updB_mem, List.mem_cons]
      constructor
      · rintro ((q | q) | ⟨m, q1, q2, q3⟩)
        · exact .inl q
        · exact .inr ⟨n, .inl rfl, hr, q.symm⟩
        · exact .inr ⟨m, .inr q1, q2, q3⟩
      · rintro (q | ⟨m, rfl | q1, q2, q3⟩)
        · exact .inl (.inl q)
        · exact .inl (.inr q3.symm)
        · exact .inr ⟨m, q1, q2, q3⟩
    · simp only [if_true, List.mem_cons]
      constructor
      · rintro (q | ⟨m, q1, q2, q3⟩)
        · exact .inl q
        · exact .inr ⟨m, .inr q1, q2, q3⟩
      · rintro (q | ⟨m, rfl | q1, q2, q3⟩)
        · exact .inl q
        · rw [hr] at q2; cases q2
        · exact .inr ⟨m, q1, q2, q3⟩
/-- The parents that are not there. -/
def lackL (l : List Nd) : List Dot := setL (((l.filter fun n => !n.p.root).map Nd.p).filter fun d => !hasN l d)
def lackP (l : List Nd) : List Dot × Int := if storeL l = true then (lackL l, 0) else ([], 2)
def gLack (l : List Nd) : Option (List Dot × Option AV) := some ((lackP l).1, some (.int .i64 (lackP l).2))
theorem s_SLack : SoundAt Tryz.prog 52 (conF dotC (pL ndC gLack)) :=
  con_fresh (tb_sound (l := [(31, conL ndC fValid), (82, conD fDotRoot), (69, R_Sfind), (78, R_DSet)]) (by simpa using ⟨s_StValid, s_DotRoot, s_Sfind, s_DSet⟩)) mixed Tryz.func52 k52 c52 fun args s r ee h => by
    obtain ⟨v, l, rfl, hr, hl, hp⟩ := pL_some h
    injection hp with hp
    obtain ⟨rfl, rfl⟩ := Prod.mk.inj hp
    refine ⟨fun x hx => by injection hx with hx; subst hx; rfl, by simp [a52], fun env hlen ha => ?_⟩
    have h0 : E env 0 = _ := ha 0 _ rfl
    have hlen : elen env = _ := hlen
    simp only [a52] at hlen
    unfold a52
    try dsimp only [oO, oG]
    unfold lim at hl
    have hL := lenV_read hr
    have q1 := q_StValid false hr (by unfold lim; omega)
    cases hst : storeL l
    · rw [hst] at q1
      have hS : lackP l = ([], 2) := by unfold lackP; rw [hst]; rfl
      rw [hS]
      simp (config := {contextual := true, maxDischargeDepth := 12}) only [tb_at, h0, hlen, q1, notV_bool, Bool.not_false, ↓bD, bU, forall_const, bS, implies_true, isNx, eq_self, ↓wp_cond, ↓wp_loop, ↓reduceIte, reduceCtorEq, Nat.reduceEqDiff, Nat.reduceLT, Nat.reduceAdd, Nat.reduceMul, bT, ↓sg_bsl, ↓st_callf, bX, List.cons_append, List.nil_append, ↓st_appf, bY, slcV_nils0N, slcV_sl0N, bslV_0N, bin_shr1, bsl_nd]
      all_goals first | exact ⟨.refl _, _, rfl, .nil _ _ _⟩ | exact ⟨_, rfl, .nil _ _ _⟩ | skip
    · rw [hst] at q1
      have hs := store_sorted hst
      have hS : lackP l = (lackL l, 0) := by unfold lackP; rw [hst]; rfl
      rw [hS]
      simp (config := {contextual := true, maxDischargeDepth := 12}) only [tb_at, h0, hlen, q1, hL, notV_bool, Bool.not_true, ↓bD, bU, forall_const, bS, implies_true, isNx, eq_self, ↓wp_cond, ↓wp_loop, ↓reduceIte, reduceCtorEq, Nat.reduceEqDiff, Nat.reduceLT, Nat.reduceAdd, Nat.reduceMul, bT, ↓sg_bsl, ↓st_callf, bX, List.cons_append, List.nil_append, ↓st_appf, bY, slcV_nils0N, slcV_sl0N, bslV_0N, bin_shr1, bsl_nd]
      obtain ⟨I, hI⟩ : ∃ I : Nat → Env → St → Prop, ∀ n e t, I n e t = (Keep s t ∧ ∃ i : Nat, n + i = l.length ∧ elen e = 49 ∧ E e 0 = v ∧ E e 4 = .mp s.next ∧ E e 15 = v ∧ E e 16 = .int .i64 (l.length : Int) ∧ E e 17 = .int .i64 (i : Int) ∧ t.get s.next = some (mapB ((l.take i).foldl mbstep []))) := ⟨fun n e t => (Keep s t ∧ ∃ i : Nat, n + i = l.length ∧ elen e = 49 ∧ E e 0 = v ∧ E e 4 = .mp s.next ∧ E e 15 = v ∧ E e 16 = .int .i64 (l.length : Int) ∧ E e 17 = .int .i64 (i : Int) ∧ t.get s.next = some (mapB ((l.take i).foldl mbstep []))), fun _ _ _ => rfl⟩
      refine lwp_inv I (n := l.length) ?_ ?_
      · rw [hI]
        exact ⟨(Keep.refl s).push _, 0, by omega, (by simp only [bE, Nat.reduceEqDiff, bN, Nat.reduceLT, hlen]; try rfl), (by simp only [bE, Nat.reduceEqDiff, bN, Nat.reduceLT, hlen, h0]; try rfl), (by simp only [bE, Nat.reduceEqDiff, bN, Nat.reduceLT, hlen]; try rfl), (by simp only [bE, Nat.reduceEqDiff, bN, Nat.reduceLT, hlen, h0]; try rfl), (by simp only [bE, Nat.reduceEqDiff, bN, Nat.reduceLT, hlen, hL]; try rfl), (by simp only [bE, Nat.reduceEqDiff, bN, Nat.reduceLT, hlen]; try rfl), by rw [List.take_zero]; exact St.get_push_new s _⟩
      clear h0 hlen q1
      intro n e t hi
      rw [hI] at hi
      obtain ⟨hK, i, hni, he, e0, e4, e15, e16, e17, gM⟩ := hi
      obtain ⟨m1, m2, m3⟩ := bfold (l.take i) [] .nil
      generalize hMM : (l.take i).foldl mbstep [] = M at gM m1 m2 m3
      have lM := lt_of_get gM
      by_cases hlt : i < l.length
      · obtain ⟨x, hx⟩ := getsome hlt
        have hw2 := wrap_add1 (n := i) (by omega)
        obtain ⟨a1, a2, a3, a5, a6, a4⟩ := nd_lods hr hK hx
        have i1 := nd_idx hr hx .i64
        have hsn : (l.take (i + 1)).foldl mbstep [] = mbstep M x := by rw [take_snoc hx, List.foldl_append, hMM]; rfl
        have qr : ∀ u : St, acall (conD fDotRoot) false [.agg (Dot.av x.p)] u = some (.bool x.p.root, u) := fun u => q_DotRoot false x.p u
        cases hrt : x.p.root
        · rw [hrt] at qr
          have hst2 := msetB_map gM x.p
          have hb2 : mbstep M x = updB M x.p := by unfold mbstep; rw [hrt]; rfl
          simp (config := {contextual := true, maxDischargeDepth := 12}) only [tb_at, he, e0, e4, e15, e16, e17, hL, hlt, hw2, a1, a4, i1, qr, hst2, lM, notV_bool, Bool.not_false, ↓bD, bU, forall_const, bS, implies_true, isNx, eq_self, ↓wp_cond, ↓wp_loop, ↓reduceIte, reduceCtorEq, Nat.reduceEqDiff, Nat.reduceLT, Nat.reduceAdd, Nat.reduceMul, bT, ↓sg_bsl, ↓st_callf, bX, List.cons_append, List.nil_append, ↓st_appf, bY, slcV_nils0N, slcV_sl0N, bslV_0N, bin_shr1, bsl_nd]
          refine ⟨n - 1, by omega, ?_⟩
          rw [hI]
          refine ⟨((hK.put _ (Nat.le_refl _) lM).lowed).push _, i + 1, by omega, (by simp only [bE, Nat.reduceEqDiff, bN, Nat.reduceLT, he, e0, e4, e15, e16, e17]; try rfl), (by simp only [bE, Nat.reduceEqDiff, bN, Nat.reduceLT, he, e0, e4, e15, e16, e17]; try rfl), (by simp only [bE, Nat.reduceEqDiff, bN, Nat.reduceLT, he, e0, e4, e15, e16, e17]; try rfl), (by simp only [bE, Nat.reduceEqDiff, bN, Nat.reduceLT, he, e0, e4, e15, e16, e17]; try rfl), (by simp only [bE, Nat.reduceEqDiff, bN, Nat.reduceLT, he, e0, e4, e15, e16, e17]; try rfl), (by simp only [bE, Nat.reduceEqDiff, bN, Nat.reduceLT, he, e0, e4, e15, e16, e17]; try rfl), ?_⟩
          rw [hsn, hb2]
          exact get_push_some _ (St.get_put_same gM)
        · rw [hrt] at qr
          have hb2 : mbstep M x = M := by unfold mbstep; rw [hrt]; rfl
          simp (config := {contextual := true, maxDischargeDepth := 12}) only [tb_at, he, e0, e4, e15, e16, e17, hL, hlt, hw2, a1, a4, i1, qr, lM, notV_bool, Bool.not_true, ↓bD, bU, forall_const, bS, implies_true, isNx, eq_self, ↓wp_cond, ↓wp_loop, ↓reduceIte, reduceCtorEq, Nat.reduceEqDiff, Nat.reduceLT, Nat.reduceAdd, Nat.reduceMul, bT, ↓sg_bsl, ↓st_callf, bX, List.cons_append, List.nil_append, ↓st_appf, bY, slcV_nils0N, slcV_sl0N, bslV_0N, bin_shr1, bsl_nd]
          refine ⟨n - 1, by omega, ?_⟩
          rw [hI]
          refine ⟨hK.lowed.push _, i + 1, by omega, (by simp only [bE, Nat.reduceEqDiff, bN, Nat.reduceLT, he, e0, e4, e15, e16, e17]; try rfl), (by simp only [bE, Nat.reduceEqDiff, bN, Nat.reduceLT, he, e0, e4, e15, e16, e17]; try rfl), (by simp only [bE, Nat.reduceEqDiff, bN, Nat.reduceLT, he, e0, e4, e15, e16, e17]; try rfl), (by simp only [bE, Nat.reduceEqDiff, bN, Nat.reduceLT, he, e0, e4, e15, e16, e17]; try rfl), (by simp only [bE, Nat.reduceEqDiff, bN, Nat.reduceLT, he, e0, e4, e15, e16, e17]; try rfl), (by simp only [bE, Nat.reduceEqDiff, bN, Nat.reduceLT, he, e0, e4, e15, e16, e17]; try rfl), ?_⟩
          rw [hsn, hb2]
          exact get_push_some _ gM
      · obtain rfl : i = l.length := by omega
        rw [List.take_length] at hMM m2 m3
        have hrg := rngB_map gM
        have hgI : (t.push (.iter (some s.next) M.length [] M.length)).get t.next = some (.iter (some s.next) M.length [] M.length) := St.get_push_new _ _
        have hgM : (t.push (.iter (some s.next) M.length [] M.length)).get s.next = some (mapB M) := get_push_some _ gM
        simp (config := {contextual := true, maxDischargeDepth := 12}) only [tb_at, he, e0, e4, e15, e16, e17, hL, hlt, hrg, lM, ↓bD, bU, forall_const, bS, implies_true, isNx, eq_self, ↓wp_cond, ↓wp_loop, ↓reduceIte, reduceCtorEq, Nat.reduceEqDiff, Nat.reduceLT, Nat.reduceAdd, Nat.reduceMul, bT, ↓sg_bsl, ↓st_callf, bX, List.cons_append, List.nil_append, ↓st_appf, bY, slcV_nils0N, slcV_sl0N, bslV_0N, bin_shr1, bsl_nd]
        obtain ⟨I2, hI2⟩ : ∃ I : Nat → Env → St → Prop, ∀ n2 e2 t2, I n2 e2 t2 = (Keep s t2 ∧ ∃ (seen : List Nat) (vis : List Dot), n2 + seen.length = M.length ∧ elen e2 = 49 ∧ E e2 0 = v ∧ E e2 30 = .ptr t.next 0 ∧ t2.get s.next = some (mapB M) ∧ t2.get t.next = some (.iter (some s.next) M.length seen M.length) ∧ Own dotC s t2 (E e2 7) (vis.filter fun d => !hasN l d) ∧ seen.Nodup ∧ (∀ k ∈ seen, k < M.length) ∧ vis.map some = seen.map fun k => M[k]?) := ⟨fun n2 e2 t2 => (Keep s t2 ∧ ∃ (seen : List Nat) (vis : List Dot), n2 + seen.length = M.length ∧ elen e2 = 49 ∧ E e2 0 = v ∧ E e2 30 = .ptr t.next 0 ∧ t2.get s.next = some (mapB M) ∧ t2.get t.next = some (.iter (some s.next) M.length seen M.length) ∧ Own dotC s t2 (E e2 7) (vis.filter fun d => !hasN l d) ∧ seen.Nodup ∧ (∀ k ∈ seen, k < M.length) ∧ vis.map some = seen.map fun k => M[k]?), fun _ _ _ => rfl⟩
        refine lwp_inv I2 (n := M.length) ?_ ?_
        · rw [hI2]
          refine ⟨hK.push _, [], [], by simp, (by simp only [bE, Nat.reduceEqDiff, bN, Nat.reduceLT, he]; try rfl), (by simp only [bE, Nat.reduceEqDiff, bN, Nat.reduceLT, he, e0]; try rfl), (by simp only [bE, Nat.reduceEqDiff, bN, Nat.reduceLT, he]; try rfl), hgM, hgI, ?_, by simp, by simp, by simp⟩
          simp only [bE, Nat.reduceEqDiff, bN, Nat.reduceLT, he]
          exact .nil _ _ _
        clear hgI hgM hrg e15 e16 e17 e4 hlt
        intro n2 e2 t2 hi2
        rw [hI2] at hi2
        obtain ⟨hK2, seen, vis, hn2, he2, e0, e30, gM2, gI2, hO2, hsd, hsl, hac⟩ := hi2
        have lM2 := lt_of_get gM2
        have lI2 := lt_of_get gI2
        have hpI : s.next ≤ t.next := hK.next
        have hne0 : s.next ≠ t.next := by
          intro e
          rw [e, gI2] at gM2
          cases gM2
        have hvl : vis.length = seen.length := by have := congrArg List.length hac; simpa using this
        simp only [↓wp_seq, ↓wp_reg, ↓st_nxt, aev_t, e30]
        refine nextB_map gM2 gI2 (fun hall2 => ?_) (fun i x hx hns => ?_)
        · have hpm := seen_permD hsd hsl hac hall2
          have hfl : (vis.filter fun d => !hasN l d).length ≤ 1000000 := by
            have h1 := List.length_filter_le (fun d => !hasN l d) vis
            have h2 := hpm.length_eq
            simp at m2
            omega
          obtain ⟨w, t3, q3, hN3, hK3⟩ := q_DSeto hO2.read (by unfold lim; omega) (hO2.imp (fun h => h.1) fun ⟨_, _, h, _⟩ => h) ((hpm.nodup_iff.2 m1).filter _)
          have hE : setL (vis.filter fun d => !hasN l d) = lackL l := setL_ext fun d => by
            rw [List.mem_filter, List.mem_filter, hpm.mem_iff, m3]
            simp only [List.mem_map, List.mem_filter, Bool.not_eq_true', List.not_mem_nil, false_or]
            constructor
            · rintro ⟨⟨n, h1, h2, h3⟩, h4⟩
              exact ⟨⟨n, ⟨h1, h2⟩, h3⟩, h4⟩
            · rintro ⟨⟨n, ⟨h1, h2⟩, h3⟩, h4⟩
              exact ⟨⟨n, h1, h2, h3⟩, h4⟩
          rw [hE] at hN3
          simp (config := {contextual := true, maxDischargeDepth := 12}) only [tb_at, he2, e0, e30, q3, ↓bD, bU, forall_const, bS, implies_true, isNx, eq_self, ↓wp_cond, ↓wp_loop, ↓reduceIte, reduceCtorEq, Nat.reduceEqDiff, Nat.reduceLT, Nat.reduceAdd, Nat.reduceMul, bT, ↓sg_bsl, ↓st_callf, bX, List.cons_append, List.nil_append, ↓st_appf, bY, slcV_nils0N, slcV_sl0N, bslV_0N, bin_shr1, bsl_nd]
          first | exact ⟨hK2.trans hK3, _, rfl, hN3.from hK2.next⟩ | skip
        · obtain ⟨t4, ht4⟩ : ∃ t4, t4 = t2.put t.next (.iter (some s.next) M.length (seen ++ [i]) M.length) := ⟨_, rfl⟩
          rw [← ht4]
          have gM4 : t4.get s.next = some (mapB M) := by rw [ht4, St.get_put_ne _ _ lI2 hne0]; exact gM2
          have gI4 : t4.get t.next = some (.iter (some s.next) M.length (seen ++ [i]) M.length) := by rw [ht4]; exact St.get_put_same gI2
          have hK4 : Keep s t4 := by rw [ht4]; exact hK2.put _ hpI lI2
          have hO4 : Own dotC s t4 (E e2 7) (vis.filter fun d => !hasN l d) := by
            rcases hO2 with q | ⟨j, q1, q2, q3, q4⟩
            · exact .inl q
            · refine .inr ⟨j, q1, q2, q3, ?_⟩
              have : j ≠ t.next := by
                intro e
                rw [e, gI2] at q4
                cases q4
              rw [ht4, St.get_put_ne _ _ lI2 this]
              exact q4
          have lI4 := lt_of_get gI4
          have lM4 := lt_of_get gM4
          have hen := entB_map gM4 gI4 hx
          have hil := getlt hx
          have hlv : vis.length ≤ 1000000 := by
            have := room_left hsd hsl hil hns
            simp at m2
            omega
          have hfl := List.length_filter_le (fun d => !hasN l d) vis
          have hK5 : Keep s (t4.lowed.push (.row (Dot.av x) true)) := hK4.lowed.push _
          have qf := q_Sfind false (hK5.read hr) (by unfold lim; omega) hs x
          have hfv : findV l x = .tup [.int .i64 ((kOf l x : Nat) : Int), .bool (hasN l x)] := by unfold findV; rw [fnd_has hs]
          rw [hfv] at qf
          cases hh : hasN l x
          · rw [hh] at qf
            have hvf : (vis ++ [x]).filter (fun d => !hasN l d) = vis.filter (fun d => !hasN l d) ++ [x] := by rw [List.filter_append]; simp [hh]
            obtain ⟨u, t5, hap, hK6, hO6⟩ := appV_one (C := dotC) hK5 (hO4.lowed.push _) x 16 (by unfold roomBytes; omega)
            have hap : appV ((t4.lowed.push (.row (Dot.av x) true)).push (.row (Dot.av x) true)) 2 16 (E e2 7) (.sl (t4.lowed.push (.row (Dot.av x) true)).next 0 1 (some 1) 2) = some (u, t5) := hap
            simp (config := {contextual := true, maxDischargeDepth := 12}) only [tb_at, he2, e0, e30, hen, qf, hap, notV_bool, Bool.not_false, ↓bD, bU, forall_const, bS, implies_true, isNx, eq_self, ↓wp_cond, ↓wp_loop, ↓reduceIte, reduceCtorEq, Nat.reduceEqDiff, Nat.reduceLT, Nat.reduceAdd, Nat.reduceMul, bT, ↓sg_bsl, ↓st_callf, bX, List.cons_append, List.nil_append, ↓st_appf, bY, slcV_nils0N, slcV_sl0N, bslV_0N, bin_shr1, bsl_nd]
            have hne1 : ∀ o n c z, E e2 7 ≠ .sl s.next o n c z := by
              intro o n c z e
              rcases hO4 with ⟨q, _⟩ | ⟨j, q1, q2, q3, q4⟩
              · rw [q] at e; cases e
              · rw [q1] at e
                injection e with e
                rw [e, gM4] at q4
                cases q4
            have hne2 : ∀ o n c z, E e2 7 ≠ .sl t.next o n c z := by
              intro o n c z e
              rcases hO4 with ⟨q, _⟩ | ⟨j, q1, q2, q3, q4⟩
              · rw [q] at e; cases e
              · rw [q1] at e
                injection e with e
                rw [e, gI4] at q4
                cases q4
            refine ⟨n2 - 1, by
              have := room_left hsd hsl hil hns
              omega, ?_⟩
            rw [hI2]
            refine ⟨hK6, seen ++ [i], vis ++ [x], ?_, (by simp only [bE, Nat.reduceEqDiff, bN, Nat.reduceLT, he2]; try rfl), (by simp only [bE, Nat.reduceEqDiff, bN, Nat.reduceLT, he2, e0]; try rfl), (by simp only [bE, Nat.reduceEqDiff, bN, Nat.reduceLT, he2, e30]; try rfl), ?_, ?_, by simp only [bE, Nat.reduceEqDiff, bN, Nat.reduceLT, he2]; rw [hvf]; exact hO6, ?_, ?_, ?_⟩
            · have := room_left hsd hsl hil hns
              simp
              omega
            · exact appV_frame hap hne1 (get_push_some _ (get_push_some _ gM4))
            · exact appV_frame hap hne2 (get_push_some _ (get_push_some _ gI4))
            · rw [List.nodup_append]
              exact ⟨hsd, by simp, fun a ha b hb e => by simp at hb; subst hb; subst e; exact hns ha⟩
            · intro k hk
              rcases List.mem_append.1 hk with hk | hk
              · exact hsl k hk
              · simp at hk; omega
            · rw [List.map_append, List.map_append, hac]
              simp [hx]
          · rw [hh] at qf
            have hvf : (vis ++ [x]).filter (fun d => !hasN l d) = vis.filter (fun d => !hasN l d) := by rw [List.filter_append]; simp [hh]
            simp (config := {contextual := true, maxDischargeDepth := 12}) only [tb_at, he2, e0, e30, hen, qf, notV_bool, Bool.not_true, ↓bD, bU, forall_const, bS, implies_true, isNx, eq_self, ↓wp_cond, ↓wp_loop, ↓reduceIte, reduceCtorEq, Nat.reduceEqDiff, Nat.reduceLT, Nat.reduceAdd, Nat.reduceMul, bT, ↓sg_bsl, ↓st_callf, bX, List.cons_append, List.nil_append, ↓st_appf, bY, slcV_nils0N, slcV_sl0N, bslV_0N, bin_shr1, bsl_nd]
            refine ⟨n2 - 1, by
              have := room_left hsd hsl hil hns
              omega, ?_⟩
            rw [hI2]
            refine ⟨hK5, seen ++ [i], vis ++ [x], ?_, (by simp only [bE, Nat.reduceEqDiff, bN, Nat.reduceLT, he2]; try rfl), (by simp only [bE, Nat.reduceEqDiff, bN, Nat.reduceLT, he2, e0]; try rfl), (by simp only [bE, Nat.reduceEqDiff, bN, Nat.reduceLT, he2, e30]; try rfl), ?_, ?_, by simp only [bE, Nat.reduceEqDiff, bN, Nat.reduceLT, he2]; rw [hvf]; exact hO4.lowed.push _, ?_, ?_, ?_⟩
            · have := room_left hsd hsl hil hns
              simp
              omega
            · exact get_push_some _ gM4
            · exact get_push_some _ gI4
            · rw [List.nodup_append]
              exact ⟨hsd, by simp, fun a ha b hb e => by simp at hb; subst hb; subst e; exact hns ha⟩
            · intro k hk
              rcases List.mem_append.1 hk with hk | hk
              · exact hsl k hk
              · simp at hk; omega
            · rw [List.map_append, List.map_append, hac]
              simp [hx]
end Go.AM
end
/-
  What a closed run by the kernel shows. Own work of this project.
-/
section
set_option linter.unusedVariables false
set_option linter.unusedSimpArgs false
namespace Go.AM
open Go

def isTrue : Option (AV × St) → Bool
  | some (.bool true, _) => true
  | _ => false
theorem isTrue_ex {o : Option (AV × St)} (h : isTrue o = true) : ∃ s, o = some (.bool true, s) := by
  unfold isTrue at h
  split at h
  · exact ⟨_, rfl⟩
  · cases h
end Go.AM
end
/-
  The chapter's examples: 'known' answers true. Own work of this project; in part printed by a program of it.
-/
section
set_option linter.unusedVariables false
set_option linter.unusedSimpArgs false
set_option maxRecDepth 100000
set_option maxHeartbeats 4000000
namespace Go.AM
open Go Go.Proofs

def tabK : Nat → AFun
  | 9 => .code a9
  | 42 => .code a42
  | 41 => .code a41
  | 43 => .code a43
  | 34 => .code a34
  | 35 => .code a35
  | 15 => .code a15
  | 19 => .code a19
  | 13 => .code a13
  | 22 => .code a22
  | 23 => .code a23
  | 24 => .code a24
  | 25 => .code a25
  | 31 => .code a31
  | 32 => .code a32
  | 69 => .code a69
  | 93 => .code a93
  | 36 => .code a36
  | 30 => .code a30
  | 37 => .code a37
  | 71 => .code a71
  | 49 => .code a49
  | 38 => .code a38
  | 76 => .code a76
  | 51 => .code a51
  | 65 => .code a65
  | 57 => .code a57
  | 86 => .code a86
  | 73 => .code a73
  | 59 => .code a59
  | 105 => .code a105
  | 125 => .code a125
  | 117 => .code a117
  | 119 => .code a119
  | 95 => .code a95
  | 74 => .code a74
  | 118 => .code a118
  | 132 => .code a132
  | 131 => .code a131
  | 122 => .code a122
  | 147 => .code a147
  | 134 => .code a134
  | 99 => .code a99
  | 154 => .code a154
  | 153 => .code a153
  | 68 => .code a68
  | 82 => .code a82
  | 64 => .code a64
  | 78 => .code a78
  | 120 => .code a120
  | 135 => .code a135
  | 62 => .code a62
  | 136 => .code a136
  | 21 => .code a21
  | 50 => .code a50
  | 17 => .code a17
  | 96 => .code a96
  | 133 => .code a133
  | 72 => .code a72
  | 70 => .code a70
  | 152 => .code a152
  | 56 => .code a56
  | 94 => .code a94
  | 146 => .code a146
  | 85 => .code a85
  | 137 => .code a137
  | 160 => .code a160
  | 63 => .code a63
  | 155 => .code a155
  | 164 => .code a164
  | 91 => .code a91
  | 98 => .code a98
  | 97 => .code a97
  | 75 => .code a75
  | 66 => .code a66
  | 92 => .code a92
  | 89 => .code a89
  | 90 => .code a90
  | 116 => .code a116
  | 159 => .con (conF dotC (pL dotC gMade))
  | 121 => .con (cPdq 62 (fun _ => true) sortD)
  | 88 => .con (cBits)
  | 29 => .con (conF ndC (pL ndC gOf))
  | 52 => .con (conF dotC (pL ndC gLack))
  | _ => .no
theorem tabK_ok : ∀ f, FunOk Tryz.prog f (tabK f) := by
  intro f
  unfold tabK
  split
  · exact ⟨k9, _, Tryz.func9, c9⟩
  · exact ⟨k42, _, Tryz.func42, c42⟩
  · exact ⟨k41, _, Tryz.func41, c41⟩
  · exact ⟨k43, _, Tryz.func43, c43⟩
  · exact ⟨k34, _, Tryz.func34, c34⟩
  · exact ⟨k35, _, Tryz.func35, c35⟩
  · exact ⟨k15, _, Tryz.func15, c15⟩
  · exact ⟨k19, _, Tryz.func19, c19⟩
  · exact ⟨k13, _, Tryz.func13, c13⟩
  · exact ⟨k22, _, Tryz.func22, c22⟩
  · exact ⟨k23, _, Tryz.func23, c23⟩
  · exact ⟨k24, _, Tryz.func24, c24⟩
  · exact ⟨k25, _, Tryz.func25, c25⟩
  · exact ⟨k31, _, Tryz.func31, c31⟩
  · exact ⟨k32, _, Tryz.func32, c32⟩
  · exact ⟨k69, _, Tryz.func69, c69⟩
  · exact ⟨k93, _, Tryz.func93, c93⟩
  · exact ⟨k36, _, Tryz.func36, c36⟩
  · exact ⟨k30, _, Tryz.func30, c30⟩
  · exact ⟨k37, _, Tryz.func37, c37⟩
  · exact ⟨k71, _, Tryz.func71, c71⟩
  · exact ⟨k49, _, Tryz.func49, c49⟩
  · exact ⟨k38, _, Tryz.func38, c38⟩
  · exact ⟨k76, _, Tryz.func76, c76⟩
  · exact ⟨k51, _, Tryz.func51, c51⟩
  · exact ⟨k65, _, Tryz.func65, c65⟩
  · exact ⟨k57, _, Tryz.func57, c57⟩
  · exact ⟨k86, _, Tryz.func86, c86⟩
  · exact ⟨k73, _, Tryz.func73, c73⟩
  · exact ⟨k59, _, Tryz.func59, c59⟩
  · exact ⟨k105, _, Tryz.func105, c105⟩
  · exact ⟨k125, _, Tryz.func125, c125⟩
  · exact ⟨k117, _, Tryz.func117, c117⟩
  · exact ⟨k119, _, Tryz.func119, c119⟩
  · exact ⟨k95, _, Tryz.func95, c95⟩
  · exact ⟨k74, _, Tryz.func74, c74⟩
  · exact ⟨k118, _, Tryz.func118, c118⟩
  · exact ⟨k132, _, Tryz.func132, c132⟩
  · exact ⟨k131, _, Tryz.func131, c131⟩
  · exact ⟨k122, _, Tryz.func122, c122⟩
  · exact ⟨k147, _, Tryz.func147, c147⟩
  · exact ⟨k134, _, Tryz.func134, c134⟩
  · exact ⟨k99, _, Tryz.func99, c99⟩
  · exact ⟨k154, _, Tryz.func154, c154⟩
  · exact ⟨k153, _, Tryz.func153, c153⟩
  · exact ⟨k68, _, Tryz.func68, c68⟩
  · exact ⟨k82, _, Tryz.func82, c82⟩
  · exact ⟨k64, _, Tryz.func64, c64⟩
  · exact ⟨k78, _, Tryz.func78, c78⟩
  · exact ⟨k120, _, Tryz.func120, c120⟩
  · exact ⟨k135, _, Tryz.func135, c135⟩
  · exact ⟨k62, _, Tryz.func62, c62⟩
  · exact ⟨k136, _, Tryz.func136, c136⟩
  · exact ⟨k21, _, Tryz.func21, c21⟩
  · exact ⟨k50, _, Tryz.func50, c50⟩
  · exact ⟨k17, _, Tryz.func17, c17⟩
  · exact ⟨k96, _, Tryz.func96, c96⟩
  · exact ⟨k133, _, Tryz.func133, c133⟩
  · exact ⟨k72, _, Tryz.func72, c72⟩
  · exact ⟨k70, _, Tryz.func70, c70⟩
  · exact ⟨k152, _, Tryz.func152, c152⟩
  · exact ⟨k56, _, Tryz.func56, c56⟩
  · exact ⟨k94, _, Tryz.func94, c94⟩
  · exact ⟨k146, _, Tryz.func146, c146⟩
  · exact ⟨k85, _, Tryz.func85, c85⟩
  · exact ⟨k137, _, Tryz.func137, c137⟩
  · exact ⟨k160, _, Tryz.func160, c160⟩
  · exact ⟨k63, _, Tryz.func63, c63⟩
  · exact ⟨k155, _, Tryz.func155, c155⟩
  · exact ⟨k164, _, Tryz.func164, c164⟩
  · exact ⟨k91, _, Tryz.func91, c91⟩
  · exact ⟨k98, _, Tryz.func98, c98⟩
  · exact ⟨k97, _, Tryz.func97, c97⟩
  · exact ⟨k75, _, Tryz.func75, c75⟩
  · exact ⟨k66, _, Tryz.func66, c66⟩
  · exact ⟨k92, _, Tryz.func92, c92⟩
  · exact ⟨k89, _, Tryz.func89, c89⟩
  · exact ⟨k90, _, Tryz.func90, c90⟩
  · exact ⟨k116, _, Tryz.func116, c116⟩
  · exact s_VMade
  · exact s_pdqSSortD
  · exact s_bits
  · exact s_Of
  · exact s_SLack
  · trivial
theorem known_run : isTrue (acalls tabK 400 18 9 [] St.empty) = true := by kernel_rfl
theorem s_known : SoundAt Tryz.prog 9 (closed [] (.bool true)) := by
  obtain ⟨s, hs⟩ := isTrue_ex known_run
  exact closed_sound (acalls_sound mixed tabK_ok 18 _) hs rfl
end Go.AM
end
/-
  The row's last part: a call that leaves what was there alone, and answers true. Own work of this project.
-/
section
set_option linter.unusedVariables false
set_option linter.unusedSimpArgs false
namespace Go.AM
open Go Go.ChangeShapes Go.WideShapes Go.ChangeAt Go.RowKit

variable {H : Type} {enc : TypeId × Value → H} {P : Program}

theorem Clean.below {W W' : World} (h : Clean W W') : Below W.heap.size W W' := ⟨h.os, h.tape, h.output, h.size, h.block⟩
theorem Clean.frozen {W W' : World} (h : Clean W W') {a : Addr} (ha : a.block < W.heap.size) : W'.frozen? a = W.frozen? a := h.below.frozen ha

theorem trodAll_clean (hl : laidOutB P = true) {W W' : World} (hc : Clean W W') (sp : Nat → Bool) : ∀ {ts : List TypeId} {vs : List Value} {ds : List (DataW H)} {ps : List MemPlace}, (∀ t ∈ ts, P.readableRec t = true ∧ t < P.types.size) →
    DataW.TrodAll enc P W 0 (fun _ => true) true ts vs ds ps → (∀ p ∈ ps, sp p.block = true) → DataW.TrodAll enc P W' 0 sp true ts vs ds ps
  | [], vs, ds, ps, _, h, _ => by
    obtain ⟨rfl, rfl, rfl⟩ := trodAll_nil h
    rfl
  | t :: ts, vs, ds, ps, hr, h, hs => by
    obtain ⟨v, vs1, d, ds1, a, b, rfl, rfl, rfl, h1, h2⟩ := trodAll_cons h
    have hlt := DataW.TrodAll.lt h
    refine ⟨a, b, ?_, trodAll_clean hl hc sp (fun t ht => hr t (by simp [ht])) h2 fun p hp => hs p (by simp [hp]), rfl⟩
    exact WideElems.Trod_stays hl (hr t (by simp)).1 (hr t (by simp)).2 h1 (fun x hx => hc.below.same (hlt x (by simp [hx]))) fun x hx => hs x (by simp [hx])

theorem post_of_clean {f : Func} {s : ChangeSpec} {apart fresh handsOn again : Bool} {W W' : World} {args : Array Value} {ds gs : List (DataW H)} {before : List MemPlace} {tb : TypeId} (hl : laidOutB P = true)
    (hread : ∀ t ∈ f.params.toList, P.readableRec t = true ∧ t < P.types.size) (hW : DataW.Whole enc P f.params.toList s.vars apart W args.toList ds gs before) (hv : s.vars = [])
    (hres : (s.fn H (ds ++ gs)).results = [.lit (.bool true)]) (hargs : (s.fn H (ds ++ gs)).args = ds) (hvars : (s.fn H (ds ++ gs)).vars = []) (hrt : f.resultTypes = #[tb]) (hb : P.underlying tb = some .bool) (hc : Clean W W') :
    s.post enc P f apart fresh handsOn again W args (.bool true) W' := by
  have hlt : ∀ p ∈ before, p.block < W.heap.size := hW.lt
  have hW0 := hW
  obtain ⟨pa, pv, hA, hV, rfl, hz, hn⟩ := hW
  have hpv : pv = [] := by
    rw [hv] at hV
    cases gs with
    | nil => exact hV
    | cons g gs => exact hV.elim
  subst hpv
  simp only [List.append_nil] at hW0 hlt hz hn
  have hR : ∀ (b : Nat) (sp : Nat → Bool) (hd : Bool), DataW.TrodAll enc P W' b sp hd [tb] [.bool true] [.lit (.bool true)] [] := fun b sp hd => trodAll_mk1 (shut_bool hb true)
  have hrl : (Value.bool true).resultList f.resultTypes.size = [.bool true] := by simp [hrt, Value.resultList]
  refine ⟨ds, gs, pa, [], pa, [], hW0, ?_, ?_, ?_, ?_, fun _ => ⟨fun j t r h1 h2 => ?_, ?_⟩⟩
  · rw [hrl, hres, hrt]
    exact hR _ _ _
  · rw [hargs]
    exact trodAll_clean hl hc _ hread hA fun p hp => by simpa using hlt p hp
  · rw [hvars, hv]
    rfl
  · exact hc.below.frame _
  · rw [hrl] at h2
    rw [hrt] at h1
    cases j with
    | zero =>
      simp at h1 h2
      subst h1; subst h2
      simp [Value.okWide, hb, Cell.okWide, Cell.ok]
    | succ j => simp at h1
  · refine ⟨[.lit (.bool true)] ++ ds, [], pa, ⟨[] ++ pa, [], ?_, ?_, by simp, ?_, ?_⟩, fun p hp _ => hp⟩
    · rw [hrl, hrt]
      exact trodAll_append (trodAll_clean hl hc _ hread hA fun _ _ => rfl) (hR _ _ _)
    · rw [hv]
      rfl
    · intro b off hp
      rw [hc.frozen (hlt _ hp)]
      exact hz b off hp
    · intro ha
      simpa using hn ha

end Go.AM
end
/-
  From a row's reading of an argument to the abstract machine's memory. Own work of this project.
-/
section
set_option linter.unusedVariables false
set_option linter.unusedSimpArgs false
namespace Go.AM
open Go Go.ChangeShapes Go.WideShapes Go.ChangeAt Go.RowKit Go.Deep

/-- The kinds of plain cells. -/
inductive CK where
  | b | i (k : IntKind) | s
def CK.ok : CK → AV → Prop
  | .b, v => ∃ x, v = .bool x
  | .i k, v => ∃ n, v = .int k n ∧ (Lit.int k n).wf = true
  | .s, v => ∃ x, v = .str x
def CKs : List CK → List AV → Prop
  | [], vs => vs = []
  | k :: ks, vs => ∃ v r, vs = v :: r ∧ k.ok v ∧ CKs ks r
theorem CKs.append : ∀ {ks ks' : List CK} {vs vs' : List AV}, CKs ks vs → CKs ks' vs' → CKs (ks ++ ks') (vs ++ vs')
  | [], ks', vs, vs', h, h' => by simp only [CKs] at h; subst h; exact h'
  | k :: ks, ks', vs, vs', h, h' => by
    simp only [CKs] at h
    obtain ⟨v, r, rfl, h1, h2⟩ := h
    exact ⟨v, r ++ vs', rfl, h1, CKs.append h2 h'⟩
theorem CKs.len : ∀ {ks : List CK} {vs : List AV}, CKs ks vs → vs.length = ks.length
  | [], vs, h => by simp only [CKs] at h; subst h; rfl
  | k :: ks, vs, h => by
    simp only [CKs] at h
    obtain ⟨v, r, rfl, h1, h2⟩ := h
    simp [CKs.len h2]
theorem CK.ok_one {k : CK} {v : AV} (h : k.ok v) : v.one = true := by
  cases k <;> simp only [CK.ok] at h
  · obtain ⟨x, rfl⟩ := h; rfl
  · obtain ⟨x, rfl, _⟩ := h; rfl
  · obtain ⟨x, rfl⟩ := h; rfl
theorem CKs.one : ∀ {ks : List CK} {vs : List AV}, CKs ks vs → vs.all AV.one = true
  | [], vs, h => by simp only [CKs] at h; subst h; rfl
  | k :: ks, vs, h => by
    simp only [CKs] at h
    obtain ⟨v, r, rfl, h1, h2⟩ := h
    simp [CK.ok_one h1, CKs.one h2]

variable (P : Program)
def cks : Nat → TypeId → Option (List CK)
  | 0, _ => none
  | d + 1, t =>
    match P.underlying t with
    | some .bool => some [.b]
    | some (.int k) => some [.i k]
    | some .string => some [.s]
    | some (.struct fs) => cksF (cks d) fs.toList 0 (P.cellsOf t)
    | _ => none
where
  cksF (ok : TypeId → Option (List CK)) : List Field → Nat → Nat → Option (List CK)
    | [], at_, sz => if sz = at_ then some [] else none
    | f :: r, at_, sz =>
      if f.offset = at_ then
        match ok f.type with
        | some ks => if ks.length = P.cellsOf f.type then (cksF ok r (at_ + ks.length) sz).map (ks ++ ·) else none
        | none => none
      else none

variable {P}
variable {H : Type} {enc : TypeId × Value → H} {w : World} {base : Nat} {spare : Nat → Bool} {held : Bool}
theorem cell_some {a : Addr} {v : Value} (h : w.cell? a = some v) : ∃ cells el fr, w.heap[a.block]? = some (.cells cells el fr) ∧ a.spot = none := by
  unfold World.cell? at h
  split at h
  · rename_i c el fr hh
    split at h
    · cases h
    · rename_i hs
      exact ⟨c, el, fr, hh, by simpa using hs⟩
  · cases h
theorem addr_block (a : Addr) (i : Nat) : (a.add i).block = a.block := by unfold Addr.add; split <;> rfl
theorem addr_spot (a : Addr) (i : Nat) (h : (a.add i).spot = none) (h0 : i = 0 ∨ True) : i = 0 → a.spot = none := by
  intro hi
  subst hi
  unfold Addr.add at h
  simpa using h

/-- Cells, each kind in its turn, again and again. -/
def Rows (ks : List CK) (rows : List (List AV)) : Prop := ∀ r ∈ rows, CKs ks r
end Go.AM
end
/-
  Arguments with slices in slices and in structs, opened into the abstract machine's memory. Own work of this project.
-/
section
set_option linter.unusedVariables false
set_option linter.unusedSimpArgs false
set_option maxRecDepth 100000
namespace Go.AM
open Go Go.ChangeShapes Go.WideShapes Go.ChangeAt Go.RowKit Go.Deep

/-- Some block of cells is there. -/
def HasCellsD (W : World) : Prop := ∃ (b : Nat) (cs : Array Value) (e : TypeId) (fr : Nat × Nat), W.heap[b]? = some (Obj.cells cs e fr)
theorem dummyD {W : World} (h : HasCellsD W) : ∃ L : Loc, L.b < W.heap.size ∧ ∀ ρ, BlkOk ρ L W (.row [] false) := by
  obtain ⟨b, cs, e, fr, hb⟩ := h
  refine ⟨⟨b, 0, cs.size⟩, (Array.getElem?_eq_some_iff.1 hb).1, fun ρ => ?_⟩
  simp only [BlkOk]
  exact ⟨cs, e, fr, hb, rfl, by simp, fun i v h => by simp at h, by simp, rfl⟩

section
variable (P : Program)
/-- What the memory shows at cells of a type. -/
def RdF (ok : TypeId → List AV → Prop) : List Field → List AV → Prop
  | [], vs => vs = []
  | f :: r, vs => ∃ a b, vs = a ++ b ∧ ok f.type a ∧ RdF ok r b
def RdT (s : St) : Nat → TypeId → List AV → Prop
  | 0, _, _ => False
  | d + 1, t, vs => match P.underlying t with
    | some .bool => ∃ x, vs = [.bool x]
    | some (.int k) => ∃ n, vs = [.int k n] ∧ (Lit.int k n).wf = true
    | some .string => ∃ x, vs = [.str x]
    | some (.struct fs) => RdF (RdT s d) fs.toList vs
    | some (.slice e) => vs = [.nils] ∨ ∃ (id n cap : Nat) (rows : List (List AV)), vs = [.sl id 0 n (some cap) (P.cellsOf e)] ∧ n ≤ cap ∧ cap ≤ maxLen ∧ rows.length = cap ∧ s.get id = some (.row rows.flatten false) ∧ ∀ r ∈ rows, RdT s d e r ∧ r.length = P.cellsOf e
    | _ => False
def okF (ok : TypeId → Bool) : List Field → Nat → Nat → Bool
  | [], at_, sz => decide (sz = at_)
  | f :: r, at_, sz => decide (f.offset = at_) && ok f.type && okF ok r (at_ + P.cellsOf f.type) sz
def okT : Nat → TypeId → Bool
  | 0, _ => false
  | d + 1, t => match P.underlying t with
    | some .bool | some (.int _) | some .string => true
    | some (.struct fs) => okF P (okT d) fs.toList 0 (P.cellsOf t)
    | some (.slice e) => decide (P.cellsOf e ≠ 0) && okT d e
    | _ => false
end

variable {P : Program} {H : Type} {enc : TypeId × Value → H} {W : World} {base : Nat} {held : Bool}
/-- Cells, and the blocks that they reach, numbered from 'start' on. -/
structure Opn (W : World) (Q : St → List AV → Prop) (start : Nat) (cs : List Value) (vs : List AV) (bl : List (AB × Loc)) : Prop where
  lt : ∀ p ∈ bl, p.2.b < W.heap.size
  own : ∀ p ∈ bl, p.1.owned = false
  vr : ∀ ρ : Ren, (∀ i p, bl[i]? = some p → ρ (start + i) = some p.2) → VRs ρ vs cs ∧ ∀ p ∈ bl, BlkOk ρ p.2 W p.1
  rd : ∀ s : St, (∀ i p, bl[i]? = some p → s.get (start + i) = some p.1) → Q s vs
  one : vs.all AV.one = true
  len : vs.length = cs.length
theorem Opn.plain {Q : St → List AV → Prop} {start : Nat} {cs : List Value} {vs : List AV} (h : ∀ ρ, VRs ρ vs cs) (hq : ∀ s, Q s vs) (ho : vs.all AV.one = true) (hl : vs.length = cs.length) : Opn W Q start cs vs [] :=
  ⟨by simp, by simp, fun ρ _ => ⟨h ρ, by simp⟩, fun s _ => hq s, ho, hl⟩
theorem Opn.app {Q1 Q2 : St → List AV → Prop} {start : Nat} {c1 c2 : List Value} {v1 v2 : List AV} {b1 b2 : List (AB × Loc)} (h : Opn W Q1 start c1 v1 b1) (k : Opn W Q2 (start + b1.length) c2 v2 b2) :
    Opn W (fun s _ => Q1 s v1 ∧ Q2 s v2) start (c1 ++ c2) (v1 ++ v2) (b1 ++ b2) := by
  have e1 : ∀ {i : Nat} {p}, b1[i]? = some p → (b1 ++ b2)[i]? = some p := fun {i p} hp => by
    rw [List.getElem?_append_left (List.getElem?_eq_some_iff.1 hp).1]; exact hp
  have e2 : ∀ {i : Nat} {p}, b2[i]? = some p → (b1 ++ b2)[b1.length + i]? = some p := fun {i p} hp => by
    rw [List.getElem?_append_right (by omega), Nat.add_sub_cancel_left]; exact hp
  refine ⟨fun p hp => ?_, fun p hp => ?_, fun ρ hρ => ?_, fun s hs => ⟨h.rd s fun i p hp => hs i p (e1 hp), k.rd s fun i p hp => ?_⟩, by simp [h.one, k.one], by simp [h.len, k.len]⟩
  · rcases List.mem_append.1 hp with q | q
    · exact h.lt p q
    · exact k.lt p q
  · rcases List.mem_append.1 hp with q | q
    · exact h.own p q
    · exact k.own p q
  · obtain ⟨r1, r2⟩ := h.vr ρ fun i p hp => hρ i p (e1 hp)
    obtain ⟨r3, r4⟩ := k.vr ρ fun i p hp => by have := hρ _ p (e2 hp); rwa [← Nat.add_assoc] at this
    refine ⟨r1.append r3, fun p hp => ?_⟩
    rcases List.mem_append.1 hp with q | q
    · exact r2 p q
    · exact r4 p q
  · have := hs _ p (e2 hp)
    rwa [← Nat.add_assoc] at this
theorem Opn.imp {Q Q' : St → List AV → Prop} {start : Nat} {cs : List Value} {vs : List AV} {bl : List (AB × Loc)} (h : Opn W Q start cs vs bl) (k : ∀ s, Q s vs → Q' s vs) : Opn W Q' start cs vs bl :=
  ⟨h.lt, h.own, h.vr, fun s hs => k s (h.rd s hs), h.one, h.len⟩

/-- A slice's place, its elements as they are read one by one. -/
theorem slice_geo {t e : TypeId} {fuel : Nat} {cs : List Value} {x : DataW H × List MemPlace} (hu : P.underlying t = some (.slice e)) (h0 : P.cellsOf e ≠ 0)
    (h : DataW.trod enc P W base (fun _ => true) held fuel t cs = some x) : cs = [.slice none 0 0] ∨ (∃ a, cs = [.slice (some a) 0 0]) ∨
    ∃ (b off len cap : Nat) (cells : Array Value) (el : TypeId) (fr : Nat × Nat) (n : Nat), cs = [.slice (some ⟨b, off, none⟩) len cap] ∧ 0 < cap ∧ len ≤ cap ∧ cap ≤ maxLen ∧ W.heap[b]? = some (.cells cells el fr) ∧ off + cap * P.cellsOf e ≤ cells.size ∧
      ∀ i, i < cap → ∃ x, DataW.trod enc P W base (fun _ => true) held n e ((cells.toList.drop (off + i * P.cellsOf e)).take (P.cellsOf e)) = some x := by
  rcases open_slice hu h with ⟨rfl, _⟩ | ⟨a, len, cap, m, n, D, Pl, rfl, hb, hl, hm, hmm, _, hx⟩
  · exact .inl rfl
  right
  simp only [if_true] at hmm
  subst hmm
  by_cases hc : m = 0
  · left
    subst hc
    have : len = 0 := by omega
    subst this
    exact ⟨a, rfl⟩
  right
  obtain ⟨cs0, h1, _⟩ := hx 0 (by omega)
  obtain ⟨_, hl0, hat0⟩ := World.cells?_some h1
  have hc0 := hat0 0 (by omega)
  obtain ⟨b, off, spot⟩ := a
  have hsome : ∃ v, cs0[0]? = some v := ⟨cs0[0]'(by omega), by simp⟩
  obtain ⟨v0, hv0⟩ := hsome
  rw [hv0] at hc0
  obtain ⟨cells, el, fr, hh, hsp⟩ := cell_some hc0
  rw [addr_block, addr_block] at hh
  simp only at hh
  have hspot : spot = none := by
    have h2 := addr_spot _ 0 hsp (.inl rfl) rfl
    have h3 := addr_spot _ (0 * P.cellsOf e) h2 (.inr trivial) (by simp)
    exact h3
  subst hspot
  have hat : ∀ i, i < m → off + (i + 1) * P.cellsOf e ≤ cells.size ∧ ∃ x, DataW.trod enc P W base (fun _ => true) held n e ((cells.toList.drop (off + i * P.cellsOf e)).take (P.cellsOf e)) = some x := by
    intro i hi
    obtain ⟨cs', e1, e2⟩ := hx i hi
    obtain ⟨_, hl', hat'⟩ := World.cells?_some e1
    have hget : ∀ j, j < P.cellsOf e → cells[off + i * P.cellsOf e + j]? = cs'[j]? := by
      intro j hj
      have := hat' j hj
      rw [addr_add, addr_add, cell_at hh] at this
      exact this
    have hsz : off + (i + 1) * P.cellsOf e ≤ cells.size := by
      have hj : P.cellsOf e - 1 < P.cellsOf e := by omega
      have := hget _ hj
      rw [List.getElem?_eq_getElem (by omega)] at this
      have hlt := (Array.getElem?_eq_some_iff.1 this).1
      rw [Nat.succ_mul]
      omega
    refine ⟨hsz, (D i, Pl i), ?_⟩
    have : (cells.toList.drop (off + i * P.cellsOf e)).take (P.cellsOf e) = cs' := by
      apply List.ext_getElem?
      intro j
      by_cases hj : j < P.cellsOf e
      · rw [List.getElem?_take_of_lt hj, List.getElem?_drop]
        have := hget j (by omega)
        simpa using this
      · rw [List.getElem?_eq_none (by simp; omega), List.getElem?_eq_none (by omega)]
    rw [this]
    exact e2
  obtain ⟨q2, _⟩ := hat (m - 1) (by omega)
  rw [show m - 1 + 1 = m by omega] at q2
  exact ⟨b, off, len, m, cells, el, fr, n, rfl, by omega, hl, hm, hh, q2, fun i hi => (hat i hi).2⟩

def DeepOk (P : Program) (enc : TypeId × Value → H) (W : World) (base : Nat) (held : Bool) (d : Nat) (t : TypeId) : Prop :=
  ∀ (fuel : Nat) (cs : List Value) (x : DataW H × List MemPlace), DataW.trod enc P W base (fun _ => true) held fuel t cs = some x → ∀ start, ∃ vs bl, Opn W (fun s vs => RdT P s d t vs) start cs vs bl

theorem deep_fields {d : Nat} (IH : ∀ t, okT P d t = true → DeepOk P enc W base held d t) {n : Nat} {cs : List Value} {sz : Nat} (hcs : cs.length = sz) : ∀ (fs : List Field) (at_ : Nat), okF P (okT P d) fs at_ sz = true →
    (∀ f ∈ fs, ∃ x, DataW.trod enc P W base (fun _ => true) held n f.type ((cs.drop f.offset).take (P.cellsOf f.type)) = some x) → ∀ start, ∃ vs bl, Opn W (fun s vs => RdF (RdT P s d) fs vs) start (cs.drop at_) vs bl
  | [], at_, h, _, start => by
    simp only [okF, decide_eq_true_eq] at h
    rw [List.drop_eq_nil_of_le (by omega)]
    exact ⟨[], [], .plain (fun _ => VRs_nil) (fun _ => rfl) rfl rfl⟩
  | f :: r, at_, h, hx, start => by
    simp only [okF, Bool.and_eq_true, decide_eq_true_eq] at h
    obtain ⟨⟨hoff, hok⟩, hr⟩ := h
    obtain ⟨x, hxf⟩ := hx f (by simp)
    obtain ⟨v1, b1, o1⟩ := IH f.type hok n _ x hxf start
    obtain ⟨v2, b2, o2⟩ := deep_fields IH hcs r (at_ + P.cellsOf f.type) hr (fun g hg => hx g (by simp [hg])) (start + b1.length)
    refine ⟨v1 ++ v2, b1 ++ b2, ?_⟩
    have := o1.app o2
    rw [hoff, ← List.drop_drop, List.take_append_drop] at this
    exact this.imp fun s q => ⟨v1, v2, rfl, q⟩
theorem deep_rows {d : Nat} {e : TypeId} {n : Nat} (IH : DeepOk P enc W base held d e) (cells : List Value) (off : Nat) : ∀ (k : Nat), off + k * P.cellsOf e ≤ cells.length →
    (∀ i, i < k → ∃ x, DataW.trod enc P W base (fun _ => true) held n e ((cells.drop (off + i * P.cellsOf e)).take (P.cellsOf e)) = some x) → ∀ start, ∃ (rows : List (List AV)) (bl : List (AB × Loc)), rows.length = k ∧
      Opn W (fun s _ => ∀ r ∈ rows, RdT P s d e r ∧ r.length = P.cellsOf e) start ((cells.drop off).take (k * P.cellsOf e)) rows.flatten bl
  | 0, _, _, start => ⟨[], [], rfl, .plain (fun _ => by simpa using VRs_nil) (fun _ r hr => by simp at hr) rfl (by simp)⟩
  | k + 1, hle, hx, start => by
    obtain ⟨rows, b1, h1, o1⟩ := deep_rows IH cells off k (by rw [Nat.succ_mul] at hle; omega) (fun i hi => hx i (by omega)) start
    obtain ⟨x, hxk⟩ := hx k (by omega)
    obtain ⟨v2, b2, o2⟩ := IH n _ x hxk (start + b1.length)
    refine ⟨rows ++ [v2], b1 ++ b2, by simp [h1], ?_⟩
    have hl2 : v2.length = P.cellsOf e := by
      rw [o2.len, List.length_take, List.length_drop]
      rw [Nat.succ_mul] at hle
      omega
    have := o1.app o2
    rw [List.flatten_append, List.flatten_singleton, Nat.succ_mul, List.take_add, List.drop_drop]
    refine this.imp fun s hq r hr => ?_
    rcases List.mem_append.1 hr with q | q
    · exact hq.1 r q
    · simp at q
      subst q
      exact ⟨hq.2, hl2⟩
theorem VRs.cell {ρ : Ren} {vs : List AV} {cs : List Value} (h : VRs ρ vs cs) {i : Nat} {v : AV} (hi : vs[i]? = some v) : ∃ c, cs[i]? = some c ∧ VR ρ v c := VRs.at_ i h hi
theorem deep_open (hc : HasCellsD W) : ∀ (d : Nat) (t : TypeId), okT P d t = true → DeepOk P enc W base held d t
  | 0, t, h => by simp [okT] at h
  | d + 1, t, h => by
    intro fuel cs x hx start
    simp only [okT] at h
    split at h
    · rename_i hu
      obtain ⟨b, rfl, _⟩ := DataW.trod_bool hu hx
      exact ⟨[.bool b], [], .plain (fun ρ => VRs_cons.2 ⟨by simp [VR], VRs_nil⟩) (fun s => by simp only [RdT, hu]; exact ⟨b, rfl⟩) rfl rfl⟩
    · rename_i k hu
      obtain ⟨b, rfl, _, hw⟩ := DataW.trod_int hu hx
      exact ⟨[.int k b], [], .plain (fun ρ => VRs_cons.2 ⟨by simp [VR], VRs_nil⟩) (fun s => by simp only [RdT, hu]; exact ⟨b, rfl, hw⟩) rfl rfl⟩
    · rename_i hu
      obtain ⟨b, rfl, _⟩ := DataW.trod_string hu hx
      exact ⟨[.str b], [], .plain (fun ρ => VRs_cons.2 ⟨by simp [VR], VRs_nil⟩) (fun s => by simp only [RdT, hu]; exact ⟨b, rfl⟩) rfl rfl⟩
    · rename_i fs hu
      obtain ⟨xs, n, _, _, hl, hxl, hf⟩ := DataW.trod_struct hu hx
      obtain ⟨vs, bl, ho⟩ := deep_fields (fun t hk => deep_open hc d t hk) hl fs.toList 0 h (n := n) (fun f hmem => by
        obtain ⟨i, hi⟩ := List.getElem?_of_mem hmem
        have hi' : fs[i]? = some f := by simpa using hi
        have hlt : i < xs.length := by
          have := (Array.getElem?_eq_some_iff.1 hi').1
          omega
        exact ⟨xs[i], by rw [hf i f hi']; simp [hlt]⟩) start
      rw [List.drop_zero] at ho
      exact ⟨vs, bl, ho.imp fun s q => by simp only [RdT, hu]; exact q⟩
    · rename_i e hu
      simp only [Bool.and_eq_true, decide_eq_true_eq] at h
      obtain ⟨L, hL1, hL2⟩ := dummyD hc
      rcases slice_geo hu h.1 hx with rfl | ⟨a, rfl⟩ | ⟨b, off, len, cap, cells, el, fr, n, rfl, h2, h3, h4, h5, h6, h7⟩
      · exact ⟨[.nils], [], .plain (fun ρ => VRs_cons.2 ⟨by simp [VR], VRs_nil⟩) (fun s => by simp only [RdT, hu]; exact .inl (by trivial)) rfl rfl⟩
      · refine ⟨[.sl start 0 0 (some 0) (P.cellsOf e)], [(.row [] false, L)], ?_, ?_, fun ρ hρ => ⟨VRs_cons.2 ⟨?_, VRs_nil⟩, ?_⟩, fun s hs => ?_, rfl, rfl⟩
        · intro p hp
          simp at hp
          subst hp
          exact hL1
        · intro p hp
          simp at hp
          subst hp
          rfl
        · simp only [VR]
          exact ⟨L, a, 0, hρ 0 _ rfl, rfl, Nat.le_refl _, fun k hk => by injection hk, .inl rfl⟩
        · intro p hp
          simp at hp
          subst hp
          exact hL2 ρ
        · simp only [RdT, hu]
          exact .inr ⟨start, 0, 0, [], rfl, Nat.le_refl _, Nat.zero_le _, rfl, hs 0 _ rfl, fun r hr => by simp at hr⟩
      · have hlt := (Array.getElem?_eq_some_iff.1 h5).1
        obtain ⟨rows, bl, hr1, ho⟩ := deep_rows (deep_open hc d e h.2) cells.toList off cap (by simpa using h6) h7 (start + 1)
        have hfl : rows.flatten.length = cap * P.cellsOf e := by
          rw [ho.len, List.length_take, List.length_drop]
          simp
          omega
        have hup : ∀ {ρ : Ren}, (∀ i p, ((AB.row rows.flatten false, (⟨b, off, cells.size⟩ : Loc)) :: bl)[i]? = some p → ρ (start + i) = some p.2) → ∀ i p, bl[i]? = some p → ρ (start + 1 + i) = some p.2 := fun hρ i p hp => by
          have := hρ (i + 1) p (by simpa using hp)
          rwa [show start + (i + 1) = start + 1 + i by omega] at this
        refine ⟨[.sl start 0 len (some cap) (P.cellsOf e)], (.row rows.flatten false, ⟨b, off, cells.size⟩) :: bl, ?_, ?_, fun ρ hρ => ?_, fun s hs => ?_, rfl, rfl⟩
        · intro p hp
          rcases List.mem_cons.1 hp with rfl | hp
          · exact hlt
          · exact ho.lt p hp
        · intro p hp
          rcases List.mem_cons.1 hp with rfl | hp
          · rfl
          · exact ho.own p hp
        · obtain ⟨r1, r2⟩ := ho.vr ρ (hup hρ)
          refine ⟨VRs_cons.2 ⟨?_, VRs_nil⟩, fun p hp => ?_⟩
          · simp only [VR]
            exact ⟨⟨b, off, cells.size⟩, ⟨b, off, none⟩, cap, hρ 0 _ rfl, rfl, h3, fun k hk => by injection hk, .inr ⟨by simp, by simpa using h6⟩⟩
          · rcases List.mem_cons.1 hp with rfl | hp
            · simp only [BlkOk]
              refine ⟨cells, el, fr, h5, rfl, by rw [hfl]; exact h6, fun i v hi => ?_, by simp, ho.one⟩
              have hi' := (List.getElem?_eq_some_iff.1 hi).1
              obtain ⟨c, hc1, hc2⟩ := r1.cell hi
              refine ⟨c, ?_, hc2⟩
              rw [List.getElem?_take_of_lt (by omega), List.getElem?_drop] at hc1
              simpa using hc1
            · exact r2 p hp
        · simp only [RdT, hu]
          refine .inr ⟨start, len, cap, rows, rfl, h3, h4, hr1, hs 0 _ rfl, ?_⟩
          refine ho.rd s fun i p hp => ?_
          have := hs (i + 1) p (by simpa using hp)
          rwa [show start + (i + 1) = start + 1 + i by omega] at this
    · cases h

/-! ### All arguments of a call -/
def argAV (P : Program) (t : TypeId) (vs : List AV) : AV := match P.underlying t with
  | some (.struct _) => .agg vs
  | _ => vs.headD .und
def RdA (P : Program) (s : St) (d : Nat) (t : TypeId) (v : AV) : Prop := ∃ vs, RdT P s d t vs ∧ v = argAV P t vs
def RdAs (P : Program) (s : St) (d : Nat) : List TypeId → List AV → Prop
  | [], xs => xs = []
  | t :: ts, xs => ∃ v r, xs = v :: r ∧ RdA P s d t v ∧ RdAs P s d ts r
structure OpnA (W : World) (Q : St → List AV → Prop) (start : Nat) (cs : List Value) (vs : List AV) (bl : List (AB × Loc)) : Prop where
  lt : ∀ p ∈ bl, p.2.b < W.heap.size
  own : ∀ p ∈ bl, p.1.owned = false
  vr : ∀ ρ : Ren, (∀ i p, bl[i]? = some p → ρ (start + i) = some p.2) → VRs ρ vs cs ∧ ∀ p ∈ bl, BlkOk ρ p.2 W p.1
  rd : ∀ s : St, (∀ i p, bl[i]? = some p → s.get (start + i) = some p.1) → Q s vs
theorem OpnA.cons {Q1 Q2 : St → List AV → Prop} {start : Nat} {c : Value} {cs : List Value} {v : AV} {vs : List AV} {b1 b2 : List (AB × Loc)} (h : OpnA W Q1 start [c] [v] b1) (k : OpnA W Q2 (start + b1.length) cs vs b2) :
    OpnA W (fun s _ => Q1 s [v] ∧ Q2 s vs) start (c :: cs) (v :: vs) (b1 ++ b2) := by
  have e1 : ∀ {i : Nat} {p}, b1[i]? = some p → (b1 ++ b2)[i]? = some p := fun {i p} hp => by
    rw [List.getElem?_append_left (List.getElem?_eq_some_iff.1 hp).1]; exact hp
  have e2 : ∀ {i : Nat} {p}, b2[i]? = some p → (b1 ++ b2)[b1.length + i]? = some p := fun {i p} hp => by
    rw [List.getElem?_append_right (by omega), Nat.add_sub_cancel_left]; exact hp
  refine ⟨fun p hp => ?_, fun p hp => ?_, fun ρ hρ => ?_, fun s hs => ⟨h.rd s fun i p hp => hs i p (e1 hp), k.rd s fun i p hp => ?_⟩⟩
  · rcases List.mem_append.1 hp with q | q
    · exact h.lt p q
    · exact k.lt p q
  · rcases List.mem_append.1 hp with q | q
    · exact h.own p q
    · exact k.own p q
  · obtain ⟨r1, r2⟩ := h.vr ρ fun i p hp => hρ i p (e1 hp)
    obtain ⟨r3, r4⟩ := k.vr ρ fun i p hp => by have := hρ _ p (e2 hp); rwa [← Nat.add_assoc] at this
    refine ⟨r1.append r3, fun p hp => ?_⟩
    rcases List.mem_append.1 hp with q | q
    · exact r2 p q
    · exact r4 p q
  · have := hs _ p (e2 hp)
    rwa [← Nat.add_assoc] at this
theorem arg_deep (hc : HasCellsD W) {d : Nat} {t : TypeId} (hok : okT P (d + 1) t = true) {v : Value} {x : DataW H} {p : List MemPlace} (h : DataW.Trod enc P W base (fun _ => true) held t v x p) {b0 : Nat} (hval : Value.okWide P W .any b0 t v) (start : Nat) :
    ∃ a bl, OpnA W (fun s _ => RdA P s (d + 1) t a) start [v] [a] bl := by
  obtain ⟨fuel, h⟩ := h
  obtain ⟨vs, bl, ho⟩ := deep_open hc (d + 1) t hok fuel _ _ h start
  have hone : ∀ (hv : v.cells.toList = [v]) (ha : argAV P t vs = vs.headD .und), ∃ a bl, OpnA W (fun s _ => RdA P s (d + 1) t a) start [v] [a] bl := by
    intro hv ha
    have hl := ho.len
    rw [hv] at hl
    match vs, hl with
    | [a], _ =>
      refine ⟨a, bl, ho.lt, ho.own, fun ρ hρ => ?_, fun s hs => ⟨[a], ho.rd s hs, by rw [ha]; rfl⟩⟩
      have := ho.vr ρ hρ
      rw [hv] at this
      exact this
  simp only [okT] at hok
  split at hok
  · rename_i hu
    obtain ⟨b, rfl⟩ := okWide_bool hu hval
    exact hone rfl (by simp [argAV, hu])
  · rename_i k hu
    obtain ⟨b, rfl⟩ := okWide_int hu hval
    exact hone rfl (by simp [argAV, hu])
  · rename_i hu
    obtain ⟨b, rfl⟩ := okWide_string hu hval
    exact hone rfl (by simp [argAV, hu])
  · rename_i fs hu
    obtain ⟨cs, rfl, _⟩ := okWide_struct hu hval
    refine ⟨.agg vs, bl, ho.lt, ho.own, fun ρ hρ => ?_, fun s hs => ⟨vs, ho.rd s hs, by simp [argAV, hu]⟩⟩
    obtain ⟨r1, r2⟩ := ho.vr ρ hρ
    refine ⟨VRs_cons.2 ⟨?_, VRs_nil⟩, r2⟩
    simp only [VR]
    exact ⟨cs.toList, by simp, r1⟩
  · rename_i e hu
    obtain ⟨a, len, cap, rfl⟩ := okWide_slice hu hval
    exact hone rfl (by simp [argAV, hu])
  · cases hok
theorem args_deep (hc : HasCellsD W) {d : Nat} : ∀ {ts : List TypeId} {vs : List Value} {ds : List (DataW H)} {ps : List MemPlace}, (∀ t ∈ ts, okT P (d + 1) t = true) → DataW.TrodAll enc P W base (fun _ => true) held ts vs ds ps →
    (∀ (j : Nat) t v, ts[j]? = some t → vs[j]? = some v → ∃ b0, Value.okWide P W .any b0 t v) → ∀ start, ∃ xs bl, OpnA W (fun s _ => RdAs P s (d + 1) ts xs) start vs xs bl
  | [], vs, ds, ps, _, h, _, start => by
    obtain ⟨rfl, rfl, rfl⟩ := trodAll_nil h
    exact ⟨[], [], by simp, by simp, fun ρ _ => ⟨VRs_nil, by simp⟩, fun s _ => rfl⟩
  | t :: ts, vs, ds, ps, hok, h, hval, start => by
    obtain ⟨v, vs1, x, ds1, a, b, rfl, rfl, rfl, h1, h2⟩ := trodAll_cons h
    obtain ⟨b0, hv⟩ := hval 0 t v rfl rfl
    obtain ⟨av, bl1, o1⟩ := arg_deep hc (hok t (by simp)) h1 hv start
    obtain ⟨xs, bl2, o2⟩ := args_deep hc (fun t' ht => hok t' (by simp [ht])) h2 (fun j t' v' e1 e2 => hval (j + 1) t' v' (by simpa using e1) (by simpa using e2)) (start + bl1.length)
    have := o1.cons o2
    exact ⟨av :: xs, bl1 ++ bl2, this.lt, this.own, this.vr, fun s hs => ⟨av, xs, rfl, this.rd s hs⟩⟩
open Classical in
noncomputable def lawC (P : Program) (d : Nat) (ts : List TypeId) : List AV → St → Option (AV × St) := fun xs s => if RdAs P s d ts xs then some (.bool true, { heap := s.heap, next := s.next, low := min s.low s.next }) else none
theorem deep_call {d : Nat} {ts : List TypeId} {args : List Value} {xs : List AV} {bl : List (AB × Loc)} (ho : OpnA W (fun s _ => RdAs P s d ts xs) 0 args xs bl) {f : Nat} (hs : SoundAt P f (lawC P d ts)) : Calls P f args.toArray W fun e W' => e = .returned (.bool true) ∧ Clean W W' := by
  obtain ⟨s0, hs0⟩ : ∃ s0 : St, s0 = ⟨(bl.map (·.1)).reverse, bl.length, 0⟩ := ⟨_, rfl⟩
  have hnx : s0.next = bl.length := by rw [hs0]
  have hget : ∀ i, s0.get i = (bl[i]?).map (·.1) := by
    intro i
    subst hs0
    unfold St.get
    simp only
    split
    · rename_i h
      rw [List.getElem?_reverse (by simp; omega)]
      simp only [List.length_map, List.getElem?_map]
      rw [show bl.length - 1 - (bl.length - 1 - i) = i by omega]
    · rename_i h
      rw [List.getElem?_eq_none (by omega)]
      rfl
  have hown : ∀ i b, s0.get i = some b → b.owned = false := by
    intro i b h
    rw [hget] at h
    obtain ⟨p, hp, rfl⟩ := Option.map_eq_some_iff.1 h
    exact ho.own p (List.mem_of_getElem? hp)
  obtain ⟨ρ, hρ⟩ : ∃ ρ : Ren, ρ = fun i => (bl[i]?).map (·.2) := ⟨_, rfl⟩
  have hρ1 : ∀ i p, bl[i]? = some p → ρ (0 + i) = some p.2 := fun i p hp => by rw [hρ, Nat.zero_add]; simp [hp]
  obtain ⟨hv, hb⟩ := ho.vr ρ hρ1
  have hR : R s0 ρ W := by
    refine ⟨fun i L h => ?_, fun i b L h1 h2 => ?_, fun i j L M bi bj _ _ _ e3 _ e5 _ => ?_⟩
    · rw [hρ] at h
      obtain ⟨p, hp, rfl⟩ := Option.map_eq_some_iff.1 h
      exact ho.lt p (List.mem_of_getElem? hp)
    · rw [hget] at h1
      rw [hρ] at h2
      obtain ⟨p, hp, rfl⟩ := Option.map_eq_some_iff.1 h1
      simp [hp] at h2
      subst h2
      exact hb p (List.mem_of_getElem? hp)
    · rw [hown i bi e3] at e5; cases e5
  have hrd := ho.rd s0 fun i p hp => by rw [Nat.zero_add, hget, hp]; rfl
  obtain ⟨_, _, h⟩ := hs xs s0 _ _ (by unfold lawC; rw [if_pos hrd])
  have := h ρ W args (fun i hi => by rw [hρ]; simp; omega) hR hv
  refine this.mono fun e W' hp => ?_
  obtain ⟨ρ', v, rfl, hv', hst, _⟩ := hp
  simp only [VR] at hv'
  subst hv'
  exact ⟨rfl, hst.size, hst.os, hst.tape, hst.output, hst.drawn, fun b hb => hst.frame b hb fun id L blk _ _ h1 h2 => by rw [hown id blk h1] at h2; cases h2⟩
theorem trodAll_len : ∀ {ts : List TypeId} {vs : List Value} {ds : List (DataW H)} {ps : List MemPlace}, DataW.TrodAll enc P W base (fun _ => true) held ts vs ds ps → ds.length = ts.length
  | [], vs, ds, ps, h => by
    obtain ⟨rfl, rfl, rfl⟩ := trodAll_nil h
    rfl
  | t :: ts, vs, ds, ps, h => by
    obtain ⟨v, vs1, x, ds1, a, b, rfl, rfl, rfl, h1, h2⟩ := trodAll_cons h
    simp [trodAll_len h2]
end Go.AM
end
/-
  What the arguments of the statements show: numbers, nodes, states, lists of states. Own work of this project.
-/
section
set_option linter.unusedVariables false
set_option linter.unusedSimpArgs false
set_option maxRecDepth 100000
namespace Go.AM
open Go Go.Proofs

variable {P : Program} {s : St}
theorem rd_cksF {ok : TypeId → Option (List CK)} {rd : TypeId → List AV → Prop} (IH : ∀ t ks vs, ok t = some ks → rd t vs → CKs ks vs) : ∀ (fs : List Field) (at_ sz : Nat) (ks : List CK) (vs : List AV),
    cks.cksF P ok fs at_ sz = some ks → RdF rd fs vs → CKs ks vs
  | [], at_, sz, ks, vs, h, hr => by
    simp only [cks.cksF] at h
    split at h
    · injection h with h; subst h
      exact hr
    · cases h
  | f :: r, at_, sz, ks, vs, h, hr => by
    simp only [cks.cksF] at h
    split at h
    · split at h
      · rename_i ks1 hk
        split at h
        · obtain ⟨ks2, h2, rfl⟩ := Option.map_eq_some_iff.1 h
          obtain ⟨a, b, rfl, h3, h4⟩ := hr
          exact (IH _ _ _ hk h3).append (rd_cksF IH r _ _ _ _ h2 h4)
        · cases h
      · cases h
    · cases h
theorem rd_cks : ∀ (d : Nat) (t : TypeId) (ks : List CK) (vs : List AV), cks P d t = some ks → RdT P s d t vs → CKs ks vs
  | 0, t, ks, vs, h, _ => by simp [cks] at h
  | d + 1, t, ks, vs, h, hr => by
    simp only [cks] at h
    split at h
    · rename_i hu
      injection h with h; subst h
      simp only [RdT, hu] at hr
      obtain ⟨x, rfl⟩ := hr
      exact ⟨_, _, rfl, ⟨x, rfl⟩, rfl⟩
    · rename_i k hu
      injection h with h; subst h
      simp only [RdT, hu] at hr
      obtain ⟨x, rfl, hw⟩ := hr
      exact ⟨_, _, rfl, ⟨x, rfl, hw⟩, rfl⟩
    · rename_i hu
      injection h with h; subst h
      simp only [RdT, hu] at hr
      obtain ⟨x, rfl⟩ := hr
      exact ⟨_, _, rfl, ⟨x, rfl⟩, rfl⟩
    · rename_i fs hu
      simp only [RdT, hu] at hr
      exact rd_cksF (fun t ks vs h1 h2 => rd_cks d t ks vs h1 h2) _ _ _ _ _ h hr
    · cases h
def ndKs : List CK := [.i .i64, .i .i64, .i .i64, .i .i64, .i .i64, .i .i32]
theorem rd_slice {d : Nat} {t e : TypeId} {vs : List AV} (hu : P.underlying t = some (.slice e)) (h : RdT P s (d + 1) t vs) : vs = [.nils] ∨ ∃ (id n cap : Nat) (rows : List (List AV)), vs = [.sl id 0 n (some cap) (P.cellsOf e)] ∧ n ≤ cap ∧ cap ≤ maxLen ∧ rows.length = cap ∧ s.get id = some (.row rows.flatten false) ∧ ∀ r ∈ rows, RdT P s d e r ∧ r.length = P.cellsOf e := by
  simp only [RdT, hu] at h
  exact h
theorem nd_cells : Tryz.prog.cellsOf 26 = 6 := by kernel_rfl
theorem nd_cks7 : cks Tryz.prog 7 26 = some ndKs := by kernel_rfl
theorem lawC_some {d : Nat} {ts : List TypeId} {xs : List AV} {r : AV} {s' : St} (h : lawC P d ts xs s = some (r, s')) : RdAs P s d ts xs ∧ r = .bool true ∧ s' = s.lowed := by
  unfold lawC at h
  split at h
  · rename_i hr
    injection h with h
    obtain ⟨rfl, rfl⟩ := Prod.mk.inj h
    exact ⟨hr, rfl, rfl⟩
  · cases h
theorem rdas_1 {d : Nat} {t : TypeId} {xs : List AV} (h : RdAs P s d [t] xs) : ∃ v, xs = [v] ∧ RdA P s d t v := by
  obtain ⟨v, r, rfl, h1, h2⟩ := h
  simp only [RdAs] at h2
  subst h2
  exact ⟨v, rfl, h1⟩
theorem rdas_2 {d : Nat} {t1 t2 : TypeId} {xs : List AV} (h : RdAs P s d [t1, t2] xs) : ∃ v w, xs = [v, w] ∧ RdA P s d t1 v ∧ RdA P s d t2 w := by
  obtain ⟨v, r, rfl, h1, h2⟩ := h
  obtain ⟨w, rfl, h3⟩ := rdas_1 h2
  exact ⟨v, w, rfl, h1, h3⟩
theorem rdas_3 {d : Nat} {t1 t2 t3 : TypeId} {xs : List AV} (h : RdAs P s d [t1, t2, t3] xs) : ∃ v w u, xs = [v, w, u] ∧ RdA P s d t1 v ∧ RdA P s d t2 w ∧ RdA P s d t3 u := by
  obtain ⟨v, r, rfl, h1, h2⟩ := h
  obtain ⟨w, u, rfl, h3, h4⟩ := rdas_2 h2
  exact ⟨v, w, u, rfl, h1, h3, h4⟩
end Go.AM
end
/-
  Arguments that are structs, field by field. Own work of this project.
-/
section
set_option linter.unusedVariables false
set_option linter.unusedSimpArgs false
namespace Go.AM
open Go

variable {s t u : St}
section
variable {P : Program}
def fieldsT (P : Program) (t : TypeId) : Option (List TypeId) := match P.underlying t with
  | some (.struct fs) => some (fs.toList.map (·.type))
  | _ => none
end
end Go.AM
end
/-
  What arguments show: dots, lists of dots, contexts. Own work of this project.
-/
section
set_option linter.unusedVariables false
set_option linter.unusedSimpArgs false
set_option maxRecDepth 100000
namespace Go.AM
open Go Go.Proofs

variable {P : Program} {s : St}
def dotKs : List CK := [.i .i64, .i .i64]
theorem dot_of_ks {r : List AV} (h : CKs dotKs r) : ∃ x : Dot, r = Dot.av x := by
  simp only [dotKs, CKs] at h
  obtain ⟨_, _, rfl, ⟨a, rfl, _⟩, _, _, rfl, ⟨b, rfl, _⟩, rfl⟩ := h
  exact ⟨⟨a, b⟩, rfl⟩
theorem dots_of_rows : ∀ {rows : List (List AV)}, (∀ r ∈ rows, CKs dotKs r) → ∃ l : List Dot, rows.flatten = dotC.cells l ∧ l.length = rows.length
  | [], _ => ⟨[], rfl, rfl⟩
  | r :: rows, h => by
    obtain ⟨x, rfl⟩ := dot_of_ks (h r (by simp))
    obtain ⟨l, h1, h2⟩ := dots_of_rows (rows := rows) fun r' hr' => h r' (by simp [hr'])
    exact ⟨x :: l, by rw [List.flatten_cons, h1, cells_cons]; rfl, by simp [h2]⟩
theorem rd_dotsT {d : Nat} {t e : TypeId} (hu : P.underlying t = some (.slice e)) (hc : P.cellsOf e = 2) (hk : cks P d e = some dotKs) {vs : List AV} (h : RdT P s (d + 1) t vs) : ∃ v l, vs = [v] ∧ read dotC s v = some l := by
  rcases rd_slice hu h with rfl | ⟨id, n, cap, rows, rfl, h1, _, h3, h4, h5⟩
  · exact ⟨.nils, [], rfl, rfl⟩
  · obtain ⟨l, e1, e2⟩ := dots_of_rows fun r hr => rd_cks d _ _ _ hk (h5 r hr).1
    rw [hc]
    refine ⟨_, l.take n, rfl, ?_⟩
    have hall : read dotC s (.sl id 0 cap (some cap) 2) = some l := by
      refine read_of (C := dotC) (by omega) h4 ?_ ?_
      · have : (dotC.cells l).length = l.length * 2 := cells_len dotC l
        rw [e1, this]
        show 0 + cap * 2 ≤ _
        omega
      · have : (dotC.cells l).length = l.length * 2 := cells_len dotC l
        rw [e1, List.drop_zero, show cap * dotC.sz = (dotC.cells l).length by rw [this]; show cap * 2 = _; omega, List.take_length]
    exact read_take hall n h1
theorem dot_cells : Tryz.prog.cellsOf 24 = 2 := by kernel_rfl
theorem dot_cks7 : cks Tryz.prog 7 24 = some dotKs := by kernel_rfl
theorem dots_under : Tryz.prog.underlying 39 = some (.slice 24) := by kernel_rfl
theorem arg_struct {t : TypeId} {ts : List TypeId} (h : fieldsT P t = some ts) (vs : List AV) : argAV P t vs = .agg vs := by
  unfold fieldsT at h
  split at h
  · rename_i fs hq
    simp [argAV, hq]
  · cases h
theorem rda_dots {v : AV} (h : RdA Tryz.prog s 8 39 v) : ∃ l, read dotC s v = some l := by
  obtain ⟨vs, h1, rfl⟩ := h
  obtain ⟨v, l, rfl, hr⟩ := rd_dotsT dots_under dot_cells dot_cks7 h1
  exact ⟨l, by simp [argAV, dots_under, hr]⟩
end Go.AM
end
/-
  What arguments show: nodes and lists of nodes, with what their runes can be. Own work of this project.
-/
section
set_option linter.unusedVariables false
set_option linter.unusedSimpArgs false
set_option maxRecDepth 100000
namespace Go.AM
open Go Go.Proofs

variable {P : Program} {s : St}
theorem wf_i32 {x : Int} (h : (Lit.int .i32 x).wf = true) : okR x := by
  have h1 : IntKind.i32.min = -2147483648 := by decide
  have h2 : IntKind.i32.max = 2147483647 := by decide
  simp [Lit.wf, h1, h2] at h
  unfold okR
  omega
theorem nd_of_ksR {r : List AV} (h : CKs ndKs r) : ∃ x : Nd, r = Nd.av x ∧ okR x.x := by
  simp only [ndKs, CKs] at h
  obtain ⟨_, _, rfl, ⟨a, rfl, _⟩, _, _, rfl, ⟨b, rfl, _⟩, _, _, rfl, ⟨c, rfl, _⟩, _, _, rfl, ⟨d, rfl, _⟩, _, _, rfl, ⟨e, rfl, _⟩, _, _, rfl, ⟨x, rfl, hw⟩, rfl⟩ := h
  exact ⟨⟨⟨a, b⟩, ⟨c, d⟩, e, x⟩, rfl, wf_i32 hw⟩
theorem nds_of_rowsR : ∀ {rows : List (List AV)}, (∀ r ∈ rows, CKs ndKs r) → ∃ l : List Nd, rows.flatten = ndC.cells l ∧ l.length = rows.length ∧ okL l
  | [], _ => ⟨[], rfl, rfl, fun n h => by simp at h⟩
  | r :: rows, h => by
    obtain ⟨x, rfl, hx⟩ := nd_of_ksR (h r (by simp))
    obtain ⟨l, h1, h2, h3⟩ := nds_of_rowsR (rows := rows) fun r' hr' => h r' (by simp [hr'])
    exact ⟨x :: l, by rw [List.flatten_cons, h1, cells_cons]; rfl, by simp [h2], fun n hn => by
      rcases List.mem_cons.1 hn with rfl | hn
      · exact hx
      · exact h3 n hn⟩
theorem nds_under : Tryz.prog.underlying 22 = some (.slice 26) := by kernel_rfl
theorem nd_isS : ∀ vs, argAV Tryz.prog 26 vs = .agg vs := by
  intro vs
  have h : (fieldsT Tryz.prog 26).isSome = true := by kernel_rfl
  obtain ⟨ts, hts⟩ := Option.isSome_iff_exists.1 h
  exact arg_struct hts vs
theorem rda_nodes {v : AV} (h : RdA Tryz.prog s 8 22 v) : ∃ l, read ndC s v = some l ∧ okL l ∧ CapOK v := by
  obtain ⟨vs, h1, rfl⟩ := h
  rcases rd_slice nds_under h1 with rfl | ⟨id, n, cap, rows, rfl, h1, _, h3, h4, h5⟩
  · have : argAV Tryz.prog 22 [.nils] = .nils := by simp [argAV, nds_under]
    rw [this]
    exact ⟨[], rfl, fun n h => by simp at h, .nils⟩
  · have : argAV Tryz.prog 22 [.sl id 0 n (some cap) (Tryz.prog.cellsOf 26)] = .sl id 0 n (some cap) (Tryz.prog.cellsOf 26) := by simp [argAV, nds_under]
    rw [this]
    obtain ⟨l, e1, e2, e3⟩ := nds_of_rowsR fun r hr => rd_cks 7 _ _ _ nd_cks7 (h5 r hr).1
    rw [nd_cells]
    refine ⟨l.take n, ?_, fun x hx => e3 x (List.mem_of_mem_take hx), ?_⟩
    · have hall : read ndC s (.sl id 0 cap (some cap) 6) = some l := by
        refine read_of (C := ndC) (by omega) h4 ?_ ?_
        · have : (ndC.cells l).length = l.length * 6 := cells_len ndC l
          rw [e1, this]
          show 0 + cap * 6 ≤ _
          omega
        · have : (ndC.cells l).length = l.length * 6 := cells_len ndC l
          rw [e1, List.drop_zero, show cap * ndC.sz = (ndC.cells l).length by rw [this]; show cap * 6 = _; omega, List.take_length]
      exact read_take hall n h1
    · intro _ _ _ c _ e
      injection e with _ _ e1 e2
      injection e2 with e2
      omega
theorem rda_node {v : AV} (h : RdA Tryz.prog s 8 26 v) : ∃ n : Nd, v = .agg (Nd.av n) ∧ okR n.x := by
  obtain ⟨vs, h1, rfl⟩ := h
  have h8 : cks Tryz.prog 8 26 = some ndKs := by kernel_rfl
  obtain ⟨x, rfl, hx⟩ := nd_of_ksR (rd_cks 8 _ _ _ h8 h1)
  exact ⟨x, nd_isS _, hx⟩
end Go.AM
end
/-
  What the statements of layer 10 call; StoreValid, StorePuts, StoreKills. Own work of this project; in part printed by a program of it.
-/
section
set_option linter.unusedVariables false
set_option linter.unusedSimpArgs false
set_option maxRecDepth 100000
set_option maxHeartbeats 8000000
namespace Go.AM
open Go Go.Proofs

variable {s t u : St}

theorem bin_eqE (k : IntKind) (a b : Int) : binOp .eql .no (.int k a) (.int k b) = some (.bool (decide (a = b))) := bin_eql .no k a b
noncomputable def R_gives : Con := runFn (tb [(17, R_REq)]) a34
theorem s_gives : SoundAt Tryz.prog 34 R_gives := run_sound (tb_sound (l := [(17, R_REq)]) (by simpa using s_REq)) mixed Tryz.func34 k34 c34
theorem n_gives : noNxtC a34.body = true := by kernel_rfl
theorem w_gives {s : St} {va vb : AV} {a b : List Nd} (hra : read ndC s va = some a) (hrb : read ndC s vb = some b) (hla : a.length ≤ lim) (hlb : b.length ≤ lim) (w c : Int) : ∀ env : Env, elen env = a34.ntmps → (∀ i x_, [va, .int .i64 w, vb, .int .i64 c][i]? = some x_ → E env i = x_) → awp (tb [(17, R_REq)]) a34.body (fun x e t => (∀ i, x ≠ .exit i) ∧ aresults e t a34.results = some (.bool (decide (a = b) && decide (w = c))) ∧ Keep s t) env s := by
  intro env hlen ha
  have h0 : E env 0 = _ := ha 0 _ rfl
  have h1 : E env 1 = _ := ha 1 _ rfl
  have h2 : E env 2 = _ := ha 2 _ rfl
  have h3 : E env 3 = _ := ha 3 _ rfl
  have hlen : elen env = _ := hlen
  simp only [a34] at hlen
  unfold a34
  try dsimp only [oO, oG]
  have q := q_REq false hra hla hrb hlb
  simp (config := {contextual := true, maxDischargeDepth := 12}) only [tb_at, h0, h1, h2, h3, hlen, q, ↓bD, bU, forall_const, bS, implies_true, isNx, eq_self, ↓wp_cond, ↓wp_loop, ↓reduceIte, reduceCtorEq, Nat.reduceEqDiff, Nat.reduceLT, Nat.reduceAdd, Nat.reduceMul, bT, ↓sg_bsl, ↓st_callf, bX, List.cons_append, List.nil_append, ↓st_appf, bY, slcV_nils0N, slcV_sl0N, bslV_0N, bin_shr1, bsl_nd, q_known]
  all_goals first | exact .refl s | skip
theorem q_gives (cl : Bool) {s : St} {va vb : AV} {a b : List Nd} (hra : read ndC s va = some a) (hrb : read ndC s vb = some b) (hla : a.length ≤ lim) (hlb : b.length ≤ lim) (w c : Int) : acall R_gives cl [va, .int .i64 w, vb, .int .i64 c] s = some (.bool (decide (a = b) && decide (w = c)), s) := run_same n_gives (by simp [a34]) rfl (w_gives (s := lowd s) (read_low' hra) (read_low' hrb) hla hlb w c)
noncomputable def R_made : Con := runFn (tb [(29, conF ndC (pL ndC gOf)), (34, R_gives)]) a35
theorem s_made : SoundAt Tryz.prog 35 R_made := run_sound (tb_sound (l := [(29, conF ndC (pL ndC gOf)), (34, R_gives)]) (by simpa using ⟨s_Of, s_gives⟩)) mixed Tryz.func35 k35 c35
theorem n_made : noNxtC a35.body = true := by kernel_rfl
theorem w_made {s : St} {vl : AV} {l : List Nd} (hr : read ndC s vl = some l) (hl : l.length ≤ 200000) {vb : AV} {b : List Nd} (hrb : read ndC s vb = some b) (hlb : b.length ≤ lim) (c : Int) : ∀ env : Env, elen env = a35.ntmps → (∀ i x_, [vl, vb, .int .i64 c][i]? = some x_ → E env i = x_) → awp (tb [(29, conF ndC (pL ndC gOf)), (34, R_gives)]) a35.body (fun x e t => (∀ i, x ≠ .exit i) ∧ aresults e t a35.results = some (.bool (decide ((ofP l).1 = b) && decide ((ofP l).2 = c))) ∧ Keep s t) env s := by
  intro env hlen ha
  have h0 : E env 0 = _ := ha 0 _ rfl
  have h1 : E env 1 = _ := ha 1 _ rfl
  have h2 : E env 2 = _ := ha 2 _ rfl
  have hlen : elen env = _ := hlen
  simp only [a35] at hlen
  unfold a35
  try dsimp only [oO, oG]
  obtain ⟨w, t, q1, hO, hKa⟩ := q_SOf hr (by unfold lim; omega)
  have qg := q_gives false (hO.read) (hKa.read hrb) (Nat.le_trans (ofP_lenS l) (by unfold lim; omega)) hlb ((ofP l).2) c
  simp (config := {contextual := true, maxDischargeDepth := 12}) only [tb_at, h0, h1, h2, hlen, q1, qg, ↓bD, bU, forall_const, bS, implies_true, isNx, eq_self, ↓wp_cond, ↓wp_loop, ↓reduceIte, reduceCtorEq, Nat.reduceEqDiff, Nat.reduceLT, Nat.reduceAdd, Nat.reduceMul, bT, ↓sg_bsl, ↓st_callf, bX, List.cons_append, List.nil_append, ↓st_appf, bY, slcV_nils0N, slcV_sl0N, bslV_0N, bin_shr1, bsl_nd, q_known]
  all_goals first | exact hKa | skip
theorem q_made (cl : Bool) {s : St} {vl : AV} {l : List Nd} (hr : read ndC s vl = some l) (hl : l.length ≤ 200000) {vb : AV} {b : List Nd} (hrb : read ndC s vb = some b) (hlb : b.length ≤ lim) (c : Int) : acall R_made cl [vl, vb, .int .i64 c] s = some (.bool (decide ((ofP l).1 = b) && decide ((ofP l).2 = c)), s) := run_same n_made (by simp [a35]) rfl (w_made (s := lowd s) (read_low' hr) hl (read_low' hrb) hlb c)

theorem putP_len (l : List Nd) (n : Nd) : (putP l n).1.length ≤ l.length + 1 := by
  unfold putP
  split
  · have := ofP_lenS (l ++ [n])
    simpa using this
  · simp
noncomputable def R_puts : Con := runFn (tb [(30, R_SPut), (34, R_gives)]) a15
theorem s_puts : SoundAt Tryz.prog 15 R_puts := run_sound (tb_sound (l := [(30, R_SPut), (34, R_gives)]) (by simpa using ⟨s_SPut, s_gives⟩)) mixed Tryz.func15 k15 c15
theorem n_puts : noNxtC a15.body = true := by kernel_rfl
theorem w_puts {s : St} {vl : AV} {l : List Nd} (hr : read ndC s vl = some l) (hl : l.length ≤ 200000) (nn : Nd) {vb : AV} {b : List Nd} (hrb : read ndC s vb = some b) (hlb : b.length ≤ lim) (c : Int) : ∀ env : Env, elen env = a15.ntmps → (∀ i x_, [vl, .agg (Nd.av nn), vb, .int .i64 c][i]? = some x_ → E env i = x_) → awp (tb [(30, R_SPut), (34, R_gives)]) a15.body (fun x e t => (∀ i, x ≠ .exit i) ∧ aresults e t a15.results = some (.bool (decide ((putP l nn).1 = b) && decide ((putP l nn).2 = c))) ∧ Keep s t) env s := by
  intro env hlen ha
  have h0 : E env 0 = _ := ha 0 _ rfl
  have h1 : E env 1 = _ := ha 1 _ rfl
  have h2 : E env 2 = _ := ha 2 _ rfl
  have h3 : E env 3 = _ := ha 3 _ rfl
  have hlen : elen env = _ := hlen
  simp only [a15] at hlen
  unfold a15
  try dsimp only [oO, oG]
  have hK1 : Keep s (s.push (.row (Nd.av nn) true)) := (Keep.refl s).push _
  obtain ⟨b1, b2, b3, b4, b5, b6⟩ := box_nd s nn (.refl _)
  obtain ⟨w, t, q1, hO, hK2⟩ := q_SPut (hK1.read hr) hl nn
  have hKa := hK1.trans hK2
  have qg := q_gives false (hO.read) (hKa.read hrb) (Nat.le_trans (putP_len l nn) (by unfold lim; omega)) hlb ((putP l nn).2) c
  simp (config := {contextual := true, maxDischargeDepth := 12}) only [tb_at, h0, h1, h2, h3, hlen, q1, qg, b1, b6, ↓bD, bU, forall_const, bS, implies_true, isNx, eq_self, ↓wp_cond, ↓wp_loop, ↓reduceIte, reduceCtorEq, Nat.reduceEqDiff, Nat.reduceLT, Nat.reduceAdd, Nat.reduceMul, bT, ↓sg_bsl, ↓st_callf, bX, List.cons_append, List.nil_append, ↓st_appf, bY, slcV_nils0N, slcV_sl0N, bslV_0N, bin_shr1, bsl_nd, q_known]
  all_goals first | exact hKa | skip
theorem q_puts (cl : Bool) {s : St} {vl : AV} {l : List Nd} (hr : read ndC s vl = some l) (hl : l.length ≤ 200000) (nn : Nd) {vb : AV} {b : List Nd} (hrb : read ndC s vb = some b) (hlb : b.length ≤ lim) (c : Int) : acall R_puts cl [vl, .agg (Nd.av nn), vb, .int .i64 c] s = some (.bool (decide ((putP l nn).1 = b) && decide ((putP l nn).2 = c)), s) := run_same n_puts (by simp [a15]) rfl (w_puts (s := lowd s) (read_low' hr) hl nn (read_low' hrb) hlb c)
end Go.AM
end
/-
  StorePuts. Own work of this project; in part printed by a program of it.
-/
section
set_option linter.unusedVariables false
set_option linter.unusedSimpArgs false
set_option maxRecDepth 100000
set_option maxHeartbeats 8000000
namespace Go.AM
open Go Go.Proofs

variable {s t u : St}

end Go.AM
end
/-
  StoreKills, StoreValid. Own work of this project; in part printed by a program of it.
-/
section
set_option linter.unusedVariables false
set_option linter.unusedSimpArgs false
set_option maxRecDepth 100000
set_option maxHeartbeats 8000000
namespace Go.AM
open Go Go.Proofs

variable {s t u : St}

end Go.AM
end
/-
  StoreValid. Own work of this project; in part printed by a program of it.
-/
section
set_option linter.unusedVariables false
set_option linter.unusedSimpArgs false
set_option maxRecDepth 100000
set_option maxHeartbeats 8000000
namespace Go.AM
open Go Go.Proofs

variable {s t u : St}
end Go.AM
end
/-
  What StoreLooks asks: contexts, times, the parents that are lacking. Own work of this project; in part printed by a program of it.
-/
section
set_option linter.unusedVariables false
set_option linter.unusedSimpArgs false
set_option maxRecDepth 100000
set_option maxHeartbeats 8000000
namespace Go.AM
open Go Go.Proofs

variable {s t u : St}

def deadL (l : List Nd) : List Nd := l.filter fun n => decide (n.x = 0)
theorem dots_valid {l m : List Nd} (h : storeL l = true) (k : ∀ x ∈ m, x ∈ l) : (m.map Nd.d).all Dot.valid = true := by
  rw [List.all_map, List.all_eq_true]
  intro x hx
  have := store_mem h (k x hx)
  simp only [Nd.valid, Bool.and_eq_true] at this
  exact this.1.1.1.1.1
noncomputable def R_SDead : Con := runFn (tb [(31, conL ndC fValid), (72, R_SClN), (75, R_DelN), (65, conF dotC (pL ndC gDots)), (74, R_COf)]) a38
theorem s_SDead : SoundAt Tryz.prog 38 R_SDead := run_sound (tb_sound (l := [(31, conL ndC fValid), (72, R_SClN), (75, R_DelN), (65, conF dotC (pL ndC gDots)), (74, R_COf)]) (by simpa using ⟨s_StValid, s_SClN, s_DelN, s_Dots, s_COf⟩)) mixed Tryz.func38 k38 c38
theorem n_SDead : noNxtC a38.body = true := by kernel_rfl
theorem w_SDead {s : St} {vl : AV} {l : List Nd} (hr : read ndC s vl = some l) (hl : l.length ≤ 1000) (hst : storeL l = true) : ∀ env : Env, elen env = a38.ntmps → (∀ i x_, [vl][i]? = some x_ → E env i = x_) → awp (tb [(31, conL ndC fValid), (72, R_SClN), (75, R_DelN), (65, conF dotC (pL ndC gDots)), (74, R_COf)]) a38.body (fun x e t => (∀ i, x ≠ .exit i) ∧ ∃ r, aresults e t a38.results = some r ∧ (∃ vv cc, r = .tup [.agg [vv, cc], .int .i64 0] ∧ CR t vv cc (addC ⟨[], []⟩ ((deadL l).map Nd.d))) ∧ Keep s t) env s := by
  intro env hlen ha
  have h0 : E env 0 = _ := ha 0 _ rfl
  have hlen : elen env = _ := hlen
  simp only [a38] at hlen
  unfold a38
  try dsimp only [oO, oG]
  have hK1 : Keep s (s.push (.row [.nils, .nils] true)) := (Keep.refl s).push _
  have qv := q_StValid false (hK1.read hr) (by unfold lim; omega)
  rw [hst] at qv
  obtain ⟨w0, tc, qc, ⟨hN0, hcap⟩, hKc0⟩ := q_SClN (hK1.read hr) (by unfold lim; omega)
  obtain ⟨w1, td, qx, hN1, hC1⟩ := q_DelN hN0.nw hcap (by unfold lim; omega) (g := 76) (caps := []) (fun n => !decide (n.x = 0)) (fun t d _ => q_DeadF false d) (fun t d _ => q_DeadF false d)
  have hE : l.filter (fun d => !!decide (d.x = 0)) = deadL l := by simp [deadL]
  rw [hE] at hN1
  have hKd0 := hKc0.chgn hC1 (newX_vids hN0)
  have hdl : (deadL l).length ≤ 1000 := Nat.le_trans (List.length_filter_le _ _) hl
  obtain ⟨u1, t1, hd, hKd, hOd⟩ := fresh_L (D := dotC) (f := gDots) hN1.read (by unfold lim; omega) rfl (by simp)
  rw [mkR_none] at hd
  obtain ⟨vv, cc, t3, q1, hR, hKc⟩ := q_COf hOd.read (by rw [List.length_map]; omega) (dots_valid hst fun x hx => (List.mem_filter.1 hx).1)
  have hKr := (hKd0.trans hKd).trans hKc
  have hrb : t3.get (s).next = some (.row [.nils, .nils] true) := hKr.blk (St.get_push_new (s) _)
  have hstr := sto_row2 hrb (read_oneD hR.1).2 (read_oneD hR.2).2
  have hlr := St.get_lt hrb
  have hlo : lod (t3.put (s).next (.row [vv, cc] true)) 2 (.ptr (s).next 0) = some (.agg [vv, cc]) := lod_row2 (St.get_put_same hrb)
  skip
  simp (config := {contextual := true, maxDischargeDepth := 12}) only [tb_at, h0, hlen, qv, hd, q1, qc, qx, ap_build, fillP_nil, rc2, hstr, hlo, notV_bool, Bool.not_true, ↓bD, bU, forall_const, bS, implies_true, isNx, eq_self, ↓wp_cond, ↓wp_loop, ↓reduceIte, reduceCtorEq, Nat.reduceEqDiff, Nat.reduceLT, Nat.reduceAdd, Nat.reduceMul, bT, ↓sg_bsl, ↓st_callf, bX, List.cons_append, List.nil_append, ↓st_appf, bY, slcV_nils0N, slcV_sl0N, bslV_0N, bin_shr1, bsl_nd, q_known]
  exact ⟨_, rfl, ⟨vv, cc, rfl, cr_put hrb (by intro k n h; cases h) hR⟩, (hK1.trans hKr).put _ (by simp) hlr⟩
theorem q_SDead {s : St} {vl : AV} {l : List Nd} (hr : read ndC s vl = some l) (hl : l.length ≤ 1000) (hst : storeL l = true) : ∃ vv cc t, acall R_SDead false [vl] s = some (.tup [.agg [vv, cc], .int .i64 0], t) ∧ CR t vv cc (addC ⟨[], []⟩ ((deadL l).map Nd.d)) ∧ Keep s t := by
  obtain ⟨r, t, h1, ⟨vv, cc, rfl, h2⟩, h3⟩ := run_any n_SDead (args := [vl]) (Q := fun r t => ∃ vv cc, r = .tup [.agg [vv, cc], .int .i64 0] ∧ CR t vv cc (addC ⟨[], []⟩ ((deadL l).map Nd.d))) (by simp [a38]) (fun r t t' hg hn ⟨vv, cc, e, h⟩ => ⟨vv, cc, e, h.mono fun id b hb => by rw [hg]; exact hb⟩) (fun r t hgr hk ⟨vv, cc, e, h⟩ => ⟨vv, cc, e, by
    rw [e] at hgr
    exact h.ground (plain_ground (ground_tup hgr).1) (plain_ground (ground_tup hgr).2)⟩) (w_SDead (s := lowd s) (read_low' hr) hl hst)
  exact ⟨vv, cc, t, h1, h2, h3⟩
end Go.AM
end
/-
  What StoreLooks asks: the reference, the helpers. Own work of this project; in part printed by a program of it.
-/
section
set_option linter.unusedVariables false
set_option linter.unusedSimpArgs false
set_option maxRecDepth 100000
set_option maxHeartbeats 8000000
namespace Go.AM
open Go Go.Proofs

variable {s t u : St}
end Go.AM
end
/-
  StoreLooks. Own work of this project; in part printed by a program of it.
-/
section
set_option linter.unusedVariables false
set_option linter.unusedSimpArgs false
set_option maxRecDepth 100000
set_option maxHeartbeats 8000000
namespace Go.AM
open Go Go.Proofs

variable {s t u : St}
end Go.AM
end
/-
  Plain laws of StoreHolds. Own work of this project.
-/
section
set_option linter.unusedVariables false
set_option linter.unusedSimpArgs false
set_option maxRecDepth 100000
set_option maxHeartbeats 8000000
namespace Go.AM
open Go Go.Proofs

theorem rput_has {l : List Nd} (hl : l.Pairwise ltP) (n : Nd) (h : (rput l n).2 = 0) : (rput l n).1.length = if hasN l n.d = true then l.length else l.length + 1 := by
  have hl2 : l.length = (l.take (kOf l n.d)).length + (l.drop (kOf l n.d)).length := by rw [← List.length_append, List.take_append_drop]
  have hf := fnd_has hl n.d
  have hg : l[kOf l n.d]? = (l.drop (kOf l n.d))[0]? := by rw [List.getElem?_drop, Nat.add_zero]
  unfold fndN at hf
  rw [hg] at hf
  unfold rput at h ⊢
  split at h
  · rename_i e
    rw [e] at hf hl2
    simp only [List.getElem?_nil] at hf
    rw [← hf]
    simp only [List.length_append, List.length_cons, List.length_nil] at hl2 ⊢
    simp
    simpa using hl2.symm
  · rename_i x r e
    rw [e] at hf hl2
    simp only [List.getElem?_cons_zero] at hf
    rw [← hf]
    simp only [List.length_cons] at hl2
    by_cases hd : x.d = n.d
    · rw [if_pos hd] at h ⊢
      split at h
      · simp at h
      · rename_i hc
        rw [if_neg hc]
        simp only [hd, decide_true, if_true, List.length_append, List.length_cons]
        omega
    · rw [if_neg hd]
      simp only [hd, decide_false, List.length_append, List.length_cons]
      simp only [Bool.false_eq_true, if_false]
      omega
/-- What Put tells. -/
theorem put_facts {l : List Nd} {n : Nd} (hl : storeL l = true) (h : (putP l n).2 = 0) : storeL (putP l n).1 = true ∧ n.d.valid = true ∧ putP (putP l n).1 n = ((putP l n).1, 0) ∧ (putP l n).1.length ≤ l.length + 1 ∧ ∃ now, findP (putP l n).1 n.d = (now, 0) ∧ (now.x ≠ 0 → n.x ≠ 0) ∧ ((∃ was, findP l n.d = (was, 0) ∧ (now.x ≠ 0 → was.x ≠ 0) ∧ (putP l n).1.length = l.length) ∨ (findP l n.d = (nd0, 9) ∧ (putP l n).1.length = l.length + 1)) := by
  have hp : putP l n = ofP (l ++ [n]) := by unfold putP; rw [if_pos hl]
  rw [hp] at h
  obtain ⟨h1, h2, h3⟩ := ofP_store h
  have hnv : n.valid = true := List.all_eq_true.1 h3 n (by simp)
  have hdv : n.d.valid = true := by
    have := hnv
    simp only [Nd.valid, Bool.and_eq_true] at this
    exact this.1.1.1.1.1
  obtain ⟨j, hj, hR⟩ := ofP_res h3 h2
  have hq := put_eq hl hnv
  have hlen := rput_has (store_sorted hl) n (by rw [← hq]; exact h)
  rw [← hq] at hlen
  rw [hp]
  have hst : storeL j = true := by rw [hj] at h1; exact h1
  rw [hj] at hlen ⊢
  obtain ⟨now, hn1, hn2⟩ := hR.cover n (by simp)
  have hmem : ∀ x, x ∈ (l ++ [n]) ++ [n] ↔ x ∈ l ++ [n] := fun x => by simp only [List.mem_append, List.mem_singleton]; exact ⟨fun h => h.elim id .inr, .inl⟩
  have hstep := put_step (p := l ++ [n]) (n := n) (by rw [List.all_append, h3]; simp [hnv]) (h2.sub fun x hx => (hmem x).1 hx)
  rw [ofP_congr hmem, hj] at hstep
  refine ⟨hst, hdv, ?_, ?_, now, ?_, ?_, ?_⟩
  · unfold putP
    rw [if_pos hst]
    exact hstep.1
  · show j.length ≤ _
    have hlen : j.length = _ := hlen
    split at hlen <;> omega
  · unfold findP
    rw [if_pos ⟨hst, hdv⟩, ← hn2, getN_mem hR.sorted hn1]
  · intro hx hn0
    exact hx (hR.dead now hn1 n (by simp) hn2.symm hn0)
  · have hlen : j.length = _ := hlen
    cases hh : hasN l n.d
    · right
      rw [hh] at hlen
      refine ⟨?_, by simpa using hlen⟩
      unfold findP
      rw [if_pos ⟨hl, hdv⟩]
      rcases getN_at (store_sorted hl) n.d with ⟨q1, _⟩ | ⟨_, q2⟩
      · rw [fnd_has (store_sorted hl), hh] at q1; cases q1
      · rw [q2]
    · left
      rw [hh, if_pos rfl] at hlen
      obtain ⟨w, hw, e⟩ := hasN_iff.1 hh
      refine ⟨w, ?_, fun hx hw0 => hx (hR.dead now hn1 w (by simp [hw]) (e.trans hn2.symm) hw0), hlen⟩
      unfold findP
      rw [if_pos ⟨hl, hdv⟩, ← e, getN_mem (store_sorted hl) hw]
/-- After Kill the context of the dead has the dots. -/
theorem kill_dead {l : List Nd} {ds : List Dot} (hl : storeL l = true) (hd : ds.all (hasN l) = true) (hv : ds.all Dot.valid = true) : (setL ds).filter (fun d => !chas (addC ⟨[], []⟩ ((deadL (killL l ds)).map Nd.d)) d) = [] := by
  rw [List.filter_eq_nil_iff]
  intro d hm
  rw [setL_mem] at hm
  have hdv := List.all_eq_true.1 hv d hm
  obtain ⟨x, hx, e⟩ := hasN_iff.1 (List.all_eq_true.1 hd d hm)
  have hin : d ∈ (deadL (killL l ds)).map Nd.d := by
    rw [List.mem_map]
    refine ⟨kill1 x, ?_, e⟩
    unfold deadL
    rw [List.mem_filter]
    refine ⟨?_, by simp [kill1]⟩
    unfold killL
    rw [List.mem_map]
    exact ⟨x, hx, by rw [if_pos (by rw [e]; exact hm)]⟩
  have hok := dots_valid (killL_store hl ds) (m := deadL (killL l ds)) fun x hx => (List.mem_filter.1 hx).1
  rw [add_has (show cvalid ⟨[], []⟩ = true from rfl) hok]
  simp [hdv, hin]
end Go.AM
end
