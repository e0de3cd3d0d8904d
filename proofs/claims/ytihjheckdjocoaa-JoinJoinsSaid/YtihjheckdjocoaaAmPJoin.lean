/-
  Plain laws: the program's join is the reference's. Own work of this project.
-/
import Derived.Test.YtihjheckdjocoaaAmFX
set_option linter.unusedVariables false
set_option linter.unusedSimpArgs false
namespace Go.AM
open Go Go.Proofs

theorem chain_pairwise : ∀ {l : List Nd}, chain ndLt l = true → l.Pairwise ltP
  | [], _ => .nil
  | [x], _ => by simp
  | x :: y :: r, h => by
    rw [chain, Bool.and_eq_true] at h
    have ih := chain_pairwise (l := y :: r) h.2
    have hxy : ltP x y := h.1
    rw [List.pairwise_cons]
    refine ⟨fun z hz => ?_, ih⟩
    rcases List.mem_cons.1 hz with rfl | hz
    · exact hxy
    · exact ltP_trans hxy ((List.pairwise_cons.1 ih).1 z hz)
theorem pairwise_chain : ∀ {l : List Nd}, l.Pairwise ltP → chain ndLt l = true
  | [], _ => rfl
  | [x], _ => rfl
  | x :: y :: r, h => by
    rw [List.pairwise_cons] at h
    rw [chain, Bool.and_eq_true]
    exact ⟨h.1 y (by simp), pairwise_chain h.2⟩
theorem ltP_ne {x y : Nd} (h : ltP x y) : x.d ≠ y.d := by
  intro e
  unfold ltP at h
  rw [e, before_irr] at h
  cases h
theorem look_cons_ne {x : Nd} {r : List Nd} {d : Dot} (h : x.d ≠ d) : lookN (x :: r) d = (lookN r d).map fun p => (p.1 + 1, p.2) := by
  simp [lookN, h]
theorem look_cons_eq {x : Nd} {r : List Nd} {d : Dot} (h : x.d = d) : lookN (x :: r) d = some (0, x) := by
  simp [lookN, h]
theorem look_above {l : List Nd} {x : Nd} (h : ∀ y ∈ l, ltP x y) : lookN l x.d = none := by
  induction l with
  | nil => rfl
  | cons y r ih =>
    rw [look_cons_ne (Ne.symm (ltP_ne (h y (by simp)))), ih fun z hz => h z (by simp [hz])]
    rfl
theorem jstep_above {x : Nd} {a : List Nd} {y : Nd} (h : ltP x y) : jstep (x :: a) y = x :: jstep a y := by
  unfold jstep
  rw [look_cons_ne (ltP_ne h)]
  cases hl : lookN a y.d with
  | none =>
    have hb : x.d.before y.d = true := h
    simp [putL, posL, hb]
  | some p => simp
theorem refJ_above {x : Nd} : ∀ {m a : List Nd}, (∀ y ∈ m, ltP x y) → refJ (x :: a) m = x :: refJ a m
  | [], a, _ => rfl
  | y :: r, a, h => by
    show refJ (jstep (x :: a) y) r = x :: refJ (jstep a y) r
    rw [jstep_above (h y (by simp)), refJ_above fun z hz => h z (by simp [hz])]
theorem jstep_below {x y : Nd} {a : List Nd} (h : ∀ z ∈ x :: a, ltP y z) : jstep (x :: a) y = y :: x :: a := by
  have hx := h x (by simp)
  have hb : x.d.before y.d = false := by
    cases hh : x.d.before y.d
    · rfl
    · exact (ltP_asymm hx hh).elim
  unfold jstep
  rw [look_above h]
  simp [putL, posL, hb]
theorem refJ_nil : ∀ {m : List Nd}, m.Pairwise ltP → refJ [] m = m
  | [], _ => rfl
  | y :: r, h => by
    rw [List.pairwise_cons] at h
    show refJ (jstep [] y) r = y :: r
    have : jstep [] y = [y] := rfl
    rw [this, refJ_above h.1, refJ_nil h.2]
theorem agree_skip {a b : List Nd} {y : Nd} (h : ∀ z ∈ a, ltP y z) : agreeL a (y :: b) = agreeL a b := by
  induction a with
  | nil => rfl
  | cons x r ih =>
    rw [agreeL_cons, agreeL_cons, ih fun z hz => h z (by simp [hz]), look_cons_ne (ltP_ne (h x (by simp)))]
    cases lookN b x.d <;> rfl
theorem agree_nil : ∀ (a : List Nd), agreeL a [] = true
  | [] => rfl
  | x :: r => by rw [agreeL_cons, agree_nil r]; rfl
theorem join_ref : ∀ (l m : List Nd), l.Pairwise ltP → m.Pairwise ltP → joinL l m = if agreeL l m = true then some (refJ l m) else none := by
  intro l m
  induction l, m using joinL.induct with
  | case1 b => intro _ h; simp [joinL, agreeL, refJ_nil h]
  | case2 x a => intro _ _; simp [joinL, agree_nil, refJ]
  | case3 x a y b h1 ih =>
    intro hl hm
    rw [List.pairwise_cons] at hl
    have hall : ∀ z ∈ y :: b, ltP x z := by
      intro z hz
      rcases List.mem_cons.1 hz with rfl | hz
      · exact h1
      · exact ltP_trans h1 ((List.pairwise_cons.1 hm).1 z hz)
    rw [joinL, if_pos h1, ih hl.2 hm, agreeL_cons, look_above hall, refJ_above hall]
    simp only [Bool.true_and]
    split <;> rfl
  | case4 x a y b h1 h2 ih =>
    intro hl hm
    have hm' := List.pairwise_cons.1 hm
    have hl' := List.pairwise_cons.1 hl
    have hall : ∀ z ∈ x :: a, ltP y z := by
      intro z hz
      rcases List.mem_cons.1 hz with rfl | hz
      · exact h2
      · exact ltP_trans h2 (hl'.1 z hz)
    rw [joinL, if_neg h1, if_pos h2, ih hl hm'.2, agree_skip hall]
    have : refJ (x :: a) (y :: b) = y :: refJ (x :: a) b := by
      show refJ (jstep (x :: a) y) b = _
      rw [jstep_below hall, refJ_above hm'.1]
    rw [this]
    split <;> rfl
  | case5 x a y b h1 h2 h3 =>
    intro hl hm
    have hd : x.d = y.d := by
      rcases dcmp_cases x.d y.d with ⟨_, q, _⟩ | ⟨_, _, q⟩ | ⟨_, _, _, q⟩
      · exact absurd q h1
      · exact absurd q h2
      · exact q
    rw [joinL, if_neg h1, if_neg h2, if_pos h3, agreeL_cons, look_cons_eq hd.symm]
    simp [h3]
  | case6 x a y b h1 h2 h3 ih =>
    intro hl hm
    have hm' := List.pairwise_cons.1 hm
    have hl' := List.pairwise_cons.1 hl
    have hd : x.d = y.d := by
      rcases dcmp_cases x.d y.d with ⟨_, q, _⟩ | ⟨_, _, q⟩ | ⟨_, _, _, q⟩
      · exact absurd q h1
      · exact absurd q h2
      · exact q
    have hya : ∀ z ∈ a, ltP y z := fun z hz => by
      have := hl'.1 z hz
      unfold ltP at this ⊢
      rw [← hd]
      exact this
    have hmb : ∀ z ∈ b, ltP (x.merge y) z := fun z hz => by
      have := hm'.1 z hz
      unfold ltP at this ⊢
      rw [merge_d hd]
      exact this
    rw [joinL, if_neg h1, if_neg h2, if_neg h3, ih hl'.2 hm'.2, agreeL_cons, look_cons_eq hd.symm, agree_skip hya]
    have hr : rmerge x y = x.merge y := by unfold rmerge; rw [if_neg h3]
    have hj : jstep (x :: a) y = x.merge y :: a := by
      unfold jstep
      rw [look_cons_eq hd]
      simp [hr]
    have : refJ (x :: a) (y :: b) = x.merge y :: refJ a b := by
      show refJ (jstep (x :: a) y) b = _
      rw [hj, refJ_above hmb]
    rw [this]
    have h3' : x.clash y = false := by simpa using h3
    simp only [h3', Bool.not_false, Bool.true_and]
    split <;> rfl
theorem store_sorted {l : List Nd} (h : storeL l = true) : l.Pairwise ltP := by
  simp only [storeL, Bool.and_eq_true] at h
  exact chain_pairwise h.2
theorem store_join {l m : List Nd} (hl : storeL l = true) (hm : storeL m = true) : joinL l m = if agreeL l m = true then some (refJ l m) else none := join_ref l m (store_sorted hl) (store_sorted hm)
end Go.AM
