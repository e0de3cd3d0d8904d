/-
  The answers of join.Agree, Within and Join as plain pairs. Own work of this project; in part printed by a program of it.
-/
import Derived.Test.YtoacffbhciccnaaGreatP4
import Derived.ProofKit
import Derived.Carry
import Derived.Deep.Slices
import Derived.HandedShaped
import Derived.OpenShut
import Derived.KernelRfl
set_option linter.unusedVariables false
set_option linter.unusedSimpArgs false
section
set_option maxRecDepth 100000
set_option maxHeartbeats 8000000
namespace Go.AM
open Go Go.Proofs

def agreeP (l m : List Nd) : Bool × Int := if storeL l = true ∧ storeL m = true then (if agreeL l m = true then (true, 0) else (false, 0)) else (false, 2)
def withinP (l m : List Nd) : Bool × Int := if storeL l = true ∧ storeL m = true then (if agreeL l m = true then (decide (refJ l m = m), 0) else (false, 15)) else (false, 2)
def joinsP (l m : List Nd) : List Nd × Int := if storeL l = true ∧ storeL m = true then (if agreeL l m = true then (refJ l m, 0) else ([], 15)) else ([], 2)
theorem gJoin_P (l m : List Nd) : gJoin l m = some ((joinsP l m).1, some (.int .i64 (joinsP l m).2)) := by
  unfold gJoin joinsP
  by_cases h : storeL l = true ∧ storeL m = true
  · rw [if_pos h, if_pos h, store_join h.1 h.2]
    by_cases ha : agreeL l m = true
    · simp [ha]
    · simp [ha]
  · rw [if_neg h, if_neg h]
theorem agreeV_P (l m : List Nd) : agreeV l m = .tup [.bool (agreeP l m).1, .int .i64 (agreeP l m).2] := by
  unfold agreeV agreeP
  rw [gJoin_P]
  unfold joinsP
  by_cases h : storeL l = true ∧ storeL m = true
  · rw [if_pos h, if_pos h]
    by_cases ha : agreeL l m = true
    · rw [if_pos ha, if_pos ha]; rfl
    · rw [if_neg ha, if_neg ha]; rfl
  · rw [if_neg h, if_neg h]; rfl
theorem withinV_P (l m : List Nd) : withinV l m = .tup [.bool (withinP l m).1, .int .i64 (withinP l m).2] := by
  unfold withinV withinP
  rw [gJoin_P]
  unfold joinsP
  by_cases h : storeL l = true ∧ storeL m = true
  · rw [if_pos h, if_pos h]
    by_cases ha : agreeL l m = true
    · rw [if_pos ha, if_pos ha]; rfl
    · rw [if_neg ha, if_neg ha]; rfl
  · rw [if_neg h, if_neg h]; rfl
theorem joinsP_len (l m : List Nd) : (joinsP l m).1.length ≤ l.length + m.length := by
  rcases gJoin_cases l m with ⟨j, _, _, hj, hg⟩ | ⟨_, _, _, hg⟩ | ⟨_, hg⟩ <;> (rw [gJoin_P] at hg; injection hg with hg; have hg := (Prod.mk.inj hg).1; rw [hg])
  · exact joinL_len _ _ _ hj
  · simp
  · simp
end Go.AM
end
/-
  Plain laws: the join of what does not clash is determined by what is in it. Own work of this project.
-/
section
namespace Go.AM
open Go Go.Proofs

/-- No two of them clash. -/
def NC (S : Nd → Prop) : Prop := ∀ x y, S x → S y → x.d = y.d → x.clash y = false
theorem NC.sub {S T : Nd → Prop} (h : NC S) (k : ∀ x, T x → S x) : NC T := fun x y hx hy e => h x y (k x hx) (k y hy) e
/-- All dots of S, each once, in order; dead where one is dead. -/
structure Res (S : Nd → Prop) (j : List Nd) : Prop where
  sorted : j.Pairwise ltP
  sub : ∀ y ∈ j, S y
  dead : ∀ y ∈ j, ∀ z, S z → z.d = y.d → z.x = 0 → y.x = 0
  cover : ∀ z, S z → ∃ y ∈ j, y.d = z.d
theorem nd_eq {x y : Nd} (hc : x.clash y = false) (h0 : x.x = 0 ↔ y.x = 0) : x = y := by
  rw [Nd.clash_false] at hc
  obtain ⟨⟨_, _⟩, ⟨_, _⟩, _, _⟩ := x
  obtain ⟨⟨_, _⟩, ⟨_, _⟩, _, _⟩ := y
  simp only at *
  grind
theorem Res.mem {S : Nd → Prop} (hS : NC S) {j k : List Nd} (h : Res S j) (g : Res S k) {y : Nd} (hy : y ∈ j) : y ∈ k := by
  obtain ⟨y', h1, h2⟩ := g.cover y (h.sub y hy)
  have hc := hS y y' (h.sub y hy) (g.sub y' h1) h2.symm
  have : y = y' := nd_eq hc ⟨fun e => g.dead y' h1 y (h.sub y hy) h2.symm e, fun e => h.dead y hy y' (g.sub y' h1) h2 e⟩
  rw [this]
  exact h1
theorem Res.uniq {S : Nd → Prop} (hS : NC S) {j k : List Nd} (h : Res S j) (g : Res S k) : j = k :=
  sorted_unique j k ((List.perm_ext_iff_of_nodup (nodup_of h.sorted) (nodup_of g.sorted)).2 fun x => ⟨fun hx => h.mem hS g hx, fun hx => g.mem hS h hx⟩) h.sorted g.sorted
theorem Res.congr {S T : Nd → Prop} {j : List Nd} (h : Res S j) (e : ∀ x, S x ↔ T x) : Res T j :=
  ⟨h.sorted, fun y hy => (e y).1 (h.sub y hy), fun y hy z hz => h.dead y hy z ((e z).2 hz), fun z hz => h.cover z ((e z).2 hz)⟩
def M2 (l m : List Nd) (x : Nd) : Prop := x ∈ l ∨ x ∈ m
/-- The join of a join. -/
theorem Res.step {S T : Nd → Prop} {j k : List Nd} (h : Res S j) (g : Res (fun x => x ∈ j ∨ T x) k) : Res (fun x => S x ∨ T x) k := by
  refine ⟨g.sorted, fun y hy => ?_, fun y hy z hz e z0 => ?_, fun z hz => ?_⟩
  · rcases g.sub y hy with q | q
    · exact .inl (h.sub y q)
    · exact .inr q
  · rcases hz with q | q
    · obtain ⟨y', h1, h2⟩ := h.cover z q
      exact g.dead y hy y' (.inl h1) (h2.trans e) (h.dead y' h1 z q h2.symm z0)
    · exact g.dead y hy z (.inr q) e z0
  · rcases hz with q | q
    · obtain ⟨y', h1, h2⟩ := h.cover z q
      obtain ⟨y, h3, h4⟩ := g.cover y' (.inl h1)
      exact ⟨y, h3, h4.trans h2⟩
    · exact g.cover z (.inr q)
theorem sorted_dot {l : List Nd} (hl : l.Pairwise ltP) {x y : Nd} (hx : x ∈ l) (hy : y ∈ l) (e : x.d = y.d) : x = y := by
  have h1 := getN_mem hl hx
  have h2 := getN_mem hl hy
  rw [e, h2] at h1
  injection h1 with h1
  exact h1.symm
theorem nc_agree {l m : List Nd} (hl : l.Pairwise ltP) (hm : m.Pairwise ltP) : agreeL l m = true ↔ NC (M2 l m) := by
  rw [agree_iff hl]
  constructor
  · intro h x y hx hy e
    rcases hx with hx | hx <;> rcases hy with hy | hy
    · rw [sorted_dot hl hx hy e]; exact clash_self y
    · exact h x.d x y (getN_mem hl hx) (by rw [e]; exact getN_mem hm hy)
    · rw [clash_symm]
      exact h y.d y x (getN_mem hl hy) (by rw [← e]; exact getN_mem hm hx)
    · rw [sorted_dot hm hx hy e]; exact clash_self y
  · intro h d x y hx hy
    obtain ⟨h1, h2⟩ := getN_some hx
    obtain ⟨h3, h4⟩ := getN_some hy
    exact h x y (.inl h1) (.inr h3) (h2.trans h4.symm)
theorem res_join {l m : List Nd} (hl : l.Pairwise ltP) (hm : m.Pairwise ltP) (ha : agreeL l m = true) : Res (M2 l m) (refJ l m) := by
  have hj := join_ref l m hl hm
  rw [if_pos ha] at hj
  obtain ⟨hs, hg⟩ := joinL_spec l m _ hl hm hj
  have key : ∀ y ∈ refJ l m, comb (getN l y.d) (getN m y.d) = some y := fun y hy => by rw [← hg]; exact getN_mem hs hy
  refine ⟨hs, fun y hy => ?_, fun y hy z hz e z0 => ?_, fun z hz => ?_⟩
  · have hk := key y hy
    cases h1 : getN l y.d with
    | none =>
      cases h2 : getN m y.d with
      | none => rw [h1, h2] at hk; cases hk
      | some v => rw [h1, h2] at hk; simp [comb] at hk; subst hk; exact .inr (getN_some h2).1
    | some u =>
      cases h2 : getN m y.d with
      | none => rw [h1, h2] at hk; simp [comb] at hk; subst hk; exact .inl (getN_some h1).1
      | some v =>
        rw [h1, h2] at hk
        simp only [comb, Option.some.injEq] at hk
        unfold Nd.merge at hk
        split at hk
        · rw [← hk]; exact .inr (getN_some h2).1
        · rw [← hk]; exact .inl (getN_some h1).1
  · have hk := key y hy
    rcases hz with hz | hz
    · have h1 := getN_mem hl hz
      rw [e] at h1
      rw [h1] at hk
      cases h2 : getN m y.d with
      | none => rw [h2] at hk; simp [comb] at hk; rw [← hk]; exact z0
      | some v =>
        rw [h2] at hk
        simp only [comb, Option.some.injEq] at hk
        rw [← hk]
        exact merge_dead z0
    · have h1 := getN_mem hm hz
      rw [e] at h1
      rw [h1] at hk
      cases h2 : getN l y.d with
      | none => rw [h2] at hk; simp [comb] at hk; rw [← hk]; exact z0
      | some v =>
        rw [h2] at hk
        simp only [comb, Option.some.injEq] at hk
        rw [← hk]
        unfold Nd.merge
        rw [if_pos z0]
        exact z0
  · have : (getN (refJ l m) z.d).isSome = true := by
      rw [hg]
      rcases hz with hz | hz
      · rw [getN_mem hl hz]
        cases getN m z.d <;> rfl
      · rw [getN_mem hm hz]
        cases getN l z.d <;> rfl
    obtain ⟨y, hy⟩ := Option.isSome_iff_exists.1 this
    obtain ⟨h1, h2⟩ := getN_some hy
    exact ⟨y, h1, h2⟩

/-! ### store.Of: one list with all -/
theorem updN_mem' {l : List Nd} {x y : Nd} (hn : (l.map Nd.d).Nodup) (h : y ∈ updN l x) : y = x ∨ (y ∈ l ∧ y.d ≠ x.d) := by
  unfold updN at h
  split at h
  · rename_i j old hj
    obtain ⟨h1, h2⟩ := lookN_some hj
    obtain ⟨i, hi⟩ := List.getElem?_of_mem h
    by_cases hij : j = i
    · subst hij
      rw [List.getElem?_set_self (getlt h1)] at hi
      injection hi with hi
      exact .inl hi.symm
    · rw [List.getElem?_set_ne hij] at hi
      refine .inr ⟨List.mem_of_getElem? hi, fun e => hij ?_⟩
      have hlt : j < (l.map Nd.d).length := by simpa using getlt h1
      have he : (l.map Nd.d)[j]? = (l.map Nd.d)[i]? := by
        rw [List.getElem?_map, List.getElem?_map, h1, hi]
        simp [h2, e]
      exact (List.getElem?_inj hlt hn).1 he
  · rename_i hj
    rcases List.mem_append.1 h with h | h
    · exact .inr ⟨h, lookN_none hj y h⟩
    · exact .inl (by simpa using h)
theorem updN_self (l : List Nd) (x : Nd) : x ∈ updN l x := by
  unfold updN
  split
  · rename_i j old hj
    obtain ⟨h1, _⟩ := lookN_some hj
    exact List.mem_of_getElem? (List.getElem?_set_self (getlt h1))
  · simp
theorem updN_old {l : List Nd} {x z : Nd} (h : z ∈ l) (e : z.d ≠ x.d) : z ∈ updN l x := by
  unfold updN
  split
  · rename_i j old hj
    obtain ⟨h1, h2⟩ := lookN_some hj
    obtain ⟨i, hi⟩ := List.getElem?_of_mem h
    have hij : j ≠ i := by
      rintro rfl
      rw [h1] at hi
      injection hi with hi
      subst hi
      exact e h2
    exact List.mem_of_getElem? (by rw [List.getElem?_set_ne hij]; exact hi)
  · exact List.mem_append.2 (.inl h)
theorem updN_cov {l : List Nd} {x z : Nd} (h : z ∈ l) : ∃ y ∈ updN l x, y.d = z.d := by
  by_cases e : z.d = x.d
  · exact ⟨x, updN_self l x, e.symm⟩
  · exact ⟨z, updN_old h e, rfl⟩
def clA (A : List Nd) (n : Nd) : Bool := match lookN A n.d with
  | some (_, x) => x.clash n
  | none => false
theorem ofStep_eq (M A : List Nd) (n : Nd) : ofStep M A n = if clA A n = true then none else match lookN M n.d with
    | some (_, old) => if old.clash n = true then none else some (updN M (old.merge n), if n.x = 0 then A else updN A n)
    | none => some (updN M n, if n.x = 0 then A else updN A n) := rfl
structure OInv (p M A : List Nd) : Prop where
  nc : NC (· ∈ p)
  nd : (M.map Nd.d).Nodup
  sub : ∀ y ∈ M, y ∈ p
  dead : ∀ y ∈ M, ∀ z ∈ p, z.d = y.d → z.x = 0 → y.x = 0
  cover : ∀ z ∈ p, ∃ y ∈ M, y.d = z.d
  asub : ∀ y ∈ A, y ∈ p ∧ y.x ≠ 0
  acov : ∀ z ∈ p, z.x ≠ 0 → ∃ y ∈ A, y.d = z.d
theorem OInv.nil : OInv [] [] [] := ⟨fun x y h => by simp at h, by simp, by simp, by simp, by simp, by simp, by simp⟩
theorem look_in {l : List Nd} {d : Dot} (h : ∃ y ∈ l, y.d = d) : ∃ j y, lookN l d = some (j, y) := by
  obtain ⟨y, h1, h2⟩ := h
  cases hk : lookN l d with
  | none => exact absurd h2 (lookN_none hk y h1)
  | some p => exact ⟨p.1, p.2, rfl⟩
theorem OInv.step {p M A : List Nd} (h : OInv p M A) (n : Nd) : match ofStep M A n with
    | some (M', A') => OInv (p ++ [n]) M' A'
    | none => ∃ x ∈ p, x.d = n.d ∧ x.clash n = true := by
  have hA : ∀ z ∈ p, z.x ≠ 0 → z.d = n.d → clA A n = false → z.clash n = false := by
    intro z hz z0 hd hc
    obtain ⟨j, y, hj⟩ := look_in (h.acov z hz z0)
    rw [hd] at hj
    obtain ⟨h1, h2⟩ := lookN_some hj
    obtain ⟨y1, y2⟩ := h.asub y (List.mem_of_getElem? h1)
    unfold clA at hc
    rw [hj] at hc
    simp only at hc
    have : z = y := nd_eq (h.nc z y hz y1 (hd.trans h2.symm)) ⟨fun e => absurd e z0, fun e => absurd e y2⟩
    rw [this]
    exact hc
  have mk : ∀ m : Nd, m.d = n.d → (m = n ∨ m ∈ M) → (n.x = 0 → m.x = 0) → (∀ z ∈ p, z.d = n.d → z.x = 0 → m.x = 0) → (∀ z ∈ p, z.d = n.d → z.clash n = false) → OInv (p ++ [n]) (updN M m) (if n.x = 0 then A else updN A n) := by
    intro m md hm m0 mp hnc
    have hmem : ∀ x, x ∈ p ++ [n] ↔ x ∈ p ∨ x = n := by simp
    refine ⟨fun x y hx hy e => ?_, updN_nodup h.nd, fun y hy => ?_, fun y hy z hz e z0 => ?_, fun z hz => ?_, fun y hy => ?_, fun z hz z0 => ?_⟩
    · rcases (hmem x).1 hx with kx | kx <;> rcases (hmem y).1 hy with ky | ky
      · exact h.nc x y kx ky e
      · rw [ky]; exact hnc x kx (by rw [e, ky])
      · rw [clash_symm, kx]; exact hnc y ky (by rw [← e, kx])
      · rw [kx, ky]; exact clash_self _
    · rw [hmem]
      rcases updN_mem hy with rfl | hy
      · rcases hm with rfl | hm
        · exact .inr rfl
        · exact .inl (h.sub _ hm)
      · exact .inl (h.sub y hy)
    · rw [hmem] at hz
      rcases updN_mem' h.nd hy with rfl | ⟨hy, hyd⟩
      · rcases hz with hz | rfl
        · exact mp z hz (e.trans md) z0
        · exact m0 z0
      · rcases hz with hz | rfl
        · exact h.dead y hy z hz e z0
        · exact absurd (e.symm.trans md.symm) hyd
    · rw [hmem] at hz
      rcases hz with hz | rfl
      · obtain ⟨y, h1, h2⟩ := h.cover z hz
        obtain ⟨y', h3, h4⟩ := updN_cov (x := m) h1
        exact ⟨y', h3, h4.trans h2⟩
      · exact ⟨m, updN_self M m, md⟩
    · split at hy
      · exact ⟨(hmem y).2 (.inl (h.asub y hy).1), (h.asub y hy).2⟩
      · rename_i hn0
        rcases updN_mem hy with rfl | hy
        · exact ⟨(hmem _).2 (.inr rfl), hn0⟩
        · exact ⟨(hmem y).2 (.inl (h.asub y hy).1), (h.asub y hy).2⟩
    · rw [hmem] at hz
      rcases hz with hz | rfl
      · obtain ⟨y, h1, h2⟩ := h.acov z hz z0
        split
        · exact ⟨y, h1, h2⟩
        · obtain ⟨y', h3, h4⟩ := updN_cov (x := n) h1
          exact ⟨y', h3, h4.trans h2⟩
      · rw [if_neg z0]
        exact ⟨z, updN_self A z, rfl⟩
  rw [ofStep_eq]
  by_cases hc : clA A n = true
  · rw [if_pos hc]
    unfold clA at hc
    cases hk : lookN A n.d with
    | none => rw [hk] at hc; cases hc
    | some q =>
      obtain ⟨j, y⟩ := q
      rw [hk] at hc
      obtain ⟨h1, h2⟩ := lookN_some hk
      exact ⟨y, (h.asub y (List.mem_of_getElem? h1)).1, h2, hc⟩
  · rw [if_neg hc]
    have hc' : clA A n = false := by simpa using hc
    cases hm : lookN M n.d with
    | none =>
      have hno : ∀ z ∈ p, z.d ≠ n.d := fun z hz e => by
        obtain ⟨y, h1, h2⟩ := h.cover z hz
        exact lookN_none hm y h1 (h2.trans e)
      exact mk n rfl (.inl rfl) (fun e => e) (fun z hz e => absurd e (hno z hz)) fun z hz e => absurd e (hno z hz)
    | some q =>
      obtain ⟨j, old⟩ := q
      obtain ⟨h1, h2⟩ := lookN_some hm
      have ho := List.mem_of_getElem? h1
      simp only
      by_cases hco : old.clash n = true
      · rw [if_pos hco]
        exact ⟨old, h.sub old ho, h2, hco⟩
      · rw [if_neg hco]
        have hco' : old.clash n = false := by simpa using hco
        refine mk (old.merge n) (merge_d h2) ?_ (fun e => ?_) (fun z hz e z0 => ?_) fun z hz e => ?_
        · unfold Nd.merge
          split
          · exact .inl rfl
          · exact .inr ho
        · unfold Nd.merge
          rw [if_pos e]
          exact e
        · exact merge_dead (h.dead old ho z hz (e.trans h2.symm) z0)
        · by_cases z0 : z.x = 0
          · have hzo := h.nc z old hz (h.sub old ho) (e.trans h2.symm)
            rw [Nd.clash_false] at hzo hco' ⊢
            grind
          · exact hA z hz z0 e hc'
/-! ### join.All -/
def ofP (l : List Nd) : List Nd × Int := match gOf l with
  | some (j, some (.int _ e)) => (j, e)
  | _ => ([], 2)
def allP (ls : List (List Nd)) : List Nd × Int := if ls.all storeL = true then ofP ls.flatten else ([], 2)
theorem store_valid {l : List Nd} (h : storeL l = true) : l.all Nd.valid = true := by
  simp only [storeL, Bool.and_eq_true] at h
  exact h.1
/-! ### What JoinHolds asks -/
theorem store_of_res {S : Nd → Prop} {j : List Nd} (h : Res S j) (hv : ∀ x, S x → x.valid = true) : storeL j = true := by
  simp only [storeL, Bool.and_eq_true]
  exact ⟨List.all_eq_true.2 fun x hx => hv x (h.sub x hx), pairwise_chain h.sorted⟩
theorem store_mem {l : List Nd} (h : storeL l = true) {x : Nd} (hx : x ∈ l) : x.valid = true := List.all_eq_true.1 (store_valid h) x hx
theorem res_self {l : List Nd} (hl : l.Pairwise ltP) : Res (M2 l l) l :=
  ⟨hl, fun y hy => .inl hy, fun y hy z hz e z0 => by
    have hz : z ∈ l := by rcases hz with hz | hz <;> exact hz
    rw [← sorted_dot hl hz hy e]
    exact z0, fun z hz => ⟨z, by rcases hz with hz | hz <;> exact hz, rfl⟩⟩
theorem M2_symm (l m : List Nd) (x : Nd) : M2 l m x ↔ M2 m l x := Or.comm
theorem refJ_uniq {S : Nd → Prop} (hS : NC S) {l m j : List Nd} (hl : l.Pairwise ltP) (hm : m.Pairwise ltP) (h : Res S j) (e : ∀ x, S x ↔ M2 l m x) : agreeL l m = true ∧ refJ l m = j := by
  have ha : agreeL l m = true := (nc_agree hl hm).2 (hS.sub fun x hx => (e x).2 hx)
  exact ⟨ha, ((res_join hl hm ha).congr fun x => (e x).symm).uniq hS h⟩
/-- What is in a join already changes nothing. -/
theorem refJ_in {S : Nd → Prop} {l j : List Nd} (hS : NC S) (hl : l.Pairwise ltP) (h : Res S j) (hin : ∀ x ∈ l, S x) : agreeL l j = true ∧ refJ l j = j ∧ agreeL j l = true ∧ refJ j l = j := by
  have hR : Res (M2 l j) j := ⟨h.sorted, fun y hy => .inr hy, fun y hy z hz e z0 => h.dead y hy z (by
    rcases hz with hz | hz
    · exact hin z hz
    · exact h.sub z hz) e z0, fun z hz => h.cover z (by
    rcases hz with hz | hz
    · exact hin z hz
    · exact h.sub z hz)⟩
  have hN : NC (M2 l j) := hS.sub fun x hx => by
    rcases hx with hx | hx
    · exact hin x hx
    · exact h.sub x hx
  obtain ⟨a1, a2⟩ := refJ_uniq hN hl h.sorted hR fun x => Iff.rfl
  obtain ⟨a3, a4⟩ := refJ_uniq hN h.sorted hl hR fun x => M2_symm _ _ x
  exact ⟨a1, a2, a3, a4⟩
theorem joinsP_ok {l m j : List Nd} (hl : storeL l = true) (hm : storeL m = true) (ha : agreeL l m = true) (hj : refJ l m = j) : joinsP l m = (j, 0) := by
  unfold joinsP
  rw [if_pos ⟨hl, hm⟩, if_pos ha, hj]
theorem withinP_ok {l m : List Nd} (hl : storeL l = true) (hm : storeL m = true) (ha : agreeL l m = true) : withinP l m = (decide (refJ l m = m), 0) := by
  unfold withinP
  rw [if_pos ⟨hl, hm⟩, if_pos ha]
structure Holds3 (a b c : List Nd) (bc all : List Nd) : Prop where
  s : storeL bc = true
  j1 : joinsP b c = (bc, 0)
  j2 : joinsP a bc = (all, 0)
  j3 : joinsP (refJ a b) c = (all, 0)
  a1 : allP [a, b, c] = (all, 0)
  a2 : allP [c, b, b, a, c] = (all, 0)
end Go.AM
end
/-
  Plain laws of stores: putting a node, finding and killing by dots. Own work of this project.
-/
section
namespace Go.AM
open Go Go.Proofs

/-! ### Putting a node -/
/-! ### Finding and killing -/
end Go.AM
end
/-
  Nodes: the reference of layer 9. Own work of this project; in part printed by a program of it.
-/
section
set_option maxRecDepth 100000
set_option maxHeartbeats 8000000
namespace Go.AM
open Go Go.Proofs

variable {s t u : St}

theorem bY : type_of% (And.intro @ap_mkfn <|
  And.intro @ae_callvV <|
  And.intro @callvV_fn <|
  And.intro @boxV_i <|
  And.intro @boxV_dot <|
  And.intro @sto_dot <|
  And.intro @ap_conv <|
  And.intro @convV_int <|
  And.intro @bslV_0 <|
  And.intro @fstep_d0 <|
  And.intro @fstep_d1 <|
  And.intro @bsl_dot <|
  And.intro @ae_appz <|
  And.intro @ap_cap <|
  And.intro @capV_nils <|
  And.intro @slcV_nils0 <|
  And.intro @slcV_sl0 <|
  And.intro @wrap_0 <|
  And.intro @ae_clr <|
  And.intro @boxV_f <|
  And.intro @fstep_f <|
  @lod_new2) :=
  And.intro @ap_mkfn <|
  And.intro @ae_callvV <|
  And.intro @callvV_fn <|
  And.intro @boxV_i <|
  And.intro @boxV_dot <|
  And.intro @sto_dot <|
  And.intro @ap_conv <|
  And.intro @convV_int <|
  And.intro @bslV_0 <|
  And.intro @fstep_d0 <|
  And.intro @fstep_d1 <|
  And.intro @bsl_dot <|
  And.intro @ae_appz <|
  And.intro @ap_cap <|
  And.intro @capV_nils <|
  And.intro @slcV_nils0 <|
  And.intro @slcV_sl0 <|
  And.intro @wrap_0 <|
  And.intro @ae_clr <|
  And.intro @boxV_f <|
  And.intro @fstep_f <|
  @lod_new2

theorem box_nd (s : St) (n : Nd) (hK : Keep (s.push (.row (Nd.av n) true)) t) : lod t 6 (.ptr s.next 0) = some (.agg (Nd.av n)) ∧ lod t 2 (.ptr s.next 0) = some (.agg (Dot.av n.d)) ∧ lod t 2 (.ptr s.next 2) = some (.agg (Dot.av n.p)) ∧ lod1 t (.ptr s.next 4) = some (.int .i64 n.t) ∧ lod1 t (.ptr s.next 5) = some (.int .i32 n.x) ∧ ltN s.next t := by
  have h := hK.blk (St.get_push_new s (.row (Nd.av n) true))
  refine ⟨by simp [lod, h, Nd.av], by simp [lod, h, Nd.av, Dot.av], by simp [lod, h, Nd.av, Dot.av], ?_, ?_, St.get_lt h⟩ <;> simp [lod1, h, Nd.av]
end Go.AM
end
/-
  Lists of nodes: Clone, Equal, IndexFunc, Grow, Concat, DeleteFunc; as for lists of dots. Own work of this project; in part printed by a program of it.
-/
section
set_option maxRecDepth 100000
set_option maxHeartbeats 8000000
namespace Go.AM
open Go Go.Proofs

variable {s t u : St}
theorem bslV_0N : bslV [] 0 6 [] = some (fun id => .sl id 0 0 (some 0) 6, .row [] true) := nrfl rfl
theorem app_cloneN {v : AV} {l : List Nd} (hr : read ndC s v = some l) (hl : l.length ≤ lim) : ∃ v' t, appV (s.push (.row [] true)) 6 48 (.sl s.next 0 0 (some 0) 6) v = some (v', t) ∧ (NewX ndC s t v' l ∧ CapOK v') ∧ Keep s t := by
  have hK : Keep s (s.push (.row [] true)) := (Keep.refl s).push _
  have hr1 := hK.read hr
  have h2 : ndC.sz = 6 := rfl
  simp only [appV]
  rw [← h2, read_shown hr1, read_len hr1]
  simp only [aappend, if_true, St.get_push_new]
  by_cases h0 : l.length = 0
  · have : l = [] := List.length_eq_zero_iff.1 h0
    subst this
    exact ⟨_, _, if_pos (rfl : ([] : List Nd).length = 0), ⟨.inr ⟨s.next, some 0, rfl, Nat.le_refl _, St.get_push_new _ _⟩, fun _ _ _ _ _ h => by injection h with _ _ h; omega⟩, hK⟩
  · rw [if_neg h0, if_pos ⟨by simp, by unfold lim at hl; unfold roomBytes; omega⟩, if_neg (by omega)]
    refine ⟨_, _, rfl, ⟨.inr ⟨_, none, by rw [Nat.zero_add], hK.next, ?_⟩, fun _ _ _ _ _ h => by cases h⟩, hK.push _⟩
    rw [St.get_push_new]
    simp
noncomputable def R_SClN : Con := runFn (tb []) a71
theorem s_SClN : SoundAt Tryz.prog 71 R_SClN := run_sound (tb_sound (l := []) (by simp)) mixed Tryz.func71 k71 c71
theorem n_SClN : noNxtC a71.body = true := by kernel_rfl
theorem w_SClN {s : St} {v : AV} {l : List Nd} (hr : read ndC s v = some l) (hl : l.length ≤ lim) : ∀ env : Env, elen env = a71.ntmps → (∀ i x_, [v][i]? = some x_ → E env i = x_) → awp (tb []) a71.body (fun x e t => (∀ i, x ≠ .exit i) ∧ ∃ r, aresults e t a71.results = some r ∧ (NewX ndC s t r l ∧ CapOK r) ∧ Keep s t) env s := by
  intro env hlen ha
  have h0 : E env 0 = _ := ha 0 _ rfl
  have hlen : elen env = _ := hlen
  simp only [a71] at hlen
  unfold a71
  try dsimp only [oO, oG]
  cases v with
  | nils =>
    rw [read_nils] at hr
    injection hr with hr
    subst hr
    simp (config := {contextual := true, maxDischargeDepth := 12}) only [tb_at, h0, hlen, ↓bD, bU, forall_const, bS, implies_true, isNx, eq_self, ↓wp_cond, ↓wp_loop, ↓reduceIte, reduceCtorEq, Nat.reduceEqDiff, Nat.reduceLT, Nat.reduceAdd, Nat.reduceMul, bT, ↓sg_bsl, ↓st_callf, bX, ap_mkfn, ae_callvV, callvV_fn, List.cons_append, List.nil_append, boxV_i, boxV_nd, sto_dot, ap_conv, convV_int, bslV_0N]
    first | exact ⟨_, rfl, ⟨.nil _ _ _, .nils⟩, .refl s⟩ | exact ⟨_, rfl, .nil _ _ _, .nils⟩
  | sl id off n cap z =>
    obtain ⟨v', t, hap, hN, hK⟩ := app_cloneN hr hl
    simp (config := {contextual := true, maxDischargeDepth := 12}) only [tb_at, h0, hlen, hap, ↓bD, bU, forall_const, bS, implies_true, isNx, eq_self, ↓wp_cond, ↓wp_loop, ↓reduceIte, reduceCtorEq, Nat.reduceEqDiff, Nat.reduceLT, Nat.reduceAdd, Nat.reduceMul, bT, ↓sg_bsl, ↓st_callf, bX, ap_mkfn, ae_callvV, callvV_fn, List.cons_append, List.nil_append, boxV_i, boxV_nd, sto_dot, ap_conv, convV_int, bslV_0N]
    exact ⟨_, rfl, hN, hK⟩
  | _ => simp [read] at hr
theorem q_SClN {s : St} {v : AV} {l : List Nd} (hr : read ndC s v = some l) (hl : l.length ≤ lim) : ∃ v' t, acall R_SClN false [v] s = some (v', t) ∧ (NewX ndC s t v' l ∧ CapOK v') ∧ Keep s t :=
  run_any n_SClN (by simp [a71]) (fun r t t' hg hn hq => ⟨hq.1.mono fun id b hb => by rw [hg]; exact hb, hq.2⟩) (fun r t hgr hk hq => by obtain ⟨rfl, rfl⟩ := hq.1.ground hgr; exact ⟨.nil _ _ _, .nils⟩) (w_SClN (s := lowd s) (read_low' hr) hl)
def idxN (l : List Nd) (p : Nd → Bool) : Int := match l.findIdx? p with
  | some i => (i : Int)
  | none => -1
theorem idxN_hit {l : List Nd} {p : Nd → Bool} {i : Nat} {x : Nd} (hx : l[i]? = some x) (hp : p x = true) (h : ∀ k y, k < i → l[k]? = some y → p y = false) : idxN l p = (i : Int) := by
  unfold idxN
  have hlt := getlt hx
  have e : l.findIdx? p = some i := by
    rw [List.findIdx?_eq_some_iff_getElem]
    refine ⟨hlt, ?_, fun j hj => ?_⟩
    · rw [List.getElem?_eq_getElem hlt] at hx
      injection hx with hx
      rw [hx, hp]
    · have := h j l[j] hj (List.getElem?_eq_getElem (by omega))
      simp [this]
  rw [e]
theorem idxN_miss {l : List Nd} {p : Nd → Bool} (h : ∀ k y, k < l.length → l[k]? = some y → p y = false) : idxN l p = -1 := by
  unfold idxN
  have e : l.findIdx? p = none := by
    rw [List.findIdx?_eq_none_iff]
    intro x hx
    obtain ⟨k, hk⟩ := List.getElem?_of_mem hx
    exact h k x (getlt hk) hk
  rw [e]
theorem slcV_nils0N : slcV 6 .nils none (some (.int .i64 0)) = some .nils := nrfl rfl
theorem slcV_sl0N (j n : Nat) : slcV 6 (.sl j 0 n none 6) none (some (.int .i64 0)) = some (.sl j 0 0 none 6) := nrfl (by
  simp [slcV, optNat, asNatIn])
def PreOwnN (s t : St) (v : AV) (l : List Nd) : Prop := Own ndC s t v l ∨ (l = [] ∧ ∃ j cs, v = .sl j 0 0 none 6 ∧ s.next ≤ j ∧ t.get j = some (.row cs true))
theorem PreOwnN.read {v : AV} {l : List Nd} (h : PreOwnN s t v l) : read ndC t v = some l := by
  rcases h with h | ⟨rfl, j, cs, rfl, _, h⟩
  · exact h.read
  · exact read_of (C := ndC) (n := 0) rfl h (by omega) (by simp [cells_nil])
theorem PreOwnN.mono {v : AV} {l : List Nd} (h : PreOwnN s t v l) (k : ∀ id b, t.get id = some b → u.get id = some b) : PreOwnN s u v l := h.imp (fun h => h.mono k) fun ⟨h1, j, cs, h2, h3, h4⟩ => ⟨h1, j, cs, h2, h3, k _ _ h4⟩
theorem PreOwnN.app {v w : AV} {l m : List Nd} (hK : Keep s t) (h : PreOwnN s t v l) (hr : AM.read ndC t w = some m) (hb : l.length + m.length ≤ 4000000) : ∃ v' t', appV t 6 48 v w = some (v', t') ∧ Keep s t' ∧ PreOwnN s t' v' (l ++ m) := by
  rcases h with h | ⟨rfl, j, cs, rfl, h1, h⟩
  · obtain ⟨v', t', q1, q2, q3⟩ := appV_list hK h hr 48 (by unfold roomBytes; omega)
    exact ⟨v', t', q1, q2, .inl q3⟩
  · have h2 : ndC.sz = 6 := rfl
    simp only [appV]
    rw [← h2, read_shown hr, read_len hr]
    simp only [aappend, if_true, h]
    by_cases h0 : m.length = 0
    · have : m = [] := List.length_eq_zero_iff.1 h0
      subst this
      exact ⟨_, _, if_pos (rfl : ([] : List Nd).length = 0), hK, .inr ⟨rfl, j, cs, rfl, h1, h⟩⟩
    · rw [if_neg h0, if_pos ⟨by omega, by simp at hb; unfold roomBytes; omega⟩]
      refine ⟨_, _, rfl, (hK.put .dead h1 (St.get_lt h)).push _, .inl (.inr ⟨t.next, by simp, by simpa using h0, hK.next, ?_⟩)⟩
      have := St.get_push_new (t.put j .dead) (.row (ndC.cells m) true)
      simpa using this
noncomputable def R_DeadF : Con := runFn (tb [(73, conN fDead)]) a72
theorem s_DeadF : SoundAt Tryz.prog 72 R_DeadF := run_sound (tb_sound (l := [(73, conN fDead)]) (by simpa using s_Dead)) mixed Tryz.func72 k72 c72
theorem n_DeadF : noNxtC a72.body = true := by kernel_rfl
theorem w_DeadF {s : St} (n : Nd) : ∀ env : Env, elen env = a72.ntmps → (∀ i x_, [.agg (Nd.av n)][i]? = some x_ → E env i = x_) → awp (tb [(73, conN fDead)]) a72.body (fun x e t => (∀ i, x ≠ .exit i) ∧ aresults e t a72.results = some (.bool (!decide (n.x = 0))) ∧ Keep s t) env s := by
  intro env hlen ha
  have h0 : E env 0 = _ := ha 0 _ rfl
  have hlen : elen env = _ := hlen
  simp only [a72] at hlen
  unfold a72
  try dsimp only [oO, oG]
  have hK : Keep s (s.push (.row (Nd.av n) true)) := (Keep.refl s).push _
  obtain ⟨b1, b2, b3, b4, b5, b6⟩ := box_nd s n (.refl _)
  simp (config := {contextual := true, maxDischargeDepth := 12}) only [tb_at, h0, hlen, b1, b2, b3, b4, b5, b6, q_Dead, notV_bool, ↓bD, bU, forall_const, bS, implies_true, isNx, eq_self, ↓wp_cond, ↓wp_loop, ↓reduceIte, reduceCtorEq, Nat.reduceEqDiff, Nat.reduceLT, Nat.reduceAdd, Nat.reduceMul, bT, ↓sg_bsl, ↓st_callf, bX, List.cons_append, List.nil_append, ↓st_appf, bY]
  all_goals first | exact hK | skip
theorem q_DeadF (cl : Bool) {s : St} (n : Nd) : acall R_DeadF cl [.agg (Nd.av n)] s = some (.bool (!decide (n.x = 0)), s) := run_same n_DeadF (by simp [a72]) rfl (w_DeadF (s := lowd s) n)
noncomputable def R_IdxN : Con := runFn (tb [(72, R_DeadF)]) a95
theorem s_IdxN : SoundAt Tryz.prog 95 R_IdxN := run_sound (tb_sound (l := [(72, R_DeadF)]) (by simpa using s_DeadF)) mixed Tryz.func95 k95 c95
theorem n_IdxN : noNxtC a95.body = true := by kernel_rfl
theorem w_IdxN {s : St} {v : AV} {l : List Nd} (hr : read ndC s v = some l) (hl : l.length ≤ lim) {T : List (Nat × Con)} {g : Nat} {caps : List AV} (p : Nd → Bool) (hf : ∀ (t : St) (d : Nd), Keep s t → acall (tb T g) false (.agg (Nd.av d) :: caps) t = some (.bool (p d), t)) : ∀ env : Env, elen env = a95.ntmps → (∀ i x_, [v, .fn g caps][i]? = some x_ → E env i = x_) → awp (tb T) a95.body (fun x e t => (∀ i, x ≠ .exit i) ∧ aresults e t a95.results = some (.int .i64 (idxN l p)) ∧ Keep s t) env s := by
  intro env hlen ha
  have h0 : E env 0 = _ := ha 0 _ rfl
  have h1 : E env 1 = _ := ha 1 _ rfl
  have hlen : elen env = _ := hlen
  simp only [a95] at hlen
  unfold a95
  try dsimp only [oO, oG]
  have hL := lenV_read hr
  simp (config := {contextual := true, maxDischargeDepth := 12}) only [tb_at, h0, h1, hlen, hL, ↓bD, bU, forall_const, bS, implies_true, isNx, eq_self, ↓wp_cond, ↓wp_loop, ↓reduceIte, reduceCtorEq, Nat.reduceEqDiff, Nat.reduceLT, Nat.reduceAdd, Nat.reduceMul, bT, ↓sg_bsl, ↓st_callf, bX, ap_mkfn, ae_callvV, callvV_fn, List.cons_append, List.nil_append, boxV_i, boxV_nd, sto_dot]
  obtain ⟨I, hI⟩ : ∃ I : Nat → Env → St → Prop, ∀ n e t, I n e t = (t = s ∧ ∃ i : Nat, n + i = l.length ∧ elen e = 19 ∧ E e 0 = v ∧ E e 1 = .fn g caps ∧ E e 6 = v ∧ E e 7 = .int .i64 (l.length : Int) ∧ E e 8 = .int .i64 (i : Int) ∧ ∀ k y, k < i → l[k]? = some y → p y = false) := ⟨fun n e t => (t = s ∧ ∃ i : Nat, n + i = l.length ∧ elen e = 19 ∧ E e 0 = v ∧ E e 1 = .fn g caps ∧ E e 6 = v ∧ E e 7 = .int .i64 (l.length : Int) ∧ E e 8 = .int .i64 (i : Int) ∧ ∀ k y, k < i → l[k]? = some y → p y = false), fun _ _ _ => rfl⟩
  refine lwp_inv I (n := l.length) ?_ ?_
  · rw [hI]
    exact ⟨rfl, 0, by omega, (by simp only [bE, Nat.reduceEqDiff, bN, Nat.reduceLT, hlen]; try rfl), (by simp only [bE, Nat.reduceEqDiff, bN, Nat.reduceLT, hlen, h0]; try rfl), (by simp only [bE, Nat.reduceEqDiff, bN, Nat.reduceLT, hlen, h1]; try rfl), (by simp only [bE, Nat.reduceEqDiff, bN, Nat.reduceLT, hlen, h0]; try rfl), (by simp only [bE, Nat.reduceEqDiff, bN, Nat.reduceLT, hlen, hL]; try rfl), (by simp only [bE, Nat.reduceEqDiff, bN, Nat.reduceLT, hlen]; try rfl), fun k y hk => by omega⟩
  intro n e t hi
  rw [hI] at hi
  obtain ⟨hK, i, hni, he, e0, e1, e6, e7, e8, hpre⟩ := hi
  subst hK
  by_cases hlt : i < l.length
  · obtain ⟨x, hx⟩ := getsome hlt
    have hw2 := wrap_add1 (n := i) (by unfold lim at hl; omega)
    obtain ⟨a1, a2, a3, a4x, a4y, a4⟩ := nd_lods hr (.refl _) hx
    have i1 := nd_idx hr hx .i64
    have hq := hf _ x (.refl _)
    cases hp : p x
    · rw [hp] at hq
      simp (config := {contextual := true, maxDischargeDepth := 12}) only [tb_at, he, e0, e1, e6, e7, e8, hL, hlt, hw2, a1, i1, hq, ↓bD, bU, forall_const, bS, implies_true, isNx, eq_self, ↓wp_cond, ↓wp_loop, ↓reduceIte, reduceCtorEq, Nat.reduceEqDiff, Nat.reduceLT, Nat.reduceAdd, Nat.reduceMul, bT, ↓sg_bsl, ↓st_callf, bX, ap_mkfn, ae_callvV, callvV_fn, List.cons_append, List.nil_append, boxV_i, boxV_nd, sto_dot]
      refine ⟨n - 1, by omega, ?_⟩
      rw [hI]
      exact ⟨rfl, i + 1, by omega, (by simp only [bE, Nat.reduceEqDiff, bN, Nat.reduceLT, he, e0, e1, e6, e7, e8]; try rfl), (by simp only [bE, Nat.reduceEqDiff, bN, Nat.reduceLT, he, e0, e1, e6, e7, e8]; try rfl), (by simp only [bE, Nat.reduceEqDiff, bN, Nat.reduceLT, he, e0, e1, e6, e7, e8]; try rfl), (by simp only [bE, Nat.reduceEqDiff, bN, Nat.reduceLT, he, e0, e1, e6, e7, e8]; try rfl), (by simp only [bE, Nat.reduceEqDiff, bN, Nat.reduceLT, he, e0, e1, e6, e7, e8]; try rfl), (by simp only [bE, Nat.reduceEqDiff, bN, Nat.reduceLT, he, e0, e1, e6, e7, e8]; try rfl), pre_next (P := fun k y => p y = false) hx hpre hp⟩
    · rw [hp] at hq
      have hS := idxN_hit hx hp hpre
      simp (config := {contextual := true, maxDischargeDepth := 12}) only [tb_at, he, e0, e1, e6, e7, e8, hL, hlt, hw2, a1, i1, hq, hS, ↓bD, bU, forall_const, bS, implies_true, isNx, eq_self, ↓wp_cond, ↓wp_loop, ↓reduceIte, reduceCtorEq, Nat.reduceEqDiff, Nat.reduceLT, Nat.reduceAdd, Nat.reduceMul, bT, ↓sg_bsl, ↓st_callf, bX, ap_mkfn, ae_callvV, callvV_fn, List.cons_append, List.nil_append, boxV_i, boxV_nd, sto_dot]
      all_goals first | exact .refl _ | skip
  · obtain rfl : i = l.length := by omega
    have hS := idxN_miss hpre
    simp (config := {contextual := true, maxDischargeDepth := 12}) only [tb_at, he, e0, e1, e6, e7, e8, hL, hlt, hS, ↓bD, bU, forall_const, bS, implies_true, isNx, eq_self, ↓wp_cond, ↓wp_loop, ↓reduceIte, reduceCtorEq, Nat.reduceEqDiff, Nat.reduceLT, Nat.reduceAdd, Nat.reduceMul, bT, ↓sg_bsl, ↓st_callf, bX, ap_mkfn, ae_callvV, callvV_fn, List.cons_append, List.nil_append, boxV_i, boxV_nd, sto_dot]
    all_goals first | exact .refl _ | skip
theorem q_IdxN (cl : Bool) {s : St} {v : AV} {l : List Nd} (hr : read ndC s v = some l) (hl : l.length ≤ lim) {g : Nat} {caps : List AV} (p : Nd → Bool) (hf : ∀ (t : St) (d : Nd), Keep s t → acall (tb [(72, R_DeadF)] g) false (.agg (Nd.av d) :: caps) t = some (.bool (p d), t)) : acall R_IdxN cl [v, .fn g caps] s = some (.int .i64 (idxN l p), s) := run_same n_IdxN (by simp [a95]) rfl (w_IdxN (s := lowd s) (read_low' hr) hl p (fun t d h => hf t d ((keep_lowd s).trans h)))
theorem zeros_cellsN (m : Nat) : zeros [.int .i64 0, .int .i64 0, .int .i64 0, .int .i64 0, .int .i64 0, .int .i32 0] m = ndC.cells (List.replicate m ⟨⟨0, 0⟩, ⟨0, 0⟩, 0, 0⟩) := by
  simp [zeros, Cod.cells, ndC, Nd.av]
theorem cells_setDN : ∀ (l : List Nd) (k : Nat) (d : Nd), k < l.length → setAt (ndC.cells l) (k * 6) (Nd.av d) = ndC.cells (l.set k d)
  | [], k, d, h => by simp at h
  | x :: l, 0, d, h => by
    have e : ndC.enc x = Nd.av x := rfl
    simp [setAt, cells_cons, e, Nd.av, ndC]
  | x :: l, k + 1, d, h => by
    have ih := cells_setDN l k d (by simpa using h)
    have e : ndC.enc x = Nd.av x := rfl
    have h2 : (Nd.av x).length = 6 := rfl
    rw [List.set_cons_succ, cells_cons, cells_cons, ← ih, e]
    simp only [setAt]
    have e1 : (k + 1) * 6 = (Nd.av x).length + k * 6 := by rw [h2]; omega
    have e2 : (k + 1) * 6 + (Nd.av d).length = (Nd.av x).length + (k * 6 + (Nd.av d).length) := by rw [h2]; omega
    rw [e2, e1]
    have e3 : List.take ((Nd.av x).length + k * 6) (Nd.av x) = Nd.av x := List.take_of_length_le (by omega)
    have e4 : List.drop ((Nd.av x).length + (k * 6 + (Nd.av d).length)) (Nd.av x) = [] := List.drop_eq_nil_of_le (by omega)
    simp [List.take_append, List.drop_append, e3, e4]
theorem slc_ownN (j n k : Nat) (cap : Option Nat) (h : k ≤ n) (hc : CapOK (.sl j 0 n cap 6)) : slcV 6 (.sl j 0 n cap 6) (some (.int .i64 (k : Int))) none = some (.sl j (k * 6) (n - k) (cap.map (· - k)) 6) ∧ slcV 6 (.sl j 0 n cap 6) none (some (.int .i64 (k : Int))) = some (.sl j 0 k cap 6) := by
  cases cap with
  | none => constructor <;> simp [slcV, optNat, asNatIn, h]
  | some c =>
    have := hc _ _ _ _ _ rfl
    constructor
    · simp [slcV, optNat, asNatIn, h]
    · have hkc : k ≤ c := by omega
      simp [slcV, optNat, asNatIn, hkc]
theorem clr_ownN {j n k : Nat} {cap : Option Nat} {l : List Nd} (h : t.get j = some (.row (ndC.cells l) true)) (hn : n ≤ l.length) (hk : k < n) :
    clrV t [.int .i64 0, .int .i64 0, .int .i64 0, .int .i64 0, .int .i64 0, .int .i32 0] (.sl j (k * 6) (n - k) cap 6) = some (.tup [], t.put j (.row (setAt (ndC.cells l) (k * 6) (ndC.cells (List.replicate (n - k) ⟨⟨0, 0⟩, ⟨0, 0⟩, 0, 0⟩))) true)) := by
  have h2 : ndC.sz = 6 := rfl
  simp only [clrV]
  rw [if_neg (by omega), if_pos (by rfl), h]
  simp only
  rw [if_pos (by rw [cells_len, h2]; omega), zeros_cellsN]
theorem iad_ownN {j n k : Nat} {cap : Option Nat} (off : Nat) (h : k < n) : iadV 6 (.sl j off n cap 6) (.int .i64 (k : Int)) = some (.ptr j (off + k * 6)) := iadV_nat h
theorem lod_ownN {j k : Nat} {l : List Nd} (h : t.get j = some (.row (ndC.cells l) true)) {d : Nd} (hd : l[k]? = some d) : lod t 6 (.ptr j (k * 6)) = some (.agg (Nd.av d)) := by
  have hk := getlt hd
  have h2 : ndC.sz = 6 := rfl
  simp only [lod, h]
  rw [if_pos (by rw [cells_len, h2]; omega)]
  have := cells_at ndC l k d hd 0 6 (by decide)
  rw [h2, Nat.add_zero, List.drop_zero] at this
  rw [this]
  rfl
theorem sto_ownN {j k : Nat} {l : List Nd} (h : t.get j = some (.row (ndC.cells l) true)) (hk : k < l.length) (d : Nd) : sto t 6 (.ptr j (k * 6)) (.agg (Nd.av d)) = some (.und, t.put j (.row (ndC.cells (l.set k d)) true)) := by
  have h2 : ndC.sz = 6 := rfl
  have hcond : (AV.agg (Nd.av d)).cells.length = 6 ∧ (AV.agg (Nd.av d)).cells.all AV.one = true ∧ k * 6 + 6 ≤ (ndC.cells l).length := ⟨rfl, rfl, by rw [cells_len, h2]; omega⟩
  simp only [sto, h]
  rw [if_pos hcond]
  show some (AV.und, t.put j (.row (setAt (ndC.cells l) (k * 6) (Nd.av d)) true)) = _
  rw [cells_setDN l k d hk]
theorem setAt_cells'N (l r : List Nd) (k : Nat) (h : k + r.length ≤ l.length) : setAt (ndC.cells l) (k * 6) (ndC.cells r) = ndC.cells (l.take k ++ (r ++ l.drop (k + r.length))) := by
  have hk : (ndC.cells (l.take k)).length = k * 6 := by
    rw [cells_len, List.length_take]
    have : ndC.sz = 6 := rfl
    rw [this, Nat.min_eq_left (by omega)]
  have hr : (ndC.cells r).length = r.length * 6 := by rw [cells_len]; rfl
  have hl : ndC.cells l = ndC.cells (l.take k) ++ ndC.cells (l.drop k) := by rw [← cells_append, List.take_append_drop]
  have hd : l.drop k = (l.drop k).take r.length ++ l.drop (k + r.length) := by
    rw [← List.drop_drop, List.take_append_drop]
  have hd2 : (ndC.cells ((l.drop k).take r.length)).length = r.length * 6 := by
    rw [cells_len, List.length_take, List.length_drop]
    have : ndC.sz = 6 := rfl
    rw [this, Nat.min_eq_left (by omega)]
  unfold setAt
  rw [cells_append, cells_append, hr]
  have e1 : (ndC.cells l).take (k * 6) = ndC.cells (l.take k) := by rw [hl, ← hk, List.take_left]
  have e2 : (ndC.cells l).drop (k * 6 + r.length * 6) = ndC.cells (l.drop (k + r.length)) := by
    rw [hl, ← hk, ← List.drop_drop, List.drop_left, hd, cells_append, ← hd2, List.drop_left]
  rw [e1, e2, List.append_assoc]
theorem idxN_cases (l : List Nd) (p : Nd → Bool) : (idxN l p = -1 ∧ ∀ x ∈ l, p x = false) ∨ ∃ (i : Nat) (x : Nd), idxN l p = (i : Int) ∧ l[i]? = some x ∧ p x = true ∧ ∀ k y, k < i → l[k]? = some y → p y = false := by
  unfold idxN
  cases h : l.findIdx? p with
  | none =>
    rw [List.findIdx?_eq_none_iff] at h
    exact .inl ⟨rfl, fun x hx => by simpa using h x hx⟩
  | some i =>
    rw [List.findIdx?_eq_some_iff_getElem] at h
    obtain ⟨h1, h2, h3⟩ := h
    refine .inr ⟨i, l[i], rfl, List.getElem?_eq_getElem h1, h2, fun k y hk hy => ?_⟩
    have := h3 k hk
    rw [List.getElem?_eq_getElem (by omega)] at hy
    injection hy with hy
    rw [hy] at this
    simpa using this
theorem filter_takeN {l : List Nd} {p : Nd → Bool} {i : Nat} (h : ∀ k y, k < i → l[k]? = some y → p y = false) (hi : i ≤ l.length) : (l.take i).filter (fun d => !p d) = l.take i := by
  rw [List.filter_eq_self]
  intro x hx
  obtain ⟨k, hk⟩ := List.getElem?_of_mem hx
  have hkl := getlt hk
  rw [List.length_take] at hkl
  rw [List.getElem?_take, if_pos (by omega)] at hk
  rw [h k x (by omega) hk]
  rfl
noncomputable def R_DelN : Con := runFn (tb [(95, R_IdxN), (72, R_DeadF)]) a70
theorem s_DelN : SoundAt Tryz.prog 70 R_DelN := run_sound (tb_sound (l := [(95, R_IdxN), (72, R_DeadF)]) (by simpa using ⟨s_IdxN, s_DeadF⟩)) mixed Tryz.func70 k70 c70
theorem n_DelN : noNxtC a70.body = true := by kernel_rfl
theorem w_DelN {s : St} {T : List (Nat × Con)} (hT : ∀ xs : List AV, tb T 95 xs = R_IdxN xs) {s0 : St} {v : AV} {l : List Nd} (hN : NewR ndC s0 s v l) (hc : CapOK v) (hl : l.length ≤ lim) {g : Nat} {caps : List AV} (p : Nd → Bool) (hf0 : ∀ (t : St) (d : Nd), Keep s t → acall (tb [(72, R_DeadF)] g) false (.agg (Nd.av d) :: caps) t = some (.bool (p d), t)) (hf : ∀ (t : St) (d : Nd), Chg (vids v) s t → acall (tb T g) false (.agg (Nd.av d) :: caps) t = some (.bool (p d), t)) : ∀ env : Env, elen env = a70.ntmps → (∀ i x_, [v, .fn g caps][i]? = some x_ → E env i = x_) → awp (tb T) a70.body (fun x e t => (∀ i, x ≠ .exit i) ∧ ∃ r, aresults e t a70.results = some r ∧ NewR ndC s0 t r (l.filter fun d => !p d) ∧ Chg (vids v) s t ∧ (v = .nils → r = .nils ∧ Keep s t) ∧ (v ≠ .nils → r.ground = false)) env s := by
  intro env hlen ha
  have h0 : E env 0 = _ := ha 0 _ rfl
  have h1 : E env 1 = _ := ha 1 _ rfl
  have hlen : elen env = _ := hlen
  simp only [a70] at hlen
  unfold a70
  try dsimp only [oO, oG]
  have q0 : ∀ cl, acall (tb T 95) cl [v, .fn g caps] s = some (.int .i64 (idxN l p), s) := fun cl => by
    have e : tb T 95 = R_IdxN := funext hT
    rw [e]
    exact q_IdxN cl hN.read hl p hf0
  have q0 := q0 false
  rcases hN with ⟨rfl, rfl⟩ | ⟨j, cap, rest, rfl, hj0, hg⟩
  · have hi : idxN [] p = -1 := rfl
    rw [hi] at q0
    simp (config := {contextual := true, maxDischargeDepth := 12}) only [tb_at, h0, h1, hlen, q0, ↓bD, bU, forall_const, bS, implies_true, isNx, eq_self, ↓wp_cond, ↓wp_loop, ↓reduceIte, reduceCtorEq, Nat.reduceEqDiff, Nat.reduceLT, Nat.reduceAdd, Nat.reduceMul, bT, ↓sg_bsl, ↓st_callf, bX, ap_mkfn, ae_callvV, callvV_fn, List.cons_append, List.nil_append, boxV_i, boxV_nd, sto_dot, ap_conv, convV_int, bslV_0N, fstep_d0, fstep_d1, bsl_dot, ae_appz, ap_cap, capV_nils, slcV_nils0N, slcV_sl0N, wrap_0, ae_clr, boxV_f, fstep_f, lod_new2]
    exact ⟨_, rfl, .nil _ _ _, (Keep.refl s).chg _, rfl, fun h => absurd trivial h⟩
  have hN : NewR ndC s0 s (.sl j 0 l.length cap 6) l := .inr ⟨j, cap, rest, rfl, hj0, hg⟩
  have hjl := St.get_lt hg
  have h2 : ndC.sz = 6 := rfl
  rw [h2] at h0 hc q0
  rcases idxN_cases l p with ⟨hi, hall⟩ | ⟨i, x, hi, hx, hpx, hpre⟩
  · rw [hi] at q0
    have hd : l.filter (fun d => !p d) = l := by
      rw [List.filter_eq_self]
      intro x hx
      rw [hall x hx]; rfl
    simp (config := {contextual := true, maxDischargeDepth := 12}) only [tb_at, h0, h1, hlen, q0, ↓bD, bU, forall_const, bS, implies_true, isNx, eq_self, ↓wp_cond, ↓wp_loop, ↓reduceIte, reduceCtorEq, Nat.reduceEqDiff, Nat.reduceLT, Nat.reduceAdd, Nat.reduceMul, bT, ↓sg_bsl, ↓st_callf, bX, ap_mkfn, ae_callvV, callvV_fn, List.cons_append, List.nil_append, boxV_i, boxV_nd, sto_dot, ap_conv, convV_int, bslV_0N, fstep_d0, fstep_d1, bsl_dot, ae_appz, ap_cap, capV_nils, slcV_nils0N, slcV_sl0N, wrap_0, ae_clr, boxV_f, fstep_f, lod_new2]
    exact ⟨_, rfl, by rw [hd]; exact hN, (Keep.refl s).chg _, fun h => h.elim, rfl⟩
  · rw [hi] at q0
    have hil := getlt hx
    have hz : ((i : Int) = -1) = False := eq_false (by omega)
    have hwi := wrap_add1 (n := i) (by unfold lim at hl; omega)
    simp (config := {contextual := true, maxDischargeDepth := 12}) only [tb_at, h0, h1, hlen, q0, hz, hwi, ↓bD, bU, forall_const, bS, implies_true, isNx, eq_self, ↓wp_cond, ↓wp_loop, ↓reduceIte, reduceCtorEq, Nat.reduceEqDiff, Nat.reduceLT, Nat.reduceAdd, Nat.reduceMul, bT, ↓sg_bsl, ↓st_callf, bX, ap_mkfn, ae_callvV, callvV_fn, List.cons_append, List.nil_append, boxV_i, boxV_nd, sto_dot, ap_conv, convV_int, bslV_0N, fstep_d0, fstep_d1, bsl_dot, ae_appz, ap_cap, capV_nils, slcV_nils0N, slcV_sl0N, wrap_0, ae_clr, boxV_f, fstep_f, lod_new2]
    obtain ⟨I, hI⟩ : ∃ I : Nat → Env → St → Prop, ∀ n e t, I n e t = (Chg [j] s t ∧ ∃ (q k : Nat) (L : List Nd), n + q = l.length ∧ elen e = 42 ∧ E e 0 = .sl j 0 l.length cap 6 ∧ E e 1 = .fn g caps ∧ E e 5 = .int .i64 (k : Int) ∧ E e 6 = .int .i64 (q : Int) ∧ q ≤ l.length ∧ k < q ∧ L.length = (l ++ rest).length ∧ t.get j = some (.row (ndC.cells L) true) ∧ L.take k = ((l.take q).filter fun d => !p d) ∧ k = ((l.take q).filter fun d => !p d).length ∧ ∀ x, q ≤ x → L[x]? = (l ++ rest)[x]?) := ⟨fun n e t => (Chg [j] s t ∧ ∃ (q k : Nat) (L : List Nd), n + q = l.length ∧ elen e = 42 ∧ E e 0 = .sl j 0 l.length cap 6 ∧ E e 1 = .fn g caps ∧ E e 5 = .int .i64 (k : Int) ∧ E e 6 = .int .i64 (q : Int) ∧ q ≤ l.length ∧ k < q ∧ L.length = (l ++ rest).length ∧ t.get j = some (.row (ndC.cells L) true) ∧ L.take k = ((l.take q).filter fun d => !p d) ∧ k = ((l.take q).filter fun d => !p d).length ∧ ∀ x, q ≤ x → L[x]? = (l ++ rest)[x]?), fun _ _ _ => rfl⟩
    have hf1 : (l.take (i + 1)).filter (fun d => !p d) = l.take i := by
      rw [take_snoc hx, List.filter_append, filter_takeN hpre (by omega)]
      simp [hpx]
    refine lwp_inv I (n := l.length - (i + 1)) ?_ ?_
    · rw [hI]
      refine ⟨(Keep.refl s).chg _, i + 1, i, l ++ rest, by omega, (by simp only [bE, Nat.reduceEqDiff, bN, Nat.reduceLT, hlen]; try rfl), (by simp only [bE, Nat.reduceEqDiff, bN, Nat.reduceLT, hlen, h0]; try rfl), (by simp only [bE, Nat.reduceEqDiff, bN, Nat.reduceLT, hlen, h1]; try rfl), (by simp only [bE, Nat.reduceEqDiff, bN, Nat.reduceLT, hlen]; try rfl), (by simp only [bE, Nat.reduceEqDiff, bN, Nat.reduceLT, hlen]; try rfl), by omega, by omega, rfl, hg, ?_, ?_, fun _ _ => rfl⟩
      · rw [hf1, List.take_append_of_le_length (by omega)]
      · rw [hf1, List.length_take, Nat.min_eq_left (by omega)]
    clear hlen h0 h1 q0 hz hwi
    intro n e t hi
    rw [hI] at hi
    obtain ⟨hC, q, k, L, hni, he, e0, e1, e5, e6, hq, hkq, hLl, hgt, hLk, hkd, hrest⟩ := hi
    rw [List.length_append] at hLl
    have hjt := St.get_lt hgt
    have hltj : ltN j t := hjt
    by_cases hlt : q < l.length
    · obtain ⟨d, hd⟩ := getsome hlt
      have i1 := iad_ownN (j := j) (cap := cap) 0 hlt
      rw [Nat.zero_add] at i1
      have a1 := lod_ownN hgt (show L[q]? = some d by rw [hrest _ (Nat.le_refl _), List.getElem?_append_left hlt]; exact hd)
      have hw2 := wrap_add1 (n := q) (by unfold lim at hl; omega)
      have hCp : Chg [j] s (t.lowed.push (.row (Nd.av d) true)) := hC.trans ((Keep.refl t).lowed.push _ |>.chg []) (by simp)
      have hq := hf (t.lowed.push (.row (Nd.av d) true)) d hCp
      have hsn : l.take (q + 1) = l.take q ++ [d] := take_snoc hd
      cases hpd : p d
      · rw [hpd] at hq
        have i2 := iad_ownN (j := j) (cap := cap) 0 (show k < l.length by omega)
        rw [Nat.zero_add] at i2
        have st1 := sto_ownN hgt (show k < L.length by omega) d
        have hw3 := wrap_add1 (n := k) (by unfold lim at hl; omega)
        have hf2 : (l.take (q + 1)).filter (fun d => !p d) = (l.take q).filter (fun d => !p d) ++ [d] := by rw [hsn, List.filter_append]; simp [hpd]
        simp (config := {contextual := true, maxDischargeDepth := 12}) only [tb_at, he, e0, e1, e5, e6, lenV_sl, hlt, i1, i2, a1, hltj, hq, hw2, hw3, st1, notV_bool, sto_push_lt, lt_lowed, Bool.not_false, ↓bD, bU, forall_const, bS, implies_true, isNx, eq_self, ↓wp_cond, ↓wp_loop, ↓reduceIte, reduceCtorEq, Nat.reduceEqDiff, Nat.reduceLT, Nat.reduceAdd, Nat.reduceMul, bT, ↓sg_bsl, ↓st_callf, bX, ap_mkfn, ae_callvV, callvV_fn, List.cons_append, List.nil_append, boxV_i, boxV_nd, sto_dot, ap_conv, convV_int, bslV_0N, fstep_d0, fstep_d1, bsl_dot, ae_appz, ap_cap, capV_nils, slcV_nils0N, slcV_sl0N, wrap_0, ae_clr, boxV_f, fstep_f, lod_new2]
        refine ⟨n - 1, by omega, ?_⟩
        rw [hI]
        refine ⟨(hC.put _ (.inl (by simp)) hjt).trans ((Keep.refl _).lowed.push _ |>.chg []) (by simp), q + 1, k + 1, L.set k d, by omega, (by simp only [bE, Nat.reduceEqDiff, bN, Nat.reduceLT, he]; try rfl), (by simp only [bE, Nat.reduceEqDiff, bN, Nat.reduceLT, he, e0]; try rfl), (by simp only [bE, Nat.reduceEqDiff, bN, Nat.reduceLT, he, e1]; try rfl), (by simp only [bE, Nat.reduceEqDiff, bN, Nat.reduceLT, he, e5]; try rfl), (by simp only [bE, Nat.reduceEqDiff, bN, Nat.reduceLT, he]; try rfl), by omega, by omega, by rw [List.length_set, List.length_append]; exact hLl, get_push_some _ (St.get_put_same hgt), ?_, by rw [hf2, List.length_append, ← hkd]; rfl, fun z hz => ?_⟩
        · rw [hf2, ← hLk, List.take_add_one, List.getElem?_set_self (by omega), List.take_set_of_le (Nat.le_refl _)]
          rfl
        · rw [List.getElem?_set_ne (by omega)]
          exact hrest z (by omega)
      · rw [hpd] at hq
        have hf2 : (l.take (q + 1)).filter (fun d => !p d) = (l.take q).filter (fun d => !p d) := by rw [hsn, List.filter_append]; simp [hpd]
        simp (config := {contextual := true, maxDischargeDepth := 12}) only [tb_at, he, e0, e1, e5, e6, lenV_sl, hlt, i1, a1, hltj, hq, hw2, notV_bool, Bool.not_true, ↓bD, bU, forall_const, bS, implies_true, isNx, eq_self, ↓wp_cond, ↓wp_loop, ↓reduceIte, reduceCtorEq, Nat.reduceEqDiff, Nat.reduceLT, Nat.reduceAdd, Nat.reduceMul, bT, ↓sg_bsl, ↓st_callf, bX, ap_mkfn, ae_callvV, callvV_fn, List.cons_append, List.nil_append, boxV_i, boxV_nd, sto_dot, ap_conv, convV_int, bslV_0N, fstep_d0, fstep_d1, bsl_dot, ae_appz, ap_cap, capV_nils, slcV_nils0N, slcV_sl0N, wrap_0, ae_clr, boxV_f, fstep_f, lod_new2]
        refine ⟨n - 1, by omega, ?_⟩
        rw [hI]
        exact ⟨hCp, q + 1, k, L, by omega, (by simp only [bE, Nat.reduceEqDiff, bN, Nat.reduceLT, he]; try rfl), (by simp only [bE, Nat.reduceEqDiff, bN, Nat.reduceLT, he, e0]; try rfl), (by simp only [bE, Nat.reduceEqDiff, bN, Nat.reduceLT, he, e1]; try rfl), (by simp only [bE, Nat.reduceEqDiff, bN, Nat.reduceLT, he, e5]; try rfl), (by simp only [bE, Nat.reduceEqDiff, bN, Nat.reduceLT, he]; try rfl), by omega, by omega, by rw [List.length_append]; exact hLl, get_push_some _ hgt, by rw [hf2]; exact hLk, by rw [hf2]; exact hkd, fun z hz => hrest z (by omega)⟩
    · have hql : q = l.length := by omega
      subst hql
      rw [List.take_length] at hLk hkd
      obtain ⟨sl2, sl3⟩ := slc_ownN j l.length k cap (by omega) hc
      have hcl := clr_ownN (cap := cap.map (· - k)) hgt (n := l.length) (k := k) (by omega) (by omega)
      rw [setAt_cells'N L _ k (by rw [List.length_replicate]; omega), hLk] at hcl
      simp (config := {contextual := true, maxDischargeDepth := 12}) only [tb_at, he, e0, e1, e5, e6, lenV_sl, hlt, sl2, sl3, hcl, ↓bD, bU, forall_const, bS, implies_true, isNx, eq_self, ↓wp_cond, ↓wp_loop, ↓reduceIte, reduceCtorEq, Nat.reduceEqDiff, Nat.reduceLT, Nat.reduceAdd, Nat.reduceMul, bT, ↓sg_bsl, ↓st_callf, bX, ap_mkfn, ae_callvV, callvV_fn, List.cons_append, List.nil_append, boxV_i, boxV_nd, sto_dot, ap_conv, convV_int, bslV_0N, fstep_d0, fstep_d1, bsl_dot, ae_appz, ap_cap, capV_nils, slcV_nils0N, slcV_sl0N, wrap_0, ae_clr, boxV_f, fstep_f, lod_new2]
      exact ⟨_, rfl, .inr ⟨j, cap, _, by rw [← hkd]; rfl, hj0, St.get_put_same hgt⟩, hC.put _ (.inl (by simp [vids])) hjt, fun h => h.elim, rfl⟩
theorem q_DelN {s : St} {s0 : St} {v : AV} {l : List Nd} (hN : NewR ndC s0 s v l) (hc : CapOK v) (hl : l.length ≤ lim) {g : Nat} {caps : List AV} (p : Nd → Bool) (hf0 : ∀ (t : St) (d : Nd), Keep s t → acall (tb [(72, R_DeadF)] g) false (.agg (Nd.av d) :: caps) t = some (.bool (p d), t)) (hf : ∀ (t : St) (d : Nd), Chg (vids v) s t → acall (tb [(95, R_IdxN), (72, R_DeadF)] g) false (.agg (Nd.av d) :: caps) t = some (.bool (p d), t)) : ∃ w t, acall R_DelN false [v, .fn g caps] s = some (w, t) ∧ NewR ndC s0 t w (l.filter fun d => !p d) ∧ Chg (vids v) s t := by
  obtain ⟨r, t, h1, h2, h3, h4, h5⟩ := run_awp n_DelN (args := [v, .fn g caps]) (by simp [a70]) (Q := fun r t => NewR ndC s0 t r (l.filter fun d => !p d) ∧ Chg (vids v) (lowd s) t ∧ (v = .nils → r = .nils ∧ Keep (lowd s) t) ∧ (v ≠ .nils → r.ground = false)) (w_DelN (s := lowd s) (fun xs => rfl) (hN.mono fun _ _ h => h) hc hl p (fun t d h => hf0 t d ((keep_lowd s).trans h)) fun t d h => hf t d ((keep_lowd s).chg _ |>.trans h fun id hid => .inl hid))
  by_cases hv : v = .nils
  · obtain ⟨rfl, hk⟩ := h4 hv
    rcases hN with ⟨_, rfl⟩ | ⟨j, cap, rest, e, _⟩
    · exact ⟨.nils, s, acall_same h1 hk rfl, .nil _ _ _, (Keep.refl s).chg _⟩
    · rw [e] at hv; cases hv
  · obtain ⟨t', g1, g2, g3, g4⟩ := acall_new h1 h3 (.inl (h5 hv))
    exact ⟨r, t', g1, h2.mono fun id b hb => by rw [g2]; exact hb, g4⟩

end Go.AM
end
/-
  Searching a store: BinarySearchFunc, find, Find, Put. Own work of this project; in part printed by a program of it.
-/
section
set_option maxRecDepth 100000
set_option maxHeartbeats 8000000
namespace Go.AM
open Go Go.Proofs

variable {s t u : St}

theorem bin_shr1 (n : Nat) : binOp .shr .no (.int .u64 (n : Int)) (.int .u64 1) = some (.int .u64 ((n / 2 : Nat) : Int)) := by
  simp only [binOp, shOp]
  have h1 : ¬ ((1 : Int) < 0) := by decide
  have h2 : (2 : Int) ^ (min (Int.toNat 1) IntKind.u64.bits) = 2 := by decide
  rw [if_neg h1, h2]
  have : Int.fdiv (n : Int) 2 = ((n / 2 : Nat) : Int) := by
    rw [Int.fdiv_eq_ediv_of_nonneg _ (by decide)]
    omega
  simp only [this]
end Go.AM
end
/-
  The reference of layer 10: Valid, Equal, Find. Own work of this project; in part printed by a program of it.
-/
section
set_option maxRecDepth 100000
set_option maxHeartbeats 8000000
namespace Go.AM
open Go Go.Proofs

variable {s t u : St}

end Go.AM
end
/-
  The reference of layer 10: Put, Of. Own work of this project; in part printed by a program of it.
-/
section
set_option maxRecDepth 100000
set_option maxHeartbeats 8000000
namespace Go.AM
open Go Go.Proofs

variable {s t u : St}

theorem bsl_nd {x : Nd} : bslV [.int .i64 0, .int .i64 0, .int .i64 0, .int .i64 0, .int .i64 0, .int .i32 0] 1 6 [(0, .agg (Nd.av x))] = some (fun id => .sl id 0 1 (some 1) 6, .row (Nd.av x) true) := nrfl rfl
end Go.AM
end
/-
  The reference of layer 10: Of. Own work of this project; in part printed by a program of it.
-/
section
set_option maxRecDepth 100000
set_option maxHeartbeats 8000000
namespace Go.AM
open Go Go.Proofs

variable {s t u : St}
end Go.AM
end
/-
  store.Put and Kill, the reference Kill, and what the statements of layer 10 call. Own work of this project; in part printed by a program of it.
-/
section
set_option maxRecDepth 100000
set_option maxHeartbeats 8000000
namespace Go.AM
open Go Go.Proofs

variable {s t u : St}

end Go.AM
end
/-
  store.Kill. Own work of this project; in part printed by a program of it.
-/
section
set_option maxRecDepth 100000
set_option maxHeartbeats 8000000
namespace Go.AM
open Go Go.Proofs

variable {s t u : St}

end Go.AM
end
/-
  dot.Set of a list without repeats: a new list of its own. Own work of this project; in part printed by a program of it.
-/
section
set_option maxRecDepth 100000
set_option maxHeartbeats 8000000
namespace Go.AM
open Go Go.Proofs

variable {s t u : St}

end Go.AM
end
/-
  Maps from dots to true; store.Lacking. Own work of this project; in part printed by a program of it.
-/
section
set_option maxRecDepth 100000
set_option maxHeartbeats 8000000
namespace Go.AM
open Go Go.Proofs

variable {s t u : St}
end Go.AM
end
/-
  The row's last part: a call that leaves what was there alone, and answers true. Own work of this project.
-/
section
namespace Go.AM
open Go Go.ChangeShapes Go.WideShapes Go.ChangeAt Go.RowKit

variable {H : Type} {enc : TypeId × Value → H} {P : Program}

theorem Clean.below {W W' : World} (h : Clean W W') : Below W.heap.size W W' := ⟨h.os, h.tape, h.output, h.size, h.block⟩
theorem Clean.frozen {W W' : World} (h : Clean W W') {a : Addr} (ha : a.block < W.heap.size) : W'.frozen? a = W.frozen? a := h.below.frozen ha

theorem trodAll_clean (hl : laidOutB P = true) {W W' : World} (hc : Clean W W') (sp : Nat → Bool) : ∀ {ts : List TypeId} {vs : List Value} {ds : List (DataW H)} {ps : List MemPlace}, (∀ t ∈ ts, P.readableRec t = true ∧ t < P.types.size) →
    DataW.TrodAll enc P W 0 (fun _ => true) true ts vs ds ps → (∀ p ∈ ps, sp p.block = true) → DataW.TrodAll enc P W' 0 sp true ts vs ds ps
  | [], vs, ds, ps, _, h, _ => by
    obtain ⟨rfl, rfl, rfl⟩ := trodAll_nil h
    rfl
  | t :: ts, vs, ds, ps, hr, h, hs => by
    obtain ⟨v, vs1, d, ds1, a, b, rfl, rfl, rfl, h1, h2⟩ := trodAll_cons h
    have hlt := DataW.TrodAll.lt h
    refine ⟨a, b, ?_, trodAll_clean hl hc sp (fun t ht => hr t (by simp [ht])) h2 fun p hp => hs p (by simp [hp]), rfl⟩
    exact WideElems.Trod_stays hl (hr t (by simp)).1 (hr t (by simp)).2 h1 (fun x hx => hc.below.same (hlt x (by simp [hx]))) fun x hx => hs x (by simp [hx])

theorem post_of_clean {f : Func} {s : ChangeSpec} {apart fresh handsOn again : Bool} {W W' : World} {args : Array Value} {ds gs : List (DataW H)} {before : List MemPlace} {tb : TypeId} (hl : laidOutB P = true)
    (hread : ∀ t ∈ f.params.toList, P.readableRec t = true ∧ t < P.types.size) (hW : DataW.Whole enc P f.params.toList s.vars apart W args.toList ds gs before) (hv : s.vars = [])
    (hres : (s.fn H (ds ++ gs)).results = [.lit (.bool true)]) (hargs : (s.fn H (ds ++ gs)).args = ds) (hvars : (s.fn H (ds ++ gs)).vars = []) (hrt : f.resultTypes = #[tb]) (hb : P.underlying tb = some .bool) (hc : Clean W W') :
    s.post enc P f apart fresh handsOn again W args (.bool true) W' := by
  have hlt : ∀ p ∈ before, p.block < W.heap.size := hW.lt
  have hW0 := hW
  obtain ⟨pa, pv, hA, hV, rfl, hz, hn⟩ := hW
  have hpv : pv = [] := by
    rw [hv] at hV
    cases gs with
    | nil => exact hV
    | cons g gs => exact hV.elim
  subst hpv
  simp only [List.append_nil] at hW0 hlt hz hn
  have hR : ∀ (b : Nat) (sp : Nat → Bool) (hd : Bool), DataW.TrodAll enc P W' b sp hd [tb] [.bool true] [.lit (.bool true)] [] := fun b sp hd => trodAll_mk1 (shut_bool hb true)
  have hrl : (Value.bool true).resultList f.resultTypes.size = [.bool true] := by simp [hrt, Value.resultList]
  refine ⟨ds, gs, pa, [], pa, [], hW0, ?_, ?_, ?_, ?_, fun _ => ⟨fun j t r h1 h2 => ?_, ?_⟩⟩
  · rw [hrl, hres, hrt]
    exact hR _ _ _
  · rw [hargs]
    exact trodAll_clean hl hc _ hread hA fun p hp => by simpa using hlt p hp
  · rw [hvars, hv]
    rfl
  · exact hc.below.frame _
  · rw [hrl] at h2
    rw [hrt] at h1
    cases j with
    | zero =>
      simp at h1 h2
      subst h1; subst h2
      simp [Value.okWide, hb, Cell.okWide, Cell.ok]
    | succ j => simp at h1
  · refine ⟨[.lit (.bool true)] ++ ds, [], pa, ⟨[] ++ pa, [], ?_, ?_, by simp, ?_, ?_⟩, fun p hp _ => hp⟩
    · rw [hrl, hrt]
      exact trodAll_append (trodAll_clean hl hc _ hread hA fun _ _ => rfl) (hR _ _ _)
    · rw [hv]
      rfl
    · intro b off hp
      rw [hc.frozen (hlt _ hp)]
      exact hz b off hp
    · intro ha
      simpa using hn ha

end Go.AM
end
/-
  From a row's reading of an argument to the abstract machine's memory. Own work of this project.
-/
section
namespace Go.AM
open Go Go.ChangeShapes Go.WideShapes Go.ChangeAt Go.RowKit Go.Deep

/-- The kinds of plain cells. -/
inductive CK where
  | b | i (k : IntKind) | s
def CK.ok : CK → AV → Prop
  | .b, v => ∃ x, v = .bool x
  | .i k, v => ∃ n, v = .int k n ∧ (Lit.int k n).wf = true
  | .s, v => ∃ x, v = .str x
def CKs : List CK → List AV → Prop
  | [], vs => vs = []
  | k :: ks, vs => ∃ v r, vs = v :: r ∧ k.ok v ∧ CKs ks r
theorem CKs.append : ∀ {ks ks' : List CK} {vs vs' : List AV}, CKs ks vs → CKs ks' vs' → CKs (ks ++ ks') (vs ++ vs')
  | [], ks', vs, vs', h, h' => by simp only [CKs] at h; subst h; exact h'
  | k :: ks, ks', vs, vs', h, h' => by
    simp only [CKs] at h
    obtain ⟨v, r, rfl, h1, h2⟩ := h
    exact ⟨v, r ++ vs', rfl, h1, CKs.append h2 h'⟩
theorem CKs.len : ∀ {ks : List CK} {vs : List AV}, CKs ks vs → vs.length = ks.length
  | [], vs, h => by simp only [CKs] at h; subst h; rfl
  | k :: ks, vs, h => by
    simp only [CKs] at h
    obtain ⟨v, r, rfl, h1, h2⟩ := h
    simp [CKs.len h2]
theorem CK.ok_one {k : CK} {v : AV} (h : k.ok v) : v.one = true := by
  cases k <;> simp only [CK.ok] at h
  · obtain ⟨x, rfl⟩ := h; rfl
  · obtain ⟨x, rfl, _⟩ := h; rfl
  · obtain ⟨x, rfl⟩ := h; rfl
theorem CKs.one : ∀ {ks : List CK} {vs : List AV}, CKs ks vs → vs.all AV.one = true
  | [], vs, h => by simp only [CKs] at h; subst h; rfl
  | k :: ks, vs, h => by
    simp only [CKs] at h
    obtain ⟨v, r, rfl, h1, h2⟩ := h
    simp [CK.ok_one h1, CKs.one h2]

variable (P : Program)
def cks : Nat → TypeId → Option (List CK)
  | 0, _ => none
  | d + 1, t =>
    match P.underlying t with
    | some .bool => some [.b]
    | some (.int k) => some [.i k]
    | some .string => some [.s]
    | some (.struct fs) => cksF (cks d) fs.toList 0 (P.cellsOf t)
    | _ => none
where
  cksF (ok : TypeId → Option (List CK)) : List Field → Nat → Nat → Option (List CK)
    | [], at_, sz => if sz = at_ then some [] else none
    | f :: r, at_, sz =>
      if f.offset = at_ then
        match ok f.type with
        | some ks => if ks.length = P.cellsOf f.type then (cksF ok r (at_ + ks.length) sz).map (ks ++ ·) else none
        | none => none
      else none

variable {P}
variable {H : Type} {enc : TypeId × Value → H} {w : World} {base : Nat} {spare : Nat → Bool} {held : Bool}
theorem cell_some {a : Addr} {v : Value} (h : w.cell? a = some v) : ∃ cells el fr, w.heap[a.block]? = some (.cells cells el fr) ∧ a.spot = none := by
  unfold World.cell? at h
  split at h
  · rename_i c el fr hh
    split at h
    · cases h
    · rename_i hs
      exact ⟨c, el, fr, hh, by simpa using hs⟩
  · cases h
theorem addr_block (a : Addr) (i : Nat) : (a.add i).block = a.block := by unfold Addr.add; split <;> rfl
theorem addr_spot (a : Addr) (i : Nat) (h : (a.add i).spot = none) (h0 : i = 0 ∨ True) : i = 0 → a.spot = none := by
  intro hi
  subst hi
  unfold Addr.add at h
  simpa using h

/-- Cells, each kind in its turn, again and again. -/
def Rows (ks : List CK) (rows : List (List AV)) : Prop := ∀ r ∈ rows, CKs ks r
end Go.AM
end
/-
  Arguments with slices in slices and in structs, opened into the abstract machine's memory. Own work of this project.
-/
section
set_option maxRecDepth 100000
namespace Go.AM
open Go Go.ChangeShapes Go.WideShapes Go.ChangeAt Go.RowKit Go.Deep

/-- Some block of cells is there. -/
def HasCellsD (W : World) : Prop := ∃ (b : Nat) (cs : Array Value) (e : TypeId) (fr : Nat × Nat), W.heap[b]? = some (Obj.cells cs e fr)
theorem dummyD {W : World} (h : HasCellsD W) : ∃ L : Loc, L.b < W.heap.size ∧ ∀ ρ, BlkOk ρ L W (.row [] false) := by
  obtain ⟨b, cs, e, fr, hb⟩ := h
  refine ⟨⟨b, 0, cs.size⟩, (Array.getElem?_eq_some_iff.1 hb).1, fun ρ => ?_⟩
  simp only [BlkOk]
  exact ⟨cs, e, fr, hb, rfl, by simp, fun i v h => by simp at h, by simp, rfl⟩

section
variable (P : Program)
/-- What the memory shows at cells of a type. -/
def RdF (ok : TypeId → List AV → Prop) : List Field → List AV → Prop
  | [], vs => vs = []
  | f :: r, vs => ∃ a b, vs = a ++ b ∧ ok f.type a ∧ RdF ok r b
def RdT (s : St) : Nat → TypeId → List AV → Prop
  | 0, _, _ => False
  | d + 1, t, vs => match P.underlying t with
    | some .bool => ∃ x, vs = [.bool x]
    | some (.int k) => ∃ n, vs = [.int k n] ∧ (Lit.int k n).wf = true
    | some .string => ∃ x, vs = [.str x]
    | some (.struct fs) => RdF (RdT s d) fs.toList vs
    | some (.slice e) => vs = [.nils] ∨ ∃ (id n cap : Nat) (rows : List (List AV)), vs = [.sl id 0 n (some cap) (P.cellsOf e)] ∧ n ≤ cap ∧ cap ≤ maxLen ∧ rows.length = cap ∧ s.get id = some (.row rows.flatten false) ∧ ∀ r ∈ rows, RdT s d e r ∧ r.length = P.cellsOf e
    | _ => False
def okF (ok : TypeId → Bool) : List Field → Nat → Nat → Bool
  | [], at_, sz => decide (sz = at_)
  | f :: r, at_, sz => decide (f.offset = at_) && ok f.type && okF ok r (at_ + P.cellsOf f.type) sz
def okT : Nat → TypeId → Bool
  | 0, _ => false
  | d + 1, t => match P.underlying t with
    | some .bool | some (.int _) | some .string => true
    | some (.struct fs) => okF P (okT d) fs.toList 0 (P.cellsOf t)
    | some (.slice e) => decide (P.cellsOf e ≠ 0) && okT d e
    | _ => false
end

variable {P : Program} {H : Type} {enc : TypeId × Value → H} {W : World} {base : Nat} {held : Bool}
/-- Cells, and the blocks that they reach, numbered from 'start' on. -/
structure Opn (W : World) (Q : St → List AV → Prop) (start : Nat) (cs : List Value) (vs : List AV) (bl : List (AB × Loc)) : Prop where
  lt : ∀ p ∈ bl, p.2.b < W.heap.size
  own : ∀ p ∈ bl, p.1.owned = false
  vr : ∀ ρ : Ren, (∀ i p, bl[i]? = some p → ρ (start + i) = some p.2) → VRs ρ vs cs ∧ ∀ p ∈ bl, BlkOk ρ p.2 W p.1
  rd : ∀ s : St, (∀ i p, bl[i]? = some p → s.get (start + i) = some p.1) → Q s vs
  one : vs.all AV.one = true
  len : vs.length = cs.length
theorem Opn.plain {Q : St → List AV → Prop} {start : Nat} {cs : List Value} {vs : List AV} (h : ∀ ρ, VRs ρ vs cs) (hq : ∀ s, Q s vs) (ho : vs.all AV.one = true) (hl : vs.length = cs.length) : Opn W Q start cs vs [] :=
  ⟨by simp, by simp, fun ρ _ => ⟨h ρ, by simp⟩, fun s _ => hq s, ho, hl⟩
theorem Opn.app {Q1 Q2 : St → List AV → Prop} {start : Nat} {c1 c2 : List Value} {v1 v2 : List AV} {b1 b2 : List (AB × Loc)} (h : Opn W Q1 start c1 v1 b1) (k : Opn W Q2 (start + b1.length) c2 v2 b2) :
    Opn W (fun s _ => Q1 s v1 ∧ Q2 s v2) start (c1 ++ c2) (v1 ++ v2) (b1 ++ b2) := by
  have e1 : ∀ {i : Nat} {p}, b1[i]? = some p → (b1 ++ b2)[i]? = some p := fun {i p} hp => by
    rw [List.getElem?_append_left (List.getElem?_eq_some_iff.1 hp).1]; exact hp
  have e2 : ∀ {i : Nat} {p}, b2[i]? = some p → (b1 ++ b2)[b1.length + i]? = some p := fun {i p} hp => by
    rw [List.getElem?_append_right (by omega), Nat.add_sub_cancel_left]; exact hp
  refine ⟨fun p hp => ?_, fun p hp => ?_, fun ρ hρ => ?_, fun s hs => ⟨h.rd s fun i p hp => hs i p (e1 hp), k.rd s fun i p hp => ?_⟩, by simp [h.one, k.one], by simp [h.len, k.len]⟩
  · rcases List.mem_append.1 hp with q | q
    · exact h.lt p q
    · exact k.lt p q
  · rcases List.mem_append.1 hp with q | q
    · exact h.own p q
    · exact k.own p q
  · obtain ⟨r1, r2⟩ := h.vr ρ fun i p hp => hρ i p (e1 hp)
    obtain ⟨r3, r4⟩ := k.vr ρ fun i p hp => by have := hρ _ p (e2 hp); rwa [← Nat.add_assoc] at this
    refine ⟨r1.append r3, fun p hp => ?_⟩
    rcases List.mem_append.1 hp with q | q
    · exact r2 p q
    · exact r4 p q
  · have := hs _ p (e2 hp)
    rwa [← Nat.add_assoc] at this
theorem Opn.imp {Q Q' : St → List AV → Prop} {start : Nat} {cs : List Value} {vs : List AV} {bl : List (AB × Loc)} (h : Opn W Q start cs vs bl) (k : ∀ s, Q s vs → Q' s vs) : Opn W Q' start cs vs bl :=
  ⟨h.lt, h.own, h.vr, fun s hs => k s (h.rd s hs), h.one, h.len⟩

/-- A slice's place, its elements as they are read one by one. -/
theorem slice_geo {t e : TypeId} {fuel : Nat} {cs : List Value} {x : DataW H × List MemPlace} (hu : P.underlying t = some (.slice e)) (h0 : P.cellsOf e ≠ 0)
    (h : DataW.trod enc P W base (fun _ => true) held fuel t cs = some x) : cs = [.slice none 0 0] ∨ (∃ a, cs = [.slice (some a) 0 0]) ∨
    ∃ (b off len cap : Nat) (cells : Array Value) (el : TypeId) (fr : Nat × Nat) (n : Nat), cs = [.slice (some ⟨b, off, none⟩) len cap] ∧ 0 < cap ∧ len ≤ cap ∧ cap ≤ maxLen ∧ W.heap[b]? = some (.cells cells el fr) ∧ off + cap * P.cellsOf e ≤ cells.size ∧
      ∀ i, i < cap → ∃ x, DataW.trod enc P W base (fun _ => true) held n e ((cells.toList.drop (off + i * P.cellsOf e)).take (P.cellsOf e)) = some x := by
  rcases open_slice hu h with ⟨rfl, _⟩ | ⟨a, len, cap, m, n, D, Pl, rfl, hb, hl, hm, hmm, _, hx⟩
  · exact .inl rfl
  right
  simp only [if_true] at hmm
  subst hmm
  by_cases hc : m = 0
  · left
    subst hc
    have : len = 0 := by omega
    subst this
    exact ⟨a, rfl⟩
  right
  obtain ⟨cs0, h1, _⟩ := hx 0 (by omega)
  obtain ⟨_, hl0, hat0⟩ := World.cells?_some h1
  have hc0 := hat0 0 (by omega)
  obtain ⟨b, off, spot⟩ := a
  have hsome : ∃ v, cs0[0]? = some v := ⟨cs0[0]'(by omega), by simp⟩
  obtain ⟨v0, hv0⟩ := hsome
  rw [hv0] at hc0
  obtain ⟨cells, el, fr, hh, hsp⟩ := cell_some hc0
  rw [addr_block, addr_block] at hh
  simp only at hh
  have hspot : spot = none := by
    have h2 := addr_spot _ 0 hsp (.inl rfl) rfl
    have h3 := addr_spot _ (0 * P.cellsOf e) h2 (.inr trivial) (by simp)
    exact h3
  subst hspot
  have hat : ∀ i, i < m → off + (i + 1) * P.cellsOf e ≤ cells.size ∧ ∃ x, DataW.trod enc P W base (fun _ => true) held n e ((cells.toList.drop (off + i * P.cellsOf e)).take (P.cellsOf e)) = some x := by
    intro i hi
    obtain ⟨cs', e1, e2⟩ := hx i hi
    obtain ⟨_, hl', hat'⟩ := World.cells?_some e1
    have hget : ∀ j, j < P.cellsOf e → cells[off + i * P.cellsOf e + j]? = cs'[j]? := by
      intro j hj
      have := hat' j hj
      rw [addr_add, addr_add, cell_at hh] at this
      exact this
    have hsz : off + (i + 1) * P.cellsOf e ≤ cells.size := by
      have hj : P.cellsOf e - 1 < P.cellsOf e := by omega
      have := hget _ hj
      rw [List.getElem?_eq_getElem (by omega)] at this
      have hlt := (Array.getElem?_eq_some_iff.1 this).1
      rw [Nat.succ_mul]
      omega
    refine ⟨hsz, (D i, Pl i), ?_⟩
    have : (cells.toList.drop (off + i * P.cellsOf e)).take (P.cellsOf e) = cs' := by
      apply List.ext_getElem?
      intro j
      by_cases hj : j < P.cellsOf e
      · rw [List.getElem?_take_of_lt hj, List.getElem?_drop]
        have := hget j (by omega)
        simpa using this
      · rw [List.getElem?_eq_none (by simp; omega), List.getElem?_eq_none (by omega)]
    rw [this]
    exact e2
  obtain ⟨q2, _⟩ := hat (m - 1) (by omega)
  rw [show m - 1 + 1 = m by omega] at q2
  exact ⟨b, off, len, m, cells, el, fr, n, rfl, by omega, hl, hm, hh, q2, fun i hi => (hat i hi).2⟩

def DeepOk (P : Program) (enc : TypeId × Value → H) (W : World) (base : Nat) (held : Bool) (d : Nat) (t : TypeId) : Prop :=
  ∀ (fuel : Nat) (cs : List Value) (x : DataW H × List MemPlace), DataW.trod enc P W base (fun _ => true) held fuel t cs = some x → ∀ start, ∃ vs bl, Opn W (fun s vs => RdT P s d t vs) start cs vs bl

theorem deep_fields {d : Nat} (IH : ∀ t, okT P d t = true → DeepOk P enc W base held d t) {n : Nat} {cs : List Value} {sz : Nat} (hcs : cs.length = sz) : ∀ (fs : List Field) (at_ : Nat), okF P (okT P d) fs at_ sz = true →
    (∀ f ∈ fs, ∃ x, DataW.trod enc P W base (fun _ => true) held n f.type ((cs.drop f.offset).take (P.cellsOf f.type)) = some x) → ∀ start, ∃ vs bl, Opn W (fun s vs => RdF (RdT P s d) fs vs) start (cs.drop at_) vs bl
  | [], at_, h, _, start => by
    simp only [okF, decide_eq_true_eq] at h
    rw [List.drop_eq_nil_of_le (by omega)]
    exact ⟨[], [], .plain (fun _ => VRs_nil) (fun _ => rfl) rfl rfl⟩
  | f :: r, at_, h, hx, start => by
    simp only [okF, Bool.and_eq_true, decide_eq_true_eq] at h
    obtain ⟨⟨hoff, hok⟩, hr⟩ := h
    obtain ⟨x, hxf⟩ := hx f (by simp)
    obtain ⟨v1, b1, o1⟩ := IH f.type hok n _ x hxf start
    obtain ⟨v2, b2, o2⟩ := deep_fields IH hcs r (at_ + P.cellsOf f.type) hr (fun g hg => hx g (by simp [hg])) (start + b1.length)
    refine ⟨v1 ++ v2, b1 ++ b2, ?_⟩
    have := o1.app o2
    rw [hoff, ← List.drop_drop, List.take_append_drop] at this
    exact this.imp fun s q => ⟨v1, v2, rfl, q⟩
theorem deep_rows {d : Nat} {e : TypeId} {n : Nat} (IH : DeepOk P enc W base held d e) (cells : List Value) (off : Nat) : ∀ (k : Nat), off + k * P.cellsOf e ≤ cells.length →
    (∀ i, i < k → ∃ x, DataW.trod enc P W base (fun _ => true) held n e ((cells.drop (off + i * P.cellsOf e)).take (P.cellsOf e)) = some x) → ∀ start, ∃ (rows : List (List AV)) (bl : List (AB × Loc)), rows.length = k ∧
      Opn W (fun s _ => ∀ r ∈ rows, RdT P s d e r ∧ r.length = P.cellsOf e) start ((cells.drop off).take (k * P.cellsOf e)) rows.flatten bl
  | 0, _, _, start => ⟨[], [], rfl, .plain (fun _ => by simpa using VRs_nil) (fun _ r hr => by simp at hr) rfl (by simp)⟩
  | k + 1, hle, hx, start => by
    obtain ⟨rows, b1, h1, o1⟩ := deep_rows IH cells off k (by rw [Nat.succ_mul] at hle; omega) (fun i hi => hx i (by omega)) start
    obtain ⟨x, hxk⟩ := hx k (by omega)
    obtain ⟨v2, b2, o2⟩ := IH n _ x hxk (start + b1.length)
    refine ⟨rows ++ [v2], b1 ++ b2, by simp [h1], ?_⟩
    have hl2 : v2.length = P.cellsOf e := by
      rw [o2.len, List.length_take, List.length_drop]
      rw [Nat.succ_mul] at hle
      omega
    have := o1.app o2
    rw [List.flatten_append, List.flatten_singleton, Nat.succ_mul, List.take_add, List.drop_drop]
    refine this.imp fun s hq r hr => ?_
    rcases List.mem_append.1 hr with q | q
    · exact hq.1 r q
    · simp at q
      subst q
      exact ⟨hq.2, hl2⟩
theorem VRs.cell {ρ : Ren} {vs : List AV} {cs : List Value} (h : VRs ρ vs cs) {i : Nat} {v : AV} (hi : vs[i]? = some v) : ∃ c, cs[i]? = some c ∧ VR ρ v c := VRs.at_ i h hi
theorem deep_open (hc : HasCellsD W) : ∀ (d : Nat) (t : TypeId), okT P d t = true → DeepOk P enc W base held d t
  | 0, t, h => by simp [okT] at h
  | d + 1, t, h => by
    intro fuel cs x hx start
    simp only [okT] at h
    split at h
    · rename_i hu
      obtain ⟨b, rfl, _⟩ := DataW.trod_bool hu hx
      exact ⟨[.bool b], [], .plain (fun ρ => VRs_cons.2 ⟨by simp [VR], VRs_nil⟩) (fun s => by simp only [RdT, hu]; exact ⟨b, rfl⟩) rfl rfl⟩
    · rename_i k hu
      obtain ⟨b, rfl, _, hw⟩ := DataW.trod_int hu hx
      exact ⟨[.int k b], [], .plain (fun ρ => VRs_cons.2 ⟨by simp [VR], VRs_nil⟩) (fun s => by simp only [RdT, hu]; exact ⟨b, rfl, hw⟩) rfl rfl⟩
    · rename_i hu
      obtain ⟨b, rfl, _⟩ := DataW.trod_string hu hx
      exact ⟨[.str b], [], .plain (fun ρ => VRs_cons.2 ⟨by simp [VR], VRs_nil⟩) (fun s => by simp only [RdT, hu]; exact ⟨b, rfl⟩) rfl rfl⟩
    · rename_i fs hu
      obtain ⟨xs, n, _, _, hl, hxl, hf⟩ := DataW.trod_struct hu hx
      obtain ⟨vs, bl, ho⟩ := deep_fields (fun t hk => deep_open hc d t hk) hl fs.toList 0 h (n := n) (fun f hmem => by
        obtain ⟨i, hi⟩ := List.getElem?_of_mem hmem
        have hi' : fs[i]? = some f := by simpa using hi
        have hlt : i < xs.length := by
          have := (Array.getElem?_eq_some_iff.1 hi').1
          omega
        exact ⟨xs[i], by rw [hf i f hi']; simp [hlt]⟩) start
      rw [List.drop_zero] at ho
      exact ⟨vs, bl, ho.imp fun s q => by simp only [RdT, hu]; exact q⟩
    · rename_i e hu
      simp only [Bool.and_eq_true, decide_eq_true_eq] at h
      obtain ⟨L, hL1, hL2⟩ := dummyD hc
      rcases slice_geo hu h.1 hx with rfl | ⟨a, rfl⟩ | ⟨b, off, len, cap, cells, el, fr, n, rfl, h2, h3, h4, h5, h6, h7⟩
      · exact ⟨[.nils], [], .plain (fun ρ => VRs_cons.2 ⟨by simp [VR], VRs_nil⟩) (fun s => by simp only [RdT, hu]; exact .inl (by trivial)) rfl rfl⟩
      · refine ⟨[.sl start 0 0 (some 0) (P.cellsOf e)], [(.row [] false, L)], ?_, ?_, fun ρ hρ => ⟨VRs_cons.2 ⟨?_, VRs_nil⟩, ?_⟩, fun s hs => ?_, rfl, rfl⟩
        · intro p hp
          simp at hp
          subst hp
          exact hL1
        · intro p hp
          simp at hp
          subst hp
          rfl
        · simp only [VR]
          exact ⟨L, a, 0, hρ 0 _ rfl, rfl, Nat.le_refl _, fun k hk => by injection hk, .inl rfl⟩
        · intro p hp
          simp at hp
          subst hp
          exact hL2 ρ
        · simp only [RdT, hu]
          exact .inr ⟨start, 0, 0, [], rfl, Nat.le_refl _, Nat.zero_le _, rfl, hs 0 _ rfl, fun r hr => by simp at hr⟩
      · have hlt := (Array.getElem?_eq_some_iff.1 h5).1
        obtain ⟨rows, bl, hr1, ho⟩ := deep_rows (deep_open hc d e h.2) cells.toList off cap (by simpa using h6) h7 (start + 1)
        have hfl : rows.flatten.length = cap * P.cellsOf e := by
          rw [ho.len, List.length_take, List.length_drop]
          simp
          omega
        have hup : ∀ {ρ : Ren}, (∀ i p, ((AB.row rows.flatten false, (⟨b, off, cells.size⟩ : Loc)) :: bl)[i]? = some p → ρ (start + i) = some p.2) → ∀ i p, bl[i]? = some p → ρ (start + 1 + i) = some p.2 := fun hρ i p hp => by
          have := hρ (i + 1) p (by simpa using hp)
          rwa [show start + (i + 1) = start + 1 + i by omega] at this
        refine ⟨[.sl start 0 len (some cap) (P.cellsOf e)], (.row rows.flatten false, ⟨b, off, cells.size⟩) :: bl, ?_, ?_, fun ρ hρ => ?_, fun s hs => ?_, rfl, rfl⟩
        · intro p hp
          rcases List.mem_cons.1 hp with rfl | hp
          · exact hlt
          · exact ho.lt p hp
        · intro p hp
          rcases List.mem_cons.1 hp with rfl | hp
          · rfl
          · exact ho.own p hp
        · obtain ⟨r1, r2⟩ := ho.vr ρ (hup hρ)
          refine ⟨VRs_cons.2 ⟨?_, VRs_nil⟩, fun p hp => ?_⟩
          · simp only [VR]
            exact ⟨⟨b, off, cells.size⟩, ⟨b, off, none⟩, cap, hρ 0 _ rfl, rfl, h3, fun k hk => by injection hk, .inr ⟨by simp, by simpa using h6⟩⟩
          · rcases List.mem_cons.1 hp with rfl | hp
            · simp only [BlkOk]
              refine ⟨cells, el, fr, h5, rfl, by rw [hfl]; exact h6, fun i v hi => ?_, by simp, ho.one⟩
              have hi' := (List.getElem?_eq_some_iff.1 hi).1
              obtain ⟨c, hc1, hc2⟩ := r1.cell hi
              refine ⟨c, ?_, hc2⟩
              rw [List.getElem?_take_of_lt (by omega), List.getElem?_drop] at hc1
              simpa using hc1
            · exact r2 p hp
        · simp only [RdT, hu]
          refine .inr ⟨start, len, cap, rows, rfl, h3, h4, hr1, hs 0 _ rfl, ?_⟩
          refine ho.rd s fun i p hp => ?_
          have := hs (i + 1) p (by simpa using hp)
          rwa [show start + (i + 1) = start + 1 + i by omega] at this
    · cases h

/-! ### All arguments of a call -/
def argAV (P : Program) (t : TypeId) (vs : List AV) : AV := match P.underlying t with
  | some (.struct _) => .agg vs
  | _ => vs.headD .und
def RdA (P : Program) (s : St) (d : Nat) (t : TypeId) (v : AV) : Prop := ∃ vs, RdT P s d t vs ∧ v = argAV P t vs
def RdAs (P : Program) (s : St) (d : Nat) : List TypeId → List AV → Prop
  | [], xs => xs = []
  | t :: ts, xs => ∃ v r, xs = v :: r ∧ RdA P s d t v ∧ RdAs P s d ts r
structure OpnA (W : World) (Q : St → List AV → Prop) (start : Nat) (cs : List Value) (vs : List AV) (bl : List (AB × Loc)) : Prop where
  lt : ∀ p ∈ bl, p.2.b < W.heap.size
  own : ∀ p ∈ bl, p.1.owned = false
  vr : ∀ ρ : Ren, (∀ i p, bl[i]? = some p → ρ (start + i) = some p.2) → VRs ρ vs cs ∧ ∀ p ∈ bl, BlkOk ρ p.2 W p.1
  rd : ∀ s : St, (∀ i p, bl[i]? = some p → s.get (start + i) = some p.1) → Q s vs
theorem OpnA.cons {Q1 Q2 : St → List AV → Prop} {start : Nat} {c : Value} {cs : List Value} {v : AV} {vs : List AV} {b1 b2 : List (AB × Loc)} (h : OpnA W Q1 start [c] [v] b1) (k : OpnA W Q2 (start + b1.length) cs vs b2) :
    OpnA W (fun s _ => Q1 s [v] ∧ Q2 s vs) start (c :: cs) (v :: vs) (b1 ++ b2) := by
  have e1 : ∀ {i : Nat} {p}, b1[i]? = some p → (b1 ++ b2)[i]? = some p := fun {i p} hp => by
    rw [List.getElem?_append_left (List.getElem?_eq_some_iff.1 hp).1]; exact hp
  have e2 : ∀ {i : Nat} {p}, b2[i]? = some p → (b1 ++ b2)[b1.length + i]? = some p := fun {i p} hp => by
    rw [List.getElem?_append_right (by omega), Nat.add_sub_cancel_left]; exact hp
  refine ⟨fun p hp => ?_, fun p hp => ?_, fun ρ hρ => ?_, fun s hs => ⟨h.rd s fun i p hp => hs i p (e1 hp), k.rd s fun i p hp => ?_⟩⟩
  · rcases List.mem_append.1 hp with q | q
    · exact h.lt p q
    · exact k.lt p q
  · rcases List.mem_append.1 hp with q | q
    · exact h.own p q
    · exact k.own p q
  · obtain ⟨r1, r2⟩ := h.vr ρ fun i p hp => hρ i p (e1 hp)
    obtain ⟨r3, r4⟩ := k.vr ρ fun i p hp => by have := hρ _ p (e2 hp); rwa [← Nat.add_assoc] at this
    refine ⟨r1.append r3, fun p hp => ?_⟩
    rcases List.mem_append.1 hp with q | q
    · exact r2 p q
    · exact r4 p q
  · have := hs _ p (e2 hp)
    rwa [← Nat.add_assoc] at this
theorem arg_deep (hc : HasCellsD W) {d : Nat} {t : TypeId} (hok : okT P (d + 1) t = true) {v : Value} {x : DataW H} {p : List MemPlace} (h : DataW.Trod enc P W base (fun _ => true) held t v x p) {b0 : Nat} (hval : Value.okWide P W .any b0 t v) (start : Nat) :
    ∃ a bl, OpnA W (fun s _ => RdA P s (d + 1) t a) start [v] [a] bl := by
  obtain ⟨fuel, h⟩ := h
  obtain ⟨vs, bl, ho⟩ := deep_open hc (d + 1) t hok fuel _ _ h start
  have hone : ∀ (hv : v.cells.toList = [v]) (ha : argAV P t vs = vs.headD .und), ∃ a bl, OpnA W (fun s _ => RdA P s (d + 1) t a) start [v] [a] bl := by
    intro hv ha
    have hl := ho.len
    rw [hv] at hl
    match vs, hl with
    | [a], _ =>
      refine ⟨a, bl, ho.lt, ho.own, fun ρ hρ => ?_, fun s hs => ⟨[a], ho.rd s hs, by rw [ha]; rfl⟩⟩
      have := ho.vr ρ hρ
      rw [hv] at this
      exact this
  simp only [okT] at hok
  split at hok
  · rename_i hu
    obtain ⟨b, rfl⟩ := okWide_bool hu hval
    exact hone rfl (by simp [argAV, hu])
  · rename_i k hu
    obtain ⟨b, rfl⟩ := okWide_int hu hval
    exact hone rfl (by simp [argAV, hu])
  · rename_i hu
    obtain ⟨b, rfl⟩ := okWide_string hu hval
    exact hone rfl (by simp [argAV, hu])
  · rename_i fs hu
    obtain ⟨cs, rfl, _⟩ := okWide_struct hu hval
    refine ⟨.agg vs, bl, ho.lt, ho.own, fun ρ hρ => ?_, fun s hs => ⟨vs, ho.rd s hs, by simp [argAV, hu]⟩⟩
    obtain ⟨r1, r2⟩ := ho.vr ρ hρ
    refine ⟨VRs_cons.2 ⟨?_, VRs_nil⟩, r2⟩
    simp only [VR]
    exact ⟨cs.toList, by simp, r1⟩
  · rename_i e hu
    obtain ⟨a, len, cap, rfl⟩ := okWide_slice hu hval
    exact hone rfl (by simp [argAV, hu])
  · cases hok
theorem args_deep (hc : HasCellsD W) {d : Nat} : ∀ {ts : List TypeId} {vs : List Value} {ds : List (DataW H)} {ps : List MemPlace}, (∀ t ∈ ts, okT P (d + 1) t = true) → DataW.TrodAll enc P W base (fun _ => true) held ts vs ds ps →
    (∀ (j : Nat) t v, ts[j]? = some t → vs[j]? = some v → ∃ b0, Value.okWide P W .any b0 t v) → ∀ start, ∃ xs bl, OpnA W (fun s _ => RdAs P s (d + 1) ts xs) start vs xs bl
  | [], vs, ds, ps, _, h, _, start => by
    obtain ⟨rfl, rfl, rfl⟩ := trodAll_nil h
    exact ⟨[], [], by simp, by simp, fun ρ _ => ⟨VRs_nil, by simp⟩, fun s _ => rfl⟩
  | t :: ts, vs, ds, ps, hok, h, hval, start => by
    obtain ⟨v, vs1, x, ds1, a, b, rfl, rfl, rfl, h1, h2⟩ := trodAll_cons h
    obtain ⟨b0, hv⟩ := hval 0 t v rfl rfl
    obtain ⟨av, bl1, o1⟩ := arg_deep hc (hok t (by simp)) h1 hv start
    obtain ⟨xs, bl2, o2⟩ := args_deep hc (fun t' ht => hok t' (by simp [ht])) h2 (fun j t' v' e1 e2 => hval (j + 1) t' v' (by simpa using e1) (by simpa using e2)) (start + bl1.length)
    have := o1.cons o2
    exact ⟨av :: xs, bl1 ++ bl2, this.lt, this.own, this.vr, fun s hs => ⟨av, xs, rfl, this.rd s hs⟩⟩
open Classical in
noncomputable def lawC (P : Program) (d : Nat) (ts : List TypeId) : List AV → St → Option (AV × St) := fun xs s => if RdAs P s d ts xs then some (.bool true, { heap := s.heap, next := s.next, low := min s.low s.next }) else none
theorem deep_call {d : Nat} {ts : List TypeId} {args : List Value} {xs : List AV} {bl : List (AB × Loc)} (ho : OpnA W (fun s _ => RdAs P s d ts xs) 0 args xs bl) {f : Nat} (hs : SoundAt P f (lawC P d ts)) : Calls P f args.toArray W fun e W' => e = .returned (.bool true) ∧ Clean W W' := by
  obtain ⟨s0, hs0⟩ : ∃ s0 : St, s0 = ⟨(bl.map (·.1)).reverse, bl.length, 0⟩ := ⟨_, rfl⟩
  have hnx : s0.next = bl.length := by rw [hs0]
  have hget : ∀ i, s0.get i = (bl[i]?).map (·.1) := by
    intro i
    subst hs0
    unfold St.get
    simp only
    split
    · rename_i h
      rw [List.getElem?_reverse (by simp; omega)]
      simp only [List.length_map, List.getElem?_map]
      rw [show bl.length - 1 - (bl.length - 1 - i) = i by omega]
    · rename_i h
      rw [List.getElem?_eq_none (by omega)]
      rfl
  have hown : ∀ i b, s0.get i = some b → b.owned = false := by
    intro i b h
    rw [hget] at h
    obtain ⟨p, hp, rfl⟩ := Option.map_eq_some_iff.1 h
    exact ho.own p (List.mem_of_getElem? hp)
  obtain ⟨ρ, hρ⟩ : ∃ ρ : Ren, ρ = fun i => (bl[i]?).map (·.2) := ⟨_, rfl⟩
  have hρ1 : ∀ i p, bl[i]? = some p → ρ (0 + i) = some p.2 := fun i p hp => by rw [hρ, Nat.zero_add]; simp [hp]
  obtain ⟨hv, hb⟩ := ho.vr ρ hρ1
  have hR : R s0 ρ W := by
    refine ⟨fun i L h => ?_, fun i b L h1 h2 => ?_, fun i j L M bi bj _ _ _ e3 _ e5 _ => ?_⟩
    · rw [hρ] at h
      obtain ⟨p, hp, rfl⟩ := Option.map_eq_some_iff.1 h
      exact ho.lt p (List.mem_of_getElem? hp)
    · rw [hget] at h1
      rw [hρ] at h2
      obtain ⟨p, hp, rfl⟩ := Option.map_eq_some_iff.1 h1
      simp [hp] at h2
      subst h2
      exact hb p (List.mem_of_getElem? hp)
    · rw [hown i bi e3] at e5; cases e5
  have hrd := ho.rd s0 fun i p hp => by rw [Nat.zero_add, hget, hp]; rfl
  obtain ⟨_, _, h⟩ := hs xs s0 _ _ (by unfold lawC; rw [if_pos hrd])
  have := h ρ W args (fun i hi => by rw [hρ]; simp; omega) hR hv
  refine this.mono fun e W' hp => ?_
  obtain ⟨ρ', v, rfl, hv', hst, _⟩ := hp
  simp only [VR] at hv'
  subst hv'
  exact ⟨rfl, hst.size, hst.os, hst.tape, hst.output, hst.drawn, fun b hb => hst.frame b hb fun id L blk _ _ h1 h2 => by rw [hown id blk h1] at h2; cases h2⟩
theorem trodAll_len : ∀ {ts : List TypeId} {vs : List Value} {ds : List (DataW H)} {ps : List MemPlace}, DataW.TrodAll enc P W base (fun _ => true) held ts vs ds ps → ds.length = ts.length
  | [], vs, ds, ps, h => by
    obtain ⟨rfl, rfl, rfl⟩ := trodAll_nil h
    rfl
  | t :: ts, vs, ds, ps, h => by
    obtain ⟨v, vs1, x, ds1, a, b, rfl, rfl, rfl, h1, h2⟩ := trodAll_cons h
    simp [trodAll_len h2]
end Go.AM
end
/-
  What the arguments of the statements show: numbers, nodes, states, lists of states. Own work of this project.
-/
section
set_option maxRecDepth 100000
namespace Go.AM
open Go Go.Proofs

variable {P : Program} {s : St}
theorem rd_cksF {ok : TypeId → Option (List CK)} {rd : TypeId → List AV → Prop} (IH : ∀ t ks vs, ok t = some ks → rd t vs → CKs ks vs) : ∀ (fs : List Field) (at_ sz : Nat) (ks : List CK) (vs : List AV),
    cks.cksF P ok fs at_ sz = some ks → RdF rd fs vs → CKs ks vs
  | [], at_, sz, ks, vs, h, hr => by
    simp only [cks.cksF] at h
    split at h
    · injection h with h; subst h
      exact hr
    · cases h
  | f :: r, at_, sz, ks, vs, h, hr => by
    simp only [cks.cksF] at h
    split at h
    · split at h
      · rename_i ks1 hk
        split at h
        · obtain ⟨ks2, h2, rfl⟩ := Option.map_eq_some_iff.1 h
          obtain ⟨a, b, rfl, h3, h4⟩ := hr
          exact (IH _ _ _ hk h3).append (rd_cksF IH r _ _ _ _ h2 h4)
        · cases h
      · cases h
    · cases h
theorem rd_cks : ∀ (d : Nat) (t : TypeId) (ks : List CK) (vs : List AV), cks P d t = some ks → RdT P s d t vs → CKs ks vs
  | 0, t, ks, vs, h, _ => by simp [cks] at h
  | d + 1, t, ks, vs, h, hr => by
    simp only [cks] at h
    split at h
    · rename_i hu
      injection h with h; subst h
      simp only [RdT, hu] at hr
      obtain ⟨x, rfl⟩ := hr
      exact ⟨_, _, rfl, ⟨x, rfl⟩, rfl⟩
    · rename_i k hu
      injection h with h; subst h
      simp only [RdT, hu] at hr
      obtain ⟨x, rfl, hw⟩ := hr
      exact ⟨_, _, rfl, ⟨x, rfl, hw⟩, rfl⟩
    · rename_i hu
      injection h with h; subst h
      simp only [RdT, hu] at hr
      obtain ⟨x, rfl⟩ := hr
      exact ⟨_, _, rfl, ⟨x, rfl⟩, rfl⟩
    · rename_i fs hu
      simp only [RdT, hu] at hr
      exact rd_cksF (fun t ks vs h1 h2 => rd_cks d t ks vs h1 h2) _ _ _ _ _ h hr
    · cases h
def ndKs : List CK := [.i .i64, .i .i64, .i .i64, .i .i64, .i .i64, .i .i32]
theorem nd_of_ks {r : List AV} (h : CKs ndKs r) : ∃ x : Nd, r = Nd.av x := by
  simp only [ndKs, CKs] at h
  obtain ⟨_, _, rfl, ⟨a, rfl, _⟩, _, _, rfl, ⟨b, rfl, _⟩, _, _, rfl, ⟨c, rfl, _⟩, _, _, rfl, ⟨d, rfl, _⟩, _, _, rfl, ⟨e, rfl, _⟩, _, _, rfl, ⟨x, rfl, _⟩, rfl⟩ := h
  exact ⟨⟨⟨a, b⟩, ⟨c, d⟩, e, x⟩, rfl⟩
theorem nds_of_rows : ∀ {rows : List (List AV)}, (∀ r ∈ rows, CKs ndKs r) → ∃ l : List Nd, rows.flatten = ndC.cells l ∧ l.length = rows.length
  | [], _ => ⟨[], rfl, rfl⟩
  | r :: rows, h => by
    obtain ⟨x, rfl⟩ := nd_of_ks (h r (by simp))
    obtain ⟨l, h1, h2⟩ := nds_of_rows (rows := rows) fun r' hr' => h r' (by simp [hr'])
    exact ⟨x :: l, by rw [List.flatten_cons, h1, cells_cons]; rfl, by simp [h2]⟩
theorem rd_slice {d : Nat} {t e : TypeId} {vs : List AV} (hu : P.underlying t = some (.slice e)) (h : RdT P s (d + 1) t vs) : vs = [.nils] ∨ ∃ (id n cap : Nat) (rows : List (List AV)), vs = [.sl id 0 n (some cap) (P.cellsOf e)] ∧ n ≤ cap ∧ cap ≤ maxLen ∧ rows.length = cap ∧ s.get id = some (.row rows.flatten false) ∧ ∀ r ∈ rows, RdT P s d e r ∧ r.length = P.cellsOf e := by
  simp only [RdT, hu] at h
  exact h
theorem st_under : Tryz.prog.underlying 23 = some (.slice 57) := by kernel_rfl
theorem nd_cells : Tryz.prog.cellsOf 57 = 6 := by kernel_rfl
theorem nd_cks7 : cks Tryz.prog 7 57 = some ndKs := by kernel_rfl
theorem rd_state {d : Nat} (hd : cks Tryz.prog d 57 = some ndKs) {vs : List AV} (h : RdT Tryz.prog s (d + 1) 23 vs) : ∃ v l, vs = [v] ∧ read ndC s v = some l := by
  rcases rd_slice st_under h with rfl | ⟨id, n, cap, rows, rfl, h1, _, h3, h4, h5⟩
  · exact ⟨.nils, [], rfl, rfl⟩
  · obtain ⟨l, e1, e2⟩ := nds_of_rows fun r hr => rd_cks d _ _ _ hd (h5 r hr).1
    rw [nd_cells]
    refine ⟨_, l.take n, rfl, ?_⟩
    have hall : read ndC s (.sl id 0 cap (some cap) 6) = some l := by
      refine read_of (C := ndC) (by omega) h4 ?_ ?_
      · have : (ndC.cells l).length = l.length * 6 := cells_len ndC l
        rw [e1, this]
        show 0 + cap * 6 ≤ _
        omega
      · have : (ndC.cells l).length = l.length * 6 := cells_len ndC l
        rw [e1, List.drop_zero, show cap * ndC.sz = (ndC.cells l).length by rw [this]; show cap * 6 = _; omega, List.take_length]
    exact read_take hall n h1
theorem rda_state {d : Nat} (hd : cks Tryz.prog d 57 = some ndKs) {v : AV} (h : RdA Tryz.prog s (d + 1) 23 v) : ∃ l, read ndC s v = some l := by
  obtain ⟨vs, h1, rfl⟩ := h
  obtain ⟨v, l, rfl, hr⟩ := rd_state hd h1
  exact ⟨l, by simp [argAV, st_under, hr]⟩
theorem lawC_some {d : Nat} {ts : List TypeId} {xs : List AV} {r : AV} {s' : St} (h : lawC P d ts xs s = some (r, s')) : RdAs P s d ts xs ∧ r = .bool true ∧ s' = s.lowed := by
  unfold lawC at h
  split at h
  · rename_i hr
    injection h with h
    obtain ⟨rfl, rfl⟩ := Prod.mk.inj h
    exact ⟨hr, rfl, rfl⟩
  · cases h
theorem rdas_1 {d : Nat} {t : TypeId} {xs : List AV} (h : RdAs P s d [t] xs) : ∃ v, xs = [v] ∧ RdA P s d t v := by
  obtain ⟨v, r, rfl, h1, h2⟩ := h
  simp only [RdAs] at h2
  subst h2
  exact ⟨v, rfl, h1⟩
theorem rdas_2 {d : Nat} {t1 t2 : TypeId} {xs : List AV} (h : RdAs P s d [t1, t2] xs) : ∃ v w, xs = [v, w] ∧ RdA P s d t1 v ∧ RdA P s d t2 w := by
  obtain ⟨v, r, rfl, h1, h2⟩ := h
  obtain ⟨w, rfl, h3⟩ := rdas_1 h2
  exact ⟨v, w, rfl, h1, h3⟩
end Go.AM
end
/-
  Arguments that are structs, field by field. Own work of this project.
-/
section
namespace Go.AM
open Go

variable {s t u : St}
section
variable {P : Program}
end
end Go.AM
end
/-
  What arguments show: dots, lists of dots, contexts. Own work of this project.
-/
section
set_option maxRecDepth 100000
namespace Go.AM
open Go Go.Proofs

variable {P : Program} {s : St}
end Go.AM
end
/-
  What arguments show: nodes and lists of nodes, with what their runes can be. Own work of this project.
-/
section
set_option maxRecDepth 100000
namespace Go.AM
open Go Go.Proofs

variable {P : Program} {s : St}
end Go.AM
end
/-
  What the statements of layer 10 call; StoreValid, StorePuts, StoreKills. Own work of this project; in part printed by a program of it.
-/
section
set_option maxRecDepth 100000
set_option maxHeartbeats 8000000
namespace Go.AM
open Go Go.Proofs

variable {s t u : St}

theorem bin_eqE (k : IntKind) (a b : Int) : binOp .eql .no (.int k a) (.int k b) = some (.bool (decide (a = b))) := bin_eql .no k a b
end Go.AM
end
/-
  StorePuts. Own work of this project; in part printed by a program of it.
-/
section
set_option maxRecDepth 100000
set_option maxHeartbeats 8000000
namespace Go.AM
open Go Go.Proofs

variable {s t u : St}

end Go.AM
end
/-
  StoreKills, StoreValid. Own work of this project; in part printed by a program of it.
-/
section
set_option maxRecDepth 100000
set_option maxHeartbeats 8000000
namespace Go.AM
open Go Go.Proofs

variable {s t u : St}

end Go.AM
end
/-
  StoreValid. Own work of this project; in part printed by a program of it.
-/
section
set_option maxRecDepth 100000
set_option maxHeartbeats 8000000
namespace Go.AM
open Go Go.Proofs

variable {s t u : St}
end Go.AM
end
/-
  What StoreLooks asks: contexts, times, the parents that are lacking. Own work of this project; in part printed by a program of it.
-/
section
set_option maxRecDepth 100000
set_option maxHeartbeats 8000000
namespace Go.AM
open Go Go.Proofs

variable {s t u : St}

def deadL (l : List Nd) : List Nd := l.filter fun n => decide (n.x = 0)
theorem dots_valid {l m : List Nd} (h : storeL l = true) (k : ∀ x ∈ m, x ∈ l) : (m.map Nd.d).all Dot.valid = true := by
  rw [List.all_map, List.all_eq_true]
  intro x hx
  have := store_mem h (k x hx)
  simp only [Nd.valid, Bool.and_eq_true] at this
  exact this.1.1.1.1.1
noncomputable def R_SCtx : Con := runFn (tb [(62, conL ndC fValid), (69, conF dotC (pL ndC gDots)), (68, R_COf)]) a48
theorem s_SCtx : SoundAt Tryz.prog 48 R_SCtx := run_sound (tb_sound (l := [(62, conL ndC fValid), (69, conF dotC (pL ndC gDots)), (68, R_COf)]) (by simpa using ⟨s_StValid, s_Dots, s_COf⟩)) mixed Tryz.func48 k48 c48
theorem n_SCtx : noNxtC a48.body = true := by kernel_rfl
theorem w_SCtx {s : St} {vl : AV} {l : List Nd} (hr : read ndC s vl = some l) (hl : l.length ≤ 1000) (hst : storeL l = true) : ∀ env : Env, elen env = a48.ntmps → (∀ i x_, [vl][i]? = some x_ → E env i = x_) → awp (tb [(62, conL ndC fValid), (69, conF dotC (pL ndC gDots)), (68, R_COf)]) a48.body (fun x e t => (∀ i, x ≠ .exit i) ∧ ∃ r, aresults e t a48.results = some r ∧ (∃ vv cc, r = .tup [.agg [vv, cc], .int .i64 0] ∧ CR t vv cc (addC ⟨[], []⟩ (l.map Nd.d))) ∧ Keep s t) env s := by
  intro env hlen ha
  have h0 : E env 0 = _ := ha 0 _ rfl
  have hlen : elen env = _ := hlen
  simp only [a48] at hlen
  unfold a48
  try dsimp only [oO, oG]
  have hK1 : Keep s (s.push (.row [.nils, .nils] true)) := (Keep.refl s).push _
  have qv := q_StValid false (hK1.read hr) (by unfold lim; omega)
  rw [hst] at qv
  obtain ⟨u1, t1, hd, hKd, hOd⟩ := fresh_L (D := dotC) (f := gDots) (hK1.read hr) (by unfold lim; omega) rfl (by simp)
  rw [mkR_none] at hd
  obtain ⟨vv, cc, t3, q1, hR, hKc⟩ := q_COf hOd.read (by rw [List.length_map]; omega) (dots_valid hst fun x hx => hx)
  have hKr := hKd.trans hKc
  have hrb : t3.get (s).next = some (.row [.nils, .nils] true) := hKr.blk (St.get_push_new (s) _)
  have hstr := sto_row2 hrb (read_oneD hR.1).2 (read_oneD hR.2).2
  have hlr := St.get_lt hrb
  have hlo : lod (t3.put (s).next (.row [vv, cc] true)) 2 (.ptr (s).next 0) = some (.agg [vv, cc]) := lod_row2 (St.get_put_same hrb)
  skip
  simp (config := {contextual := true, maxDischargeDepth := 12}) only [tb_at, h0, hlen, qv, hd, q1, ap_build, fillP_nil, rc2, hstr, hlo, notV_bool, Bool.not_true, ↓bD, bU, forall_const, bS, implies_true, isNx, eq_self, ↓wp_cond, ↓wp_loop, ↓reduceIte, reduceCtorEq, Nat.reduceEqDiff, Nat.reduceLT, Nat.reduceAdd, Nat.reduceMul, bT, ↓sg_bsl, ↓st_callf, bX, List.cons_append, List.nil_append, ↓st_appf, bY, slcV_nils0N, slcV_sl0N, bslV_0N, bin_shr1, bsl_nd, q_known]
  exact ⟨_, rfl, ⟨vv, cc, rfl, cr_put hrb (by intro k n h; cases h) hR⟩, (hK1.trans hKr).put _ (by simp) hlr⟩
theorem q_SCtx {s : St} {vl : AV} {l : List Nd} (hr : read ndC s vl = some l) (hl : l.length ≤ 1000) (hst : storeL l = true) : ∃ vv cc t, acall R_SCtx false [vl] s = some (.tup [.agg [vv, cc], .int .i64 0], t) ∧ CR t vv cc (addC ⟨[], []⟩ (l.map Nd.d)) ∧ Keep s t := by
  obtain ⟨r, t, h1, ⟨vv, cc, rfl, h2⟩, h3⟩ := run_any n_SCtx (args := [vl]) (Q := fun r t => ∃ vv cc, r = .tup [.agg [vv, cc], .int .i64 0] ∧ CR t vv cc (addC ⟨[], []⟩ (l.map Nd.d))) (by simp [a48]) (fun r t t' hg hn ⟨vv, cc, e, h⟩ => ⟨vv, cc, e, h.mono fun id b hb => by rw [hg]; exact hb⟩) (fun r t hgr hk ⟨vv, cc, e, h⟩ => ⟨vv, cc, e, by
    rw [e] at hgr
    exact h.ground (plain_ground (ground_tup hgr).1) (plain_ground (ground_tup hgr).2)⟩) (w_SCtx (s := lowd s) (read_low' hr) hl hst)
  exact ⟨vv, cc, t, h1, h2, h3⟩
noncomputable def R_SDead : Con := runFn (tb [(62, conL ndC fValid), (71, R_SClN), (70, R_DelN), (69, conF dotC (pL ndC gDots)), (68, R_COf)]) a49
theorem s_SDead : SoundAt Tryz.prog 49 R_SDead := run_sound (tb_sound (l := [(62, conL ndC fValid), (71, R_SClN), (70, R_DelN), (69, conF dotC (pL ndC gDots)), (68, R_COf)]) (by simpa using ⟨s_StValid, s_SClN, s_DelN, s_Dots, s_COf⟩)) mixed Tryz.func49 k49 c49
theorem n_SDead : noNxtC a49.body = true := by kernel_rfl
theorem w_SDead {s : St} {vl : AV} {l : List Nd} (hr : read ndC s vl = some l) (hl : l.length ≤ 1000) (hst : storeL l = true) : ∀ env : Env, elen env = a49.ntmps → (∀ i x_, [vl][i]? = some x_ → E env i = x_) → awp (tb [(62, conL ndC fValid), (71, R_SClN), (70, R_DelN), (69, conF dotC (pL ndC gDots)), (68, R_COf)]) a49.body (fun x e t => (∀ i, x ≠ .exit i) ∧ ∃ r, aresults e t a49.results = some r ∧ (∃ vv cc, r = .tup [.agg [vv, cc], .int .i64 0] ∧ CR t vv cc (addC ⟨[], []⟩ ((deadL l).map Nd.d))) ∧ Keep s t) env s := by
  intro env hlen ha
  have h0 : E env 0 = _ := ha 0 _ rfl
  have hlen : elen env = _ := hlen
  simp only [a49] at hlen
  unfold a49
  try dsimp only [oO, oG]
  have hK1 : Keep s (s.push (.row [.nils, .nils] true)) := (Keep.refl s).push _
  have qv := q_StValid false (hK1.read hr) (by unfold lim; omega)
  rw [hst] at qv
  obtain ⟨w0, tc, qc, ⟨hN0, hcap⟩, hKc0⟩ := q_SClN (hK1.read hr) (by unfold lim; omega)
  obtain ⟨w1, td, qx, hN1, hC1⟩ := q_DelN hN0.nw hcap (by unfold lim; omega) (g := 72) (caps := []) (fun n => !decide (n.x = 0)) (fun t d _ => q_DeadF false d) (fun t d _ => q_DeadF false d)
  have hE : l.filter (fun d => !!decide (d.x = 0)) = deadL l := by simp [deadL]
  rw [hE] at hN1
  have hKd0 := hKc0.chgn hC1 (newX_vids hN0)
  have hdl : (deadL l).length ≤ 1000 := Nat.le_trans (List.length_filter_le _ _) hl
  obtain ⟨u1, t1, hd, hKd, hOd⟩ := fresh_L (D := dotC) (f := gDots) hN1.read (by unfold lim; omega) rfl (by simp)
  rw [mkR_none] at hd
  obtain ⟨vv, cc, t3, q1, hR, hKc⟩ := q_COf hOd.read (by rw [List.length_map]; omega) (dots_valid hst fun x hx => (List.mem_filter.1 hx).1)
  have hKr := (hKd0.trans hKd).trans hKc
  have hrb : t3.get (s).next = some (.row [.nils, .nils] true) := hKr.blk (St.get_push_new (s) _)
  have hstr := sto_row2 hrb (read_oneD hR.1).2 (read_oneD hR.2).2
  have hlr := St.get_lt hrb
  have hlo : lod (t3.put (s).next (.row [vv, cc] true)) 2 (.ptr (s).next 0) = some (.agg [vv, cc]) := lod_row2 (St.get_put_same hrb)
  skip
  simp (config := {contextual := true, maxDischargeDepth := 12}) only [tb_at, h0, hlen, qv, hd, q1, qc, qx, ap_build, fillP_nil, rc2, hstr, hlo, notV_bool, Bool.not_true, ↓bD, bU, forall_const, bS, implies_true, isNx, eq_self, ↓wp_cond, ↓wp_loop, ↓reduceIte, reduceCtorEq, Nat.reduceEqDiff, Nat.reduceLT, Nat.reduceAdd, Nat.reduceMul, bT, ↓sg_bsl, ↓st_callf, bX, List.cons_append, List.nil_append, ↓st_appf, bY, slcV_nils0N, slcV_sl0N, bslV_0N, bin_shr1, bsl_nd, q_known]
  exact ⟨_, rfl, ⟨vv, cc, rfl, cr_put hrb (by intro k n h; cases h) hR⟩, (hK1.trans hKr).put _ (by simp) hlr⟩
theorem q_SDead {s : St} {vl : AV} {l : List Nd} (hr : read ndC s vl = some l) (hl : l.length ≤ 1000) (hst : storeL l = true) : ∃ vv cc t, acall R_SDead false [vl] s = some (.tup [.agg [vv, cc], .int .i64 0], t) ∧ CR t vv cc (addC ⟨[], []⟩ ((deadL l).map Nd.d)) ∧ Keep s t := by
  obtain ⟨r, t, h1, ⟨vv, cc, rfl, h2⟩, h3⟩ := run_any n_SDead (args := [vl]) (Q := fun r t => ∃ vv cc, r = .tup [.agg [vv, cc], .int .i64 0] ∧ CR t vv cc (addC ⟨[], []⟩ ((deadL l).map Nd.d))) (by simp [a49]) (fun r t t' hg hn ⟨vv, cc, e, h⟩ => ⟨vv, cc, e, h.mono fun id b hb => by rw [hg]; exact hb⟩) (fun r t hgr hk ⟨vv, cc, e, h⟩ => ⟨vv, cc, e, by
    rw [e] at hgr
    exact h.ground (plain_ground (ground_tup hgr).1) (plain_ground (ground_tup hgr).2)⟩) (w_SDead (s := lowd s) (read_low' hr) hl hst)
  exact ⟨vv, cc, t, h1, h2, h3⟩
end Go.AM
end
/-
  Plain laws of contexts as the references of layers 14 and 16 make them. Own work of this project.
-/
section
namespace Go.AM
open Go Go.Proofs

/-- A dot is there, whether it is valid or not. -/
def jhas (x : DCx) (d : Dot) : Bool := decide (d.c ≤ vget x.v d.r) || decide (d ∈ x.c)
theorem jhas_chas {x : DCx} {d : Dot} (h : d.valid = true) : jhas x d = chas x d := by
  unfold jhas chas
  rw [h, Bool.true_and]
/-- The reference's way to say that one compact context is within another one. -/
def jwithin (a b : DCx) : Bool := (a.v.all fun d => decide (d.c ≤ vget b.v d.r)) && a.c.all (jhas b)
theorem jwithin_iff {a b : DCx} (ha : isC a = true) (hb : isC b = true) : jwithin a b = true ↔ subC a b := by
  have ca := ((isC_iff a).1 ha).1
  obtain ⟨va, _, wa⟩ := (cvalid_iff a).1 ca
  rw [← rwithin_iff ca ((isC_iff b).1 hb).1]
  unfold jwithin rwithin
  rw [comp_id hb, Bool.and_eq_true, Bool.and_eq_true, List.all_eq_true, List.all_eq_true, List.all_eq_true, List.all_eq_true]
  have hv := ((vvalid_iff a.v).1 va).2
  constructor
  · rintro ⟨q1, q2⟩
    refine ⟨fun d hd => by rw [← jhas_chas (wa d hd)]; exact q2 d hd, fun d hd => ?_⟩
    unfold vhas
    rw [hv d hd, Bool.true_and]
    exact q1 d hd
  · rintro ⟨q1, q2⟩
    refine ⟨fun d hd => ?_, fun d hd => by rw [jhas_chas (wa d hd)]; exact q1 d hd⟩
    have := q2 d hd
    unfold vhas at this
    rw [hv d hd, Bool.true_and] at this
    exact this
/-! ### Vectors by replica -/
/-! ### The context of dots in order -/
/-! ### Two contexts together -/
/-- What a union's vector says. -/
structure UniV (a b : DCx) (f : Nat → Nat) : Prop where
  low : ∀ k : Nat, 1 ≤ k → k ≤ 64 → vget a.v (k : Int) ≤ (f k : Int) ∧ vget b.v (k : Int) ≤ (f k : Int)
  fill : ∀ k j : Nat, 1 ≤ k → k ≤ 64 → 1 ≤ j → j ≤ f k → jhas a ⟨(k : Int), (j : Int)⟩ = true ∨ jhas b ⟨(k : Int), (j : Int)⟩ = true
  stop : ∀ k : Nat, 1 ≤ k → k ≤ 64 → jhas a ⟨(k : Int), ((f k + 1 : Nat) : Int)⟩ = false ∧ jhas b ⟨(k : Int), ((f k + 1 : Nat) : Int)⟩ = false
  high : ∀ k, f k ≤ 4294967295
/-! ### Digests -/
structure DDg where
  all : DCx
  gone : DCx
  deriving DecidableEq
def dgV (d : DDg) : Bool := isC d.all && (isC d.gone && jwithin d.gone d.all)
def lackD (d : DDg) (n : Nd) : Bool := !jhas d.all n.d || (decide (n.x = 0) && !jhas d.gone n.d)
def diffD (s : List Nd) (d : DDg) : List Nd := s.filter (lackD d)
end Go.AM
end
/-
  Contexts as the reference of layer 14 looks at them. Own work of this project; in part printed by a program of it.
-/
section
set_option maxRecDepth 100000
set_option maxHeartbeats 8000000
namespace Go.AM
open Go Go.Proofs

variable {s t u : St}
noncomputable def R_JSameD : Con := runFn (tb []) a67
theorem s_JSameD : SoundAt Tryz.prog 67 R_JSameD := run_sound (tb_sound (l := []) (by simp)) mixed Tryz.func67 k67 c67
theorem n_JSameD : noNxtC a67.body = true := by kernel_rfl
theorem w_JSameD {s : St} {v : AV} {l : List Dot} (hr : read dotC s v = some l) (hl : l.length ≤ lim) {w : AV} {m : List Dot} (hrw : read dotC s w = some m) (hm : m.length ≤ lim) : ∀ env : Env, elen env = a67.ntmps → (∀ i x_, [v, w][i]? = some x_ → E env i = x_) → awp (tb []) a67.body (fun x e t => (∀ i, x ≠ .exit i) ∧ aresults e t a67.results = some (.bool (decide (l = m))) ∧ Keep s t) env s := by
  intro env hlen ha
  have h0 : E env 0 = _ := ha 0 _ rfl
  have h1 : E env 1 = _ := ha 1 _ rfl
  have hlen : elen env = _ := hlen
  simp only [a67] at hlen
  unfold a67
  try dsimp only [oO, oG]
  have hL := lenV_read hr
  have hM := lenV_read hrw
  by_cases hlm : l.length = m.length
  · have hz : ((l.length : Int) = (m.length : Int)) = True := eq_true (by omega)
    simp (config := {contextual := true, maxDischargeDepth := 12}) only [tb_at, h0, h1, hlen, hL, hM, hz, ↓bD, bU, forall_const, bS, implies_true, isNx, eq_self, ↓wp_cond, ↓wp_loop, ↓reduceIte, reduceCtorEq, Nat.reduceEqDiff, Nat.reduceLT, Nat.reduceAdd, Nat.reduceMul, bT, ↓sg_bsl, ↓st_callf, bX, ap_mkfn, ae_callvV, callvV_fn, List.cons_append, List.nil_append, boxV_i]
    obtain ⟨I, hI⟩ : ∃ I : Nat → Env → St → Prop, ∀ n e t, I n e t = (t = s ∧ ∃ i : Nat, n + i = l.length ∧ elen e = 26 ∧ E e 0 = v ∧ E e 1 = w ∧ E e 5 = .int .i64 (i : Int) ∧ ∀ k y, k < i → l[k]? = some y → m[k]? = some y) := ⟨fun n e t => (t = s ∧ ∃ i : Nat, n + i = l.length ∧ elen e = 26 ∧ E e 0 = v ∧ E e 1 = w ∧ E e 5 = .int .i64 (i : Int) ∧ ∀ k y, k < i → l[k]? = some y → m[k]? = some y), fun _ _ _ => rfl⟩
    refine lwp_inv I (n := l.length) ?_ ?_
    · rw [hI]
      exact ⟨rfl, 0, by omega, (by simp only [bE, Nat.reduceEqDiff, bN, Nat.reduceLT, hlen]; try rfl), (by simp only [bE, Nat.reduceEqDiff, bN, Nat.reduceLT, hlen, h0]; try rfl), (by simp only [bE, Nat.reduceEqDiff, bN, Nat.reduceLT, hlen, h1]; try rfl), (by simp only [bE, Nat.reduceEqDiff, bN, Nat.reduceLT, hlen]; try rfl), fun k y hk => by omega⟩
    intro n e t hi
    rw [hI] at hi
    obtain ⟨hK, i, hni, he, e0, e1, e5, hpre⟩ := hi
    subst hK
    by_cases hlt : i < l.length
    · obtain ⟨x, hx⟩ := getsome hlt
      obtain ⟨y, hy⟩ := getsome (l := m) (i := i) (by omega)
      have hw2 := wrap_add1 (n := i) (by unfold lim at hl; omega)
      obtain ⟨a1, a2, a3, a4⟩ := dot_lods hr (.refl _) hx
      have i1 := dot_idx hr hx .i64
      obtain ⟨b1, b2, b3, b4⟩ := dot_lods hrw (.refl _) hy
      have i2 := dot_idx hrw hy .i64
      by_cases hp : x = y
      · have hz := eq_true hp
        simp (config := {contextual := true, maxDischargeDepth := 12}) only [tb_at, he, e0, e1, e5, hL, hM, hlt, hw2, a1, i1, b1, i2, hz, reserve0, ↓bD, bU, forall_const, bS, implies_true, isNx, eq_self, ↓wp_cond, ↓wp_loop, ↓reduceIte, reduceCtorEq, Nat.reduceEqDiff, Nat.reduceLT, Nat.reduceAdd, Nat.reduceMul, bT, ↓sg_bsl, ↓st_callf, bX, ap_mkfn, ae_callvV, callvV_fn, List.cons_append, List.nil_append, boxV_i]
        refine ⟨n - 1, by omega, ?_⟩
        rw [hI]
        exact ⟨rfl, i + 1, by omega, (by simp only [bE, Nat.reduceEqDiff, bN, Nat.reduceLT, he, e0, e1, e5]; try rfl), (by simp only [bE, Nat.reduceEqDiff, bN, Nat.reduceLT, he, e0, e1, e5]; try rfl), (by simp only [bE, Nat.reduceEqDiff, bN, Nat.reduceLT, he, e0, e1, e5]; try rfl), (by simp only [bE, Nat.reduceEqDiff, bN, Nat.reduceLT, he, e0, e1, e5]; try rfl), pre_next (P := fun k y => m[k]? = some y) hx hpre (by rw [hp]; exact hy)⟩
      · have hz := eq_false hp
        have hS : decide (l = m) = false := decide_eq_false (ne_at hx hy hp)
        simp (config := {contextual := true, maxDischargeDepth := 12}) only [tb_at, he, e0, e1, e5, hL, hM, hlt, hw2, a1, i1, b1, i2, hz, hS, reserve0, ↓bD, bU, forall_const, bS, implies_true, isNx, eq_self, ↓wp_cond, ↓wp_loop, ↓reduceIte, reduceCtorEq, Nat.reduceEqDiff, Nat.reduceLT, Nat.reduceAdd, Nat.reduceMul, bT, ↓sg_bsl, ↓st_callf, bX, ap_mkfn, ae_callvV, callvV_fn, List.cons_append, List.nil_append, boxV_i]
        all_goals first | exact .refl _ | skip
    · obtain rfl : i = l.length := by omega
      have hS : decide (l = m) = true := decide_eq_true (eq_of_at hlm fun k x y hx hy => by
        have := hpre k x (getlt hx) hx
        rw [hy] at this
        exact (Option.some.inj this).symm)
      simp (config := {contextual := true, maxDischargeDepth := 12}) only [tb_at, he, e0, e1, e5, hL, hM, hlt, hS, ↓bD, bU, forall_const, bS, implies_true, isNx, eq_self, ↓wp_cond, ↓wp_loop, ↓reduceIte, reduceCtorEq, Nat.reduceEqDiff, Nat.reduceLT, Nat.reduceAdd, Nat.reduceMul, bT, ↓sg_bsl, ↓st_callf, bX, ap_mkfn, ae_callvV, callvV_fn, List.cons_append, List.nil_append, boxV_i]
      all_goals first | exact .refl _ | skip
  · have hz : ((l.length : Int) = (m.length : Int)) = False := eq_false (by omega)
    have hS : decide (l = m) = false := decide_eq_false fun h => hlm (by rw [h])
    simp (config := {contextual := true, maxDischargeDepth := 12}) only [tb_at, h0, h1, hlen, hL, hM, hz, hS, ↓bD, bU, forall_const, bS, implies_true, isNx, eq_self, ↓wp_cond, ↓wp_loop, ↓reduceIte, reduceCtorEq, Nat.reduceEqDiff, Nat.reduceLT, Nat.reduceAdd, Nat.reduceMul, bT, ↓sg_bsl, ↓st_callf, bX, ap_mkfn, ae_callvV, callvV_fn, List.cons_append, List.nil_append, boxV_i]
    all_goals first | exact .refl _ | skip
theorem q_JSameD (cl : Bool) {s : St} {v : AV} {l : List Dot} (hr : read dotC s v = some l) (hl : l.length ≤ lim) {w : AV} {m : List Dot} (hrw : read dotC s w = some m) (hm : m.length ≤ lim) : acall R_JSameD cl [v, w] s = some (.bool (decide (l = m)), s) := run_same n_JSameD (by simp [a67]) rfl (w_JSameD (s := lowd s) (read_low' hr) hl (read_low' hrw) hm)
noncomputable def R_JSameC : Con := runFn (tb [(67, R_JSameD)]) a47
theorem s_JSameC : SoundAt Tryz.prog 47 R_JSameC := run_sound (tb_sound (l := [(67, R_JSameD)]) (by simpa using s_JSameD)) mixed Tryz.func47 k47 c47
theorem n_JSameC : noNxtC a47.body = true := by kernel_rfl
theorem w_JSameC {s : St} {v w : AV} {X : DCx} (hv : read dotC s v = some X.v) (hw : read dotC s w = some X.c) (hlv : X.v.length ≤ lim) (hlw : X.c.length ≤ lim) {v' w' : AV} {Y : DCx} (kv : read dotC s v' = some Y.v) (kw : read dotC s w' = some Y.c) (klv : Y.v.length ≤ lim) (klw : Y.c.length ≤ lim) : ∀ env : Env, elen env = a47.ntmps → (∀ i x_, [.agg [v, w], .agg [v', w']][i]? = some x_ → E env i = x_) → awp (tb [(67, R_JSameD)]) a47.body (fun x e t => (∀ i, x ≠ .exit i) ∧ aresults e t a47.results = some (.bool (decide (X = Y))) ∧ Keep s t) env s := by
  intro env hlen ha
  have h0 : E env 0 = _ := ha 0 _ rfl
  have h1 : E env 1 = _ := ha 1 _ rfl
  have hlen : elen env = _ := hlen
  simp only [a47] at hlen
  unfold a47
  try dsimp only [oO, oG]
  have hbx := boxV_2 (read_oneD hv).2 (read_oneD hw).2
  have hby := boxV_2 (read_oneD kv).2 (read_oneD kw).2
  have hK2 : Keep s ((s.push (.row [v, w] true)).push (.row [v', w'] true)) := ((Keep.refl s).push _).push _
  obtain ⟨c1, c2, c3, c4⟩ := box_ctx s v w ((Keep.refl _).push (.row [v', w'] true))
  obtain ⟨d1, d2, d3, d4⟩ := box_ctx (s.push (.row [v, w] true)) v' w' (.refl _)
  have q1 := q_JSameD false (hK2.read hv) hlv (hK2.read kv) klv
  have q2 := q_JSameD false (hK2.read hw) hlw (hK2.read kw) klw
  have hS : (decide (X.v = Y.v) && decide (X.c = Y.c)) = decide (X = Y) := by
    obtain ⟨xv, xc⟩ := X
    obtain ⟨yv, yc⟩ := Y
    rw [Bool.eq_iff_iff]
    simp
  simp (config := {contextual := true, maxDischargeDepth := 12}) only [tb_at, h0, h1, hlen, hbx, hby, c1, c2, c3, c4, d1, d2, d3, d4, q1, q2, hS, ↓bD, bU, forall_const, bS, implies_true, isNx, eq_self, ↓wp_cond, ↓wp_loop, ↓reduceIte, reduceCtorEq, Nat.reduceEqDiff, Nat.reduceLT, Nat.reduceAdd, Nat.reduceMul, bT, ↓sg_bsl, ↓st_callf, bX, ap_mkfn, ae_callvV, callvV_fn, List.cons_append, List.nil_append, boxV_i, boxV_dot, sto_dot]
  all_goals exact hK2
theorem q_JSameC (cl : Bool) {s : St} {v w : AV} {X : DCx} (hv : read dotC s v = some X.v) (hw : read dotC s w = some X.c) (hlv : X.v.length ≤ lim) (hlw : X.c.length ≤ lim) {v' w' : AV} {Y : DCx} (kv : read dotC s v' = some Y.v) (kw : read dotC s w' = some Y.c) (klv : Y.v.length ≤ lim) (klw : Y.c.length ≤ lim) : acall R_JSameC cl [.agg [v, w], .agg [v', w']] s = some (.bool (decide (X = Y)), s) := run_same n_JSameC (by simp [a47]) rfl (w_JSameC (s := lowd s) (read_low' hv) (read_low' hw) hlv hlw (read_low' kv) (read_low' kw) klv klw)
end Go.AM
end
/-
  Contexts as the reference of layer 14 makes them. Own work of this project; in part printed by a program of it.
-/
section
set_option maxRecDepth 100000
set_option maxHeartbeats 8000000
namespace Go.AM
open Go Go.Proofs

variable {s t u : St}

/-- A context that is being made: the result's box, its own box, its two lists. -/
structure CB (s t : St) (rb b : Nat) (vv cc : AV) (V C : List Dot) : Prop where
  keep : Keep s t
  rbox : t.get rb = some (.row [.nils, .nils] true)
  obox : t.get b = some (.row [vv, cc] true)
  vec : Own dotC s t vv V
  cld : Own dotC s t cc C
  vdis : ∀ id ∈ vids vv, id ≠ b ∧ id ≠ rb ∧ id ∉ vids cc
  cdis : ∀ id ∈ vids cc, id ≠ b ∧ id ≠ rb
  rge : s.next ≤ rb
  bge : s.next ≤ b
  ne : rb ≠ b
theorem CB.start (s : St) : CB s ((s.push (.row [.nils, .nils] true)).push (.row [.nils, .nils] true)) s.next (s.next + 1) .nils .nils [] [] :=
  ⟨((Keep.refl s).push _).push _, get_push_some _ (St.get_push_new s _), St.get_push_new (s.push (.row [.nils, .nils] true)) _, .nil _ _ _, .nil _ _ _, by simp [vids], by simp [vids], Nat.le_refl _, by omega, by omega⟩
theorem CB.low {rb b : Nat} {vv cc : AV} {V C : List Dot} (h : CB s t rb b vv cc V C) (x : List AV) : CB s (t.lowed.push (.row x true)) rb b vv cc V C :=
  ⟨h.keep.lowed.push _, get_push_some _ h.rbox, get_push_some _ h.obox, h.vec.mono fun _ _ k => get_push_some _ k, h.cld.mono fun _ _ k => get_push_some _ k, h.vdis, h.cdis, h.rge, h.bge, h.ne⟩
theorem CB.lowed {rb b : Nat} {vv cc : AV} {V C : List Dot} (h : CB s t rb b vv cc V C) : CB s t.lowed rb b vv cc V C :=
  ⟨h.keep.lowed, h.rbox, h.obox, h.vec.mono fun _ _ k => k, h.cld.mono fun _ _ k => k, h.vdis, h.cdis, h.rge, h.bge, h.ne⟩
theorem CB.done {rb b : Nat} {vv cc : AV} {V C : List Dot} (h : CB s t rb b vv cc V C) : lod t 2 (.ptr b 0) = some (.agg [vv, cc]) ∧ sto t 2 (.ptr rb 0) (.agg [vv, cc]) = some (.und, t.put rb (.row [vv, cc] true)) ∧ ltN rb t ∧ lod (t.put rb (.row [vv, cc] true)) 2 (.ptr rb 0) = some (.agg [vv, cc]) ∧ CR (t.put rb (.row [vv, cc] true)) vv cc ⟨V, C⟩ ∧ Keep s (t.put rb (.row [vv, cc] true)) := by
  have hlr := St.get_lt h.rbox
  have hC : Chg [rb] t (t.put rb (.row [vv, cc] true)) := (Chg.refl _ _).put _ (.inl (by simp)) hlr
  refine ⟨lod_row2 h.obox, sto_row2 h.rbox (read_oneD h.vec.read).2 (read_oneD h.cld.read).2, hlr, lod_row2 (St.get_put_same h.rbox), ⟨(h.vec.keep hC fun id hid => ?_).read, (h.cld.keep hC fun id hid => ?_).read⟩, h.keep.put _ h.rge hlr⟩
  · have := (h.vdis id hid).2.1
    simpa using this
  · have := (h.cdis id hid).2
    simpa using this
end Go.AM
end
/-
  Plain laws of digests: the theorem of stage 16. Own work of this project.
-/
section
namespace Go.AM
open Go Go.Proofs

/-- The digest of a store. -/
def deadN (l : List Nd) : List Nd := l.filter fun n => decide (n.x = 0)
def dgOf (l : List Nd) : DDg := ⟨addC ⟨[], []⟩ (l.map Nd.d), addC ⟨[], []⟩ ((deadN l).map Nd.d)⟩
def dgMerge (a b : DDg) : DDg := ⟨uniC a.all b.all, uniC a.gone b.gone⟩
def dgWithin (a b : DDg) : Bool := jwithin a.all b.all && jwithin a.gone b.gone
theorem dots_ok {l m : List Nd} (h : storeL l = true) (k : ∀ x ∈ m, x ∈ l) : (m.map Nd.d).all Dot.valid = true := by
  rw [List.all_map, List.all_eq_true]
  intro x hx
  have := store_mem h (k x hx)
  simp only [Nd.valid, Bool.and_eq_true] at this
  exact this.1.1.1.1.1
theorem cv0 : cvalid ⟨[], []⟩ = true := rfl
theorem chas_nil (d : Dot) : chas ⟨[], []⟩ d = false := by
  unfold chas
  cases hd : d.valid
  · rfl
  · have := (valid_iff d).1 hd
    have h1 : ¬ d.c ≤ vget (⟨[], []⟩ : DCx).v d.r := by show ¬ d.c ≤ 0; omega
    rw [decide_eq_false h1]
    simp
theorem has_dots {l m : List Nd} (h : storeL l = true) (k : ∀ x ∈ m, x ∈ l) (d : Dot) : chas (addC ⟨[], []⟩ (m.map Nd.d)) d = true ↔ ∃ x ∈ m, x.d = d := by
  rw [add_has cv0 (dots_ok h k), chas_nil, Bool.false_or, Bool.and_eq_true, decide_eq_true_eq, List.mem_map]
  constructor
  · rintro ⟨_, q⟩; exact q
  · rintro ⟨x, hx, rfl⟩
    exact ⟨chas_all (dots_ok h k) _ (List.mem_map_of_mem hx), x, hx, rfl⟩
theorem dead_sub (l : List Nd) : ∀ x ∈ deadN l, x ∈ l := fun x hx => (List.mem_filter.1 hx).1
theorem dgOf_all {l : List Nd} (h : storeL l = true) (d : Dot) : chas (dgOf l).all d = true ↔ ∃ x ∈ l, x.d = d := has_dots h (fun _ q => q) d
theorem dgOf_gone {l : List Nd} (h : storeL l = true) (d : Dot) : chas (dgOf l).gone d = true ↔ ∃ x ∈ l, x.d = d ∧ x.x = 0 := by
  rw [show (dgOf l).gone = addC ⟨[], []⟩ ((deadN l).map Nd.d) from rfl, has_dots h (dead_sub l)]
  constructor
  · rintro ⟨x, hx, e⟩
    obtain ⟨h1, h2⟩ := List.mem_filter.1 hx
    exact ⟨x, h1, e, by simpa using h2⟩
  · rintro ⟨x, hx, e, e2⟩
    exact ⟨x, List.mem_filter.2 ⟨hx, by simpa using e2⟩, e⟩
theorem dgOf_C {l : List Nd} (h : storeL l = true) : isC (dgOf l).all = true ∧ isC (dgOf l).gone = true := ⟨add_isC cv0 (dots_ok h fun _ q => q), add_isC cv0 (dots_ok h (dead_sub l))⟩
theorem isC_cv {x : DCx} (h : isC x = true) : cvalid x = true := ((isC_iff x).1 h).1
theorem dgOf_valid {l : List Nd} (h : storeL l = true) : dgV (dgOf l) = true := by
  obtain ⟨h1, h2⟩ := dgOf_C h
  unfold dgV
  rw [h1, h2, Bool.true_and, Bool.true_and, jwithin_iff h2 h1]
  intro d hd
  obtain ⟨x, hx, e, _⟩ := (dgOf_gone h d).1 hd
  exact (dgOf_all h d).2 ⟨x, hx, e⟩
theorem lack_of {l : List Nd} (hl : storeL l = true) {n : Nd} (hn : n.d.valid = true) : lackD (dgOf l) n = true ↔ (∀ x ∈ l, x.d ≠ n.d) ∨ (n.x = 0 ∧ ∀ x ∈ l, x.d = n.d → x.x ≠ 0) := by
  unfold lackD
  rw [jhas_chas hn, jhas_chas hn, Bool.or_eq_true, Bool.and_eq_true, Bool.not_eq_true', Bool.not_eq_true', decide_eq_true_eq]
  have ha : chas (dgOf l).all n.d = false ↔ ∀ x ∈ l, x.d ≠ n.d := by
    rw [← Bool.not_eq_true, dgOf_all hl]
    exact ⟨fun q x hx e => q ⟨x, hx, e⟩, fun q ⟨x, hx, e⟩ => q x hx e⟩
  have hg : chas (dgOf l).gone n.d = false ↔ ∀ x ∈ l, x.d = n.d → x.x ≠ 0 := by
    rw [← Bool.not_eq_true, dgOf_gone hl]
    exact ⟨fun q x hx e e2 => q ⟨x, hx, e, e2⟩, fun q ⟨x, hx, e, e2⟩ => q x hx e e2⟩
  rw [ha, hg]
theorem nd_dval {n : Nd} (h : n.valid = true) : n.d.valid = true := by
  simp only [Nd.valid, Bool.and_eq_true] at h
  exact h.1.1.1.1.1
theorem diff_sub (s : List Nd) (d : DDg) : ∀ x ∈ diffD s d, x ∈ s := fun x hx => (List.mem_filter.1 hx).1
theorem diff_store {s : List Nd} (h : storeL s = true) (d : DDg) : storeL (diffD s d) = true := by
  simp only [storeL, Bool.and_eq_true]
  refine ⟨List.all_eq_true.2 fun x hx => store_mem h (diff_sub s d x hx), pairwise_chain ((store_sorted h).filter _)⟩
/-- Against its own digest nothing is left. -/
theorem diff_self {a : List Nd} (h : storeL a = true) : diffD a (dgOf a) = [] := by
  unfold diffD
  rw [List.filter_eq_nil_iff]
  intro x hx hl
  rcases (lack_of h (nd_dval (store_mem h hx))).1 hl with q | ⟨q1, q2⟩
  · exact q x hx rfl
  · exact q2 x hx rfl q1
structure DHolds (a b : List Nd) : Prop where
  sj : storeL (refJ a b) = true
  sd : storeL (diffD a (dgOf b)) = true
  j1 : joinsP a b = (refJ a b, 0)
  j2 : joinsP b (diffD a (dgOf b)) = (refJ a b, 0)
  w1 : withinP (diffD a (dgOf b)) a = (true, 0)
  m : dgOf (refJ a b) = dgMerge (dgOf a) (dgOf b)
  w2 : withinP a b = (dgWithin (dgOf a) (dgOf b), 0)
theorem dg_holds {a b : List Nd} (sa : storeL a = true) (sb : storeL b = true) (hag : agreeL a b = true) : DHolds a b := by
  have ha := store_sorted sa
  have hb := store_sorted sb
  have hN := (nc_agree ha hb).1 hag
  have hR := res_join ha hb hag
  have hsj : storeL (refJ a b) = true := store_of_res hR fun x hx => hx.elim (store_mem sa) (store_mem sb)
  have sd := diff_store sa (dgOf b)
  have hd := store_sorted sd
  have hsub := diff_sub a (dgOf b)
  -- what the difference lacks, the second one has
  have hlack : ∀ x ∈ a, x ∉ diffD a (dgOf b) → ∃ y ∈ b, y.d = x.d ∧ (x.x = 0 → y.x = 0) := fun x hx hn => by
    have hnl : ¬ lackD (dgOf b) x = true := fun q => hn (List.mem_filter.2 ⟨hx, q⟩)
    rw [lack_of sb (nd_dval (store_mem sa hx))] at hnl
    simp only [not_or, Classical.not_forall, not_and, ne_eq, Classical.not_not] at hnl
    obtain ⟨⟨y, hy, e⟩, h2⟩ := hnl
    refine ⟨y, hy, e, fun h0 => ?_⟩
    obtain ⟨z, hz, ez, hz0⟩ := h2 h0
    rw [sorted_dot hb hy hz (e.trans ez.symm)]
    exact hz0
  have hN2 : NC (M2 b (diffD a (dgOf b))) := hN.sub fun x hx => hx.elim .inr fun q => .inl (hsub x q)
  have hag2 := (nc_agree hb hd).2 hN2
  have hR2 : Res (M2 b (diffD a (dgOf b))) (refJ a b) := by
    refine ⟨hR.sorted, fun y hy => ?_, fun y hy z hz e z0 => hR.dead y hy z (hz.elim .inr fun q => .inl (hsub z q)) e z0, fun z hz => hR.cover z (hz.elim .inr fun q => .inl (hsub z q))⟩
    rcases hR.sub y hy with q | q
    · by_cases hin : y ∈ diffD a (dgOf b)
      · exact .inr hin
      · obtain ⟨w, hw, e, h0⟩ := hlack y q hin
        have hc := hN y w (.inl q) (.inr hw) e.symm
        have : y = w := nd_eq hc ⟨h0, fun w0 => hR.dead y hy w (.inr hw) e w0⟩
        rw [this]
        exact .inl hw
    · exact .inl q
  obtain ⟨_, hj2⟩ := refJ_uniq hN2 hb hd hR2 fun x => Iff.rfl
  have hRa : Res (M2 a a) a := res_self ha
  have hNa : NC (· ∈ a) := hN.sub fun x hx => .inl hx
  have hRa' : Res (· ∈ a) a := hRa.congr fun x => ⟨fun q => q.elim id id, .inl⟩
  obtain ⟨a1, a2, _, _⟩ := refJ_in hNa hd hRa' hsub
  obtain ⟨ca1, ca2⟩ := dgOf_C sa
  obtain ⟨cb1, cb2⟩ := dgOf_C sb
  obtain ⟨cj1, cj2⟩ := dgOf_C hsj
  have hm : dgOf (refJ a b) = dgMerge (dgOf a) (dgOf b) := by
    have e1 : (dgOf (refJ a b)).all = uniC (dgOf a).all (dgOf b).all := by
      refine isC_ext cj1 (uni_isC (isC_cv ca1) (isC_cv cb1)) fun d => ?_
      rw [uni_has (isC_cv ca1) (isC_cv cb1), Bool.eq_iff_iff, Bool.or_eq_true, dgOf_all hsj, dgOf_all sa, dgOf_all sb]
      constructor
      · rintro ⟨x, hx, e⟩
        rcases hR.sub x hx with q | q
        · exact .inl ⟨x, q, e⟩
        · exact .inr ⟨x, q, e⟩
      · rintro (⟨x, hx, e⟩ | ⟨x, hx, e⟩)
        · obtain ⟨y, h1, h2⟩ := hR.cover x (.inl hx)
          exact ⟨y, h1, h2.trans e⟩
        · obtain ⟨y, h1, h2⟩ := hR.cover x (.inr hx)
          exact ⟨y, h1, h2.trans e⟩
    have e2 : (dgOf (refJ a b)).gone = uniC (dgOf a).gone (dgOf b).gone := by
      refine isC_ext cj2 (uni_isC (isC_cv ca2) (isC_cv cb2)) fun d => ?_
      rw [uni_has (isC_cv ca2) (isC_cv cb2), Bool.eq_iff_iff, Bool.or_eq_true, dgOf_gone hsj, dgOf_gone sa, dgOf_gone sb]
      constructor
      · rintro ⟨x, hx, e, e0⟩
        rcases hR.sub x hx with q | q
        · exact .inl ⟨x, q, e, e0⟩
        · exact .inr ⟨x, q, e, e0⟩
      · rintro (⟨x, hx, e, e0⟩ | ⟨x, hx, e, e0⟩)
        · obtain ⟨y, h1, h2⟩ := hR.cover x (.inl hx)
          exact ⟨y, h1, h2.trans e, hR.dead y h1 x (.inl hx) h2.symm e0⟩
        · obtain ⟨y, h1, h2⟩ := hR.cover x (.inr hx)
          exact ⟨y, h1, h2.trans e, hR.dead y h1 x (.inr hx) h2.symm e0⟩
    unfold dgMerge
    rw [← e1, ← e2]
  refine ⟨hsj, sd, joinsP_ok sa sb hag rfl, joinsP_ok sb sd hag2 hj2, ?_, hm, ?_⟩
  · rw [withinP_ok sd sa a1, a2]; simp
  · rw [withinP_ok sa sb hag]
    congr 1
    rw [Bool.eq_iff_iff, decide_eq_true_eq]
    unfold dgWithin
    rw [Bool.and_eq_true, jwithin_iff ca1 cb1, jwithin_iff ca2 cb2]
    constructor
    · intro h
      have hRb : Res (M2 a b) b := by rw [← h]; rw [h] at hR ⊢; exact hR
      constructor
      · intro d hd
        obtain ⟨x, hx, e⟩ := (dgOf_all sa d).1 hd
        obtain ⟨y, h1, h2⟩ := hRb.cover x (.inl hx)
        exact (dgOf_all sb d).2 ⟨y, h1, h2.trans e⟩
      · intro d hd
        obtain ⟨x, hx, e, e0⟩ := (dgOf_gone sa d).1 hd
        obtain ⟨y, h1, h2⟩ := hRb.cover x (.inl hx)
        exact (dgOf_gone sb d).2 ⟨y, h1, h2.trans e, hRb.dead y h1 x (.inl hx) h2.symm e0⟩
    · rintro ⟨h1, h2⟩
      have hRb : Res (M2 a b) b := by
        refine ⟨hb, fun y hy => .inr hy, fun y hy z hz e z0 => ?_, fun z hz => ?_⟩
        · rcases hz with hz | hz
          · obtain ⟨w, hw, e1, e0⟩ := (dgOf_gone sb z.d).1 (h2 z.d ((dgOf_gone sa z.d).2 ⟨z, hz, rfl, z0⟩))
            rw [sorted_dot hb hy hw (e.symm.trans e1.symm)]
            exact e0
          · rw [sorted_dot hb hy hz e.symm]
            exact z0
        · rcases hz with hz | hz
          · exact (dgOf_all sb z.d).1 (h1 z.d ((dgOf_all sa z.d).2 ⟨z, hz, rfl⟩))
          · exact ⟨z, hz, rfl⟩
      exact (refJ_uniq hN ha hb hRb fun x => Iff.rfl).2
end Go.AM
end
/-
  Digests as the reference of layer 16 looks at them. Own work of this project; in part printed by a program of it.
-/
section
set_option maxRecDepth 100000
set_option maxHeartbeats 8000000
namespace Go.AM
open Go Go.Proofs

variable {s t u : St}

theorem boxV_4 {a b c d : AV} (ha : a.one = true) (hb : b.one = true) (hc : c.one = true) (hd : d.one = true) : boxV 4 (.agg [a, b, c, d]) = some (fun id => .ptr id 0, .row [a, b, c, d] true) := by
  simp [boxV, AV.cells, ha, hb, hc, hd]
theorem row4_lods {id : Nat} {a b c d : AV} {own : Bool} (h : t.get id = some (.row [a, b, c, d] own)) : lod t 4 (.ptr id 0) = some (.agg [a, b, c, d]) ∧ lod t 2 (.ptr id 0) = some (.agg [a, b]) ∧ lod t 2 (.ptr id 2) = some (.agg [c, d]) ∧ lod1 t (.ptr id 0) = some a ∧ lod1 t (.ptr id 1) = some b ∧ lod1 t (.ptr id 2) = some c ∧ lod1 t (.ptr id 3) = some d ∧ ltN id t :=
  ⟨by simp [lod, h], by simp [lod, h], by simp [lod, h], by simp [lod1, h], by simp [lod1, h], by simp [lod1, h], by simp [lod1, h], St.get_lt h⟩
theorem box_dg (s : St) (a b c d : AV) (hK : Keep (s.push (.row [a, b, c, d] true)) t) : lod t 4 (.ptr s.next 0) = some (.agg [a, b, c, d]) ∧ lod t 2 (.ptr s.next 0) = some (.agg [a, b]) ∧ lod t 2 (.ptr s.next 2) = some (.agg [c, d]) ∧ lod1 t (.ptr s.next 0) = some a ∧ lod1 t (.ptr s.next 1) = some b ∧ lod1 t (.ptr s.next 2) = some c ∧ lod1 t (.ptr s.next 3) = some d ∧ ltN s.next t :=
  row4_lods (hK.blk (St.get_push_new s _))
structure DgR (t : St) (a b c d : AV) (D : DDg) : Prop where
  r1 : read dotC t a = some D.all.v
  r2 : read dotC t b = some D.all.c
  r3 : read dotC t c = some D.gone.v
  r4 : read dotC t d = some D.gone.c
theorem DgR.mono {a b c d : AV} {D : DDg} (h : DgR t a b c d D) (k : ∀ id b, t.get id = some b → u.get id = some b) : DgR u a b c d D := ⟨read_mono h.r1 k, read_mono h.r2 k, read_mono h.r3 k, read_mono h.r4 k⟩
theorem DgR.keep {a b c d : AV} {D : DDg} (h : DgR t a b c d D) (k : Keep t u) : DgR u a b c d D := h.mono fun _ _ => k.blk
theorem DgR.low {a b c d : AV} {D : DDg} (h : DgR s a b c d D) : DgR (lowd s) a b c d D := ⟨read_low' h.r1, read_low' h.r2, read_low' h.r3, read_low' h.r4⟩
theorem DgR.box {a b c d : AV} {D : DDg} (h : DgR t a b c d D) : boxV 4 (.agg [a, b, c, d]) = some (fun id => .ptr id 0, .row [a, b, c, d] true) := boxV_4 (read_oneD h.r1).2 (read_oneD h.r2).2 (read_oneD h.r3).2 (read_oneD h.r4).2
theorem DgR.nils : DgR t .nils .nils .nils .nils ⟨⟨[], []⟩, ⟨[], []⟩⟩ := ⟨rfl, rfl, rfl, rfl⟩
theorem DgR.ground {a b c d : AV} {D : DDg} (h : DgR t a b c d D) (h1 : a.ground = true) (h2 : b.ground = true) (h3 : c.ground = true) (h4 : d.ground = true) : DgR u a b c d D := by
  obtain ⟨rfl, e1⟩ := read_ground h.r1 h1
  obtain ⟨rfl, e2⟩ := read_ground h.r2 h2
  obtain ⟨rfl, e3⟩ := read_ground h.r3 h3
  obtain ⟨rfl, e4⟩ := read_ground h.r4 h4
  exact ⟨by rw [e1]; rfl, by rw [e2]; rfl, by rw [e3]; rfl, by rw [e4]; rfl⟩
theorem sto_dg {n : Nat} {s : St} (h : sameN n s) {a b c d : AV} {D : DDg} {u : St} (k : DgR u a b c d D) : sto (s.push (.row [.nils, .nils, .nils, .nils] true)) 4 (.ptr n 0) (.agg [a, b, c, d]) = some (.und, s.lowed.push (.row [a, b, c, d] true)) := by
  unfold sameN at h
  subst h
  simp [sto, St.get_push_new, push_put, AV.cells, (read_oneD k.r1).2, (read_oneD k.r2).2, (read_oneD k.r3).2, (read_oneD k.r4).2, setAt]
theorem sto_row4 {id : Nat} {x1 x2 x3 x4 a b c d : AV} (h : t.get id = some (.row [x1, x2, x3, x4] true)) {D : DDg} {u : St} (k : DgR u a b c d D) : sto t 4 (.ptr id 0) (.agg [a, b, c, d]) = some (.und, t.put id (.row [a, b, c, d] true)) := by
  simp [sto, h, AV.cells, (read_oneD k.r1).2, (read_oneD k.r2).2, (read_oneD k.r3).2, (read_oneD k.r4).2, setAt]
theorem fstep_q0 {a b : AV} (ha : a.one = true) (hb : b.one = true) (w x y z : AV) (K : List AV → Option (List AV)) : fstep [w, x, y, z] 0 2 (.agg [a, b]) K = K [a, b, y, z] := by
  simp [fstep, AV.cells, ha, hb, setAt]
theorem fstep_q2 {a b : AV} (ha : a.one = true) (hb : b.one = true) (w x y z : AV) (K : List AV → Option (List AV)) : fstep [w, x, y, z] 2 2 (.agg [a, b]) K = K [w, x, a, b] := by
  simp [fstep, AV.cells, ha, hb, setAt]
structure DgL (D : DDg) (n : Nat) : Prop where
  l1 : D.all.v.length ≤ n
  l2 : D.all.c.length ≤ n
  l3 : D.gone.v.length ≤ n
  l4 : D.gone.c.length ≤ n
theorem lim_1000 {n : Nat} (h : n ≤ 1000) : n ≤ lim := by unfold lim; omega
theorem lim_80 {n : Nat} (h : n ≤ 1000) : n ≤ 80000 := by omega
theorem dg_dec (D G : DDg) : (decide (D.all = G.all) && decide (D.gone = G.gone)) = decide (D = G) := by
  rw [Bool.eq_iff_iff]
  simp only [Bool.and_eq_true, decide_eq_true_eq]
  constructor
  · rintro ⟨h1, h2⟩
    cases D; cases G; simp only at h1 h2; rw [h1, h2]
  · rintro rfl; exact ⟨rfl, rfl⟩
noncomputable def R_RgSame : Con := runFn (tb [(47, R_JSameC)]) a26
theorem s_RgSame : SoundAt Tryz.prog 26 R_RgSame := run_sound (tb_sound (l := [(47, R_JSameC)]) (by simpa using s_JSameC)) mixed Tryz.func26 k26 c26
theorem n_RgSame : noNxtC a26.body = true := by kernel_rfl
theorem w_RgSame {s : St} {a1 b1 c1 d1 : AV} {D : DDg} (hD : DgR s a1 b1 c1 d1 D) (hDl : DgL D 1000) {a2 b2 c2 d2 : AV} {G : DDg} (hG : DgR s a2 b2 c2 d2 G) (hGl : DgL G 1000) : ∀ env : Env, elen env = a26.ntmps → (∀ i x_, [.agg [a1, b1, c1, d1], .agg [a2, b2, c2, d2]][i]? = some x_ → E env i = x_) → awp (tb [(47, R_JSameC)]) a26.body (fun x e t => (∀ i, x ≠ .exit i) ∧ aresults e t a26.results = some (.bool (decide (D = G))) ∧ Keep s t) env s := by
  intro env hlen ha
  have h0 : E env 0 = _ := ha 0 _ rfl
  have h1 : E env 1 = _ := ha 1 _ rfl
  have hlen : elen env = _ := hlen
  simp only [a26] at hlen
  unfold a26
  try dsimp only [oO, oG]
  have hbx := hD.box
  have hby := hG.box
  have hK2 : Keep s ((s.push (.row [a1, b1, c1, d1] true)).push (.row [a2, b2, c2, d2] true)) := ((Keep.refl s).push _).push _
  have hK12 : Keep (s.push (.row [a1, b1, c1, d1] true)) ((s.push (.row [a1, b1, c1, d1] true)).push (.row [a2, b2, c2, d2] true)) := (Keep.refl _).push _
  obtain ⟨p1, p2, p3, p4, p5, p6, p7, p8⟩ := box_dg s a1 b1 c1 d1 hK12
  obtain ⟨r1, r2, r3, r4, r5, r6, r7, r8⟩ := box_dg (s.push (.row [a1, b1, c1, d1] true)) a2 b2 c2 d2 (.refl _)
  have q1 := q_JSameC false (hK2.read hD.r1) (hK2.read hD.r2) (lim_1000 hDl.l1) (lim_1000 hDl.l2) (hK2.read hG.r1) (hK2.read hG.r2) (lim_1000 hGl.l1) (lim_1000 hGl.l2)
  have q2 := q_JSameC false (hK2.read hD.r3) (hK2.read hD.r4) (lim_1000 hDl.l3) (lim_1000 hDl.l4) (hK2.read hG.r3) (hK2.read hG.r4) (lim_1000 hGl.l3) (lim_1000 hGl.l4)
  rw [← dg_dec]
  simp (config := {contextual := true, maxDischargeDepth := 12}) only [tb_at, h0, h1, hlen, q1, q2, hbx, hby, p1, p2, p3, p4, p5, p6, p7, p8, r1, r2, r3, r4, r5, r6, r7, r8, ↓bD, bU, forall_const, bS, implies_true, isNx, eq_self, ↓wp_cond, ↓wp_loop, ↓reduceIte, reduceCtorEq, Nat.reduceEqDiff, Nat.reduceLT, Nat.reduceAdd, Nat.reduceMul, bT, ↓sg_bsl, ↓st_callf, bX, List.cons_append, List.nil_append, ↓st_appf, bY, slcV_nils0N, slcV_sl0N, bslV_0N, bin_shr1, bsl_nd]
  all_goals first | exact hK2 | skip
theorem q_RgSame (cl : Bool) {s : St} {a1 b1 c1 d1 : AV} {D : DDg} (hD : DgR s a1 b1 c1 d1 D) (hDl : DgL D 1000) {a2 b2 c2 d2 : AV} {G : DDg} (hG : DgR s a2 b2 c2 d2 G) (hGl : DgL G 1000) : acall R_RgSame cl [.agg [a1, b1, c1, d1], .agg [a2, b2, c2, d2]] s = some (.bool (decide (D = G)), s) := run_same n_RgSame (by simp [a26]) rfl (w_RgSame (s := lowd s) hD.low hDl hG.low hGl)
theorem dgV_parts {D : DDg} (h : dgV D = true) : isC D.all = true ∧ isC D.gone = true ∧ jwithin D.gone D.all = true := by
  unfold dgV at h
  simpa only [Bool.and_eq_true] using h
theorem diff_snoc {l : List Nd} {D : DDg} {i : Nat} {x : Nd} (hx : l[i]? = some x) : diffD (l.take (i + 1)) D = diffD (l.take i) D ++ (if lackD D x = true then [x] else []) := by
  rw [take_snoc hx]
  unfold diffD
  rw [List.filter_append]
  congr 1
  by_cases h : lackD D x = true
  · rw [if_pos h]; simp [h]
  · rw [if_neg h]; simp [h]
theorem diff_len (l : List Nd) (D : DDg) : (diffD l D).length ≤ l.length := List.length_filter_le _ _
end Go.AM
end
/-
  Digests: the package; the reference and its Of. Own work of this project; in part printed by a program of it.
-/
section
set_option maxRecDepth 100000
set_option maxHeartbeats 8000000
namespace Go.AM
open Go Go.Proofs

variable {s t u : St}

theorem q_JValidD (cl : Bool) {v : AV} {l : List Nd} {s : St} (h : read ndC s v = some l) (hl : l.length ≤ lim) : acall (conL ndC fValid) cl [v] s = some (.bool (storeL l), s) := conL_call (fun _ => rfl) h hl cl
theorem win_eq {a b : DCx} (ha : isC a = true) (hb : isC b = true) : decide (uniC a b = compC b) = jwithin a b := by
  rw [Bool.eq_iff_iff, decide_eq_true_eq, jwithin_iff ha hb]
  exact sub_iff ((isC_iff a).1 ha).1 ((isC_iff b).1 hb).1
theorem isC_cvalid {x : DCx} (h : isC x = true) : cvalid x = true := ((isC_iff x).1 h).1
theorem dgV_false_a {D : DDg} (h : isC D.all = false) : dgV D = false := by unfold dgV; rw [h]; rfl
theorem dgV_false_g {D : DDg} (h : isC D.gone = false) : dgV D = false := by unfold dgV; rw [h]; cases isC D.all <;> rfl
theorem isC_of_cvalid {x : DCx} (h : cvalid x = false) : isC x = false := by unfold isC; rw [h]; rfl
theorem add_l0 {l : List Dot} (h : l.length ≤ 500) : (addC ⟨[], []⟩ l).v.length ≤ 1000 ∧ (addC ⟨[], []⟩ l).c.length ≤ 1000 := by
  have := add_len ⟨[], []⟩ l
  simp only [List.length_nil, Nat.zero_add] at this
  omega
theorem dgOf_len {l : List Nd} (h : l.length ≤ 500) : DgL (dgOf l) 1000 := by
  have h1 := add_l0 (l := l.map Nd.d) (by rw [List.length_map]; exact h)
  have h2 := add_l0 (l := (deadN l).map Nd.d) (by rw [List.length_map]; exact Nat.le_trans (List.length_filter_le _ _) h)
  exact ⟨h1.1, h1.2, h2.1, h2.2⟩
noncomputable def R_DgValid : Con := runFn (tb [(36, R_CWithin), (37, R_IsC)]) a12
theorem s_DgValid : SoundAt Tryz.prog 12 R_DgValid := run_sound (tb_sound (l := [(36, R_CWithin), (37, R_IsC)]) (by simpa using ⟨s_CWithin, s_IsC⟩)) mixed Tryz.func12 k12 c12
theorem n_DgValid : noNxtC a12.body = true := by kernel_rfl
theorem w_DgValid {s : St} {a1 b1 c1 d1 : AV} {D : DDg} (hD : DgR s a1 b1 c1 d1 D) (hDl : DgL D 1000) : ∀ env : Env, elen env = a12.ntmps → (∀ i x_, [.agg [a1, b1, c1, d1]][i]? = some x_ → E env i = x_) → awp (tb [(36, R_CWithin), (37, R_IsC)]) a12.body (fun x e t => (∀ i, x ≠ .exit i) ∧ aresults e t a12.results = some (.bool (dgV D)) ∧ Keep s t) env s := by
  intro env hlen ha
  have h0 : E env 0 = _ := ha 0 _ rfl
  have hlen : elen env = _ := hlen
  simp only [a12] at hlen
  unfold a12
  try dsimp only [oO, oG]
  have hbx := hD.box
  have hK1 : Keep s (s.push (.row [a1, b1, c1, d1] true)) := (Keep.refl s).push _
  obtain ⟨p1, p2, p3, p4, p5, p6, p7, p8⟩ := box_dg s a1 b1 c1 d1 (.refl _)
  have q2 := q_IsC false (hK1.read hD.r1) (hK1.read hD.r2) (lim_1000 hDl.l1) (lim_1000 hDl.l2)
  have q3 := q_IsC false (hK1.read hD.r3) (hK1.read hD.r4) (lim_1000 hDl.l3) (lim_1000 hDl.l4)
  have n20 : ((2 : Int) = 0) = False := eq_false (by decide)
  have n00 : ((0 : Int) = 0) = True := eq_true rfl
  cases hc : cvalid D.gone && cvalid D.all
  · have q1 := q_CWithin_bad false (hK1.read hD.r3) (hK1.read hD.r4) (lim_80 hDl.l3) (lim_80 hDl.l4) (hK1.read hD.r1) (hK1.read hD.r2) (lim_80 hDl.l1) (lim_80 hDl.l2) hc
    have hS : dgV D = false := by
      rw [Bool.and_eq_false_iff] at hc
      exact hc.elim (fun h => dgV_false_g (isC_of_cvalid h)) fun h => dgV_false_a (isC_of_cvalid h)
    rw [hS]
    cases h1 : isC D.all
    · rw [h1] at q2
      simp (config := {contextual := true, maxDischargeDepth := 12}) only [tb_at, h0, hlen, q1, q2, hbx, p1, p2, p3, p4, p5, p6, p7, p8, ↓bD, bU, forall_const, bS, implies_true, isNx, eq_self, ↓wp_cond, ↓wp_loop, ↓reduceIte, reduceCtorEq, Nat.reduceEqDiff, Nat.reduceLT, Nat.reduceAdd, Nat.reduceMul, bT, ↓sg_bsl, ↓st_callf, bX, List.cons_append, List.nil_append, ↓st_appf, bY, slcV_nils0N, slcV_sl0N, bslV_0N, bin_shr1, bsl_nd]
      all_goals first | exact hK1 | skip
    rw [h1] at q2
    cases h2 : isC D.gone
    · rw [h2] at q3
      simp (config := {contextual := true, maxDischargeDepth := 12}) only [tb_at, h0, hlen, q1, q2, q3, hbx, p1, p2, p3, p4, p5, p6, p7, p8, ↓bD, bU, forall_const, bS, implies_true, isNx, eq_self, ↓wp_cond, ↓wp_loop, ↓reduceIte, reduceCtorEq, Nat.reduceEqDiff, Nat.reduceLT, Nat.reduceAdd, Nat.reduceMul, bT, ↓sg_bsl, ↓st_callf, bX, List.cons_append, List.nil_append, ↓st_appf, bY, slcV_nils0N, slcV_sl0N, bslV_0N, bin_shr1, bsl_nd]
      all_goals first | exact hK1 | skip
    rw [h2] at q3
    simp (config := {contextual := true, maxDischargeDepth := 12}) only [tb_at, h0, hlen, q1, q2, q3, n20, decide_false, bin_eqE, hbx, p1, p2, p3, p4, p5, p6, p7, p8, ↓bD, bU, forall_const, bS, implies_true, isNx, eq_self, ↓wp_cond, ↓wp_loop, ↓reduceIte, reduceCtorEq, Nat.reduceEqDiff, Nat.reduceLT, Nat.reduceAdd, Nat.reduceMul, bT, ↓sg_bsl, ↓st_callf, bX, List.cons_append, List.nil_append, ↓st_appf, bY, slcV_nils0N, slcV_sl0N, bslV_0N, bin_shr1, bsl_nd]
    all_goals first | exact hK1 | skip
  rw [Bool.and_eq_true] at hc
  have q1 := q_CWithin false (hK1.read hD.r3) (hK1.read hD.r4) (lim_80 hDl.l3) (lim_80 hDl.l4) (hK1.read hD.r1) (hK1.read hD.r2) (lim_80 hDl.l1) (lim_80 hDl.l2) hc.1 hc.2
  cases h1 : isC D.all
  · rw [h1] at q2
    rw [dgV_false_a h1]
    simp (config := {contextual := true, maxDischargeDepth := 12}) only [tb_at, h0, hlen, q1, q2, hbx, p1, p2, p3, p4, p5, p6, p7, p8, ↓bD, bU, forall_const, bS, implies_true, isNx, eq_self, ↓wp_cond, ↓wp_loop, ↓reduceIte, reduceCtorEq, Nat.reduceEqDiff, Nat.reduceLT, Nat.reduceAdd, Nat.reduceMul, bT, ↓sg_bsl, ↓st_callf, bX, List.cons_append, List.nil_append, ↓st_appf, bY, slcV_nils0N, slcV_sl0N, bslV_0N, bin_shr1, bsl_nd]
    all_goals first | exact hK1 | skip
  rw [h1] at q2
  cases h2 : isC D.gone
  · rw [h2] at q3
    rw [dgV_false_g h2]
    simp (config := {contextual := true, maxDischargeDepth := 12}) only [tb_at, h0, hlen, q1, q2, q3, hbx, p1, p2, p3, p4, p5, p6, p7, p8, ↓bD, bU, forall_const, bS, implies_true, isNx, eq_self, ↓wp_cond, ↓wp_loop, ↓reduceIte, reduceCtorEq, Nat.reduceEqDiff, Nat.reduceLT, Nat.reduceAdd, Nat.reduceMul, bT, ↓sg_bsl, ↓st_callf, bX, List.cons_append, List.nil_append, ↓st_appf, bY, slcV_nils0N, slcV_sl0N, bslV_0N, bin_shr1, bsl_nd]
    all_goals first | exact hK1 | skip
  rw [h2] at q3
  rw [win_eq h2 h1] at q1
  have hS : dgV D = jwithin D.gone D.all := by unfold dgV; rw [h1, h2]; rfl
  rw [hS]
  simp (config := {contextual := true, maxDischargeDepth := 12}) only [tb_at, h0, hlen, q1, q2, q3, n00, decide_true, bin_eqE, hbx, p1, p2, p3, p4, p5, p6, p7, p8, ↓bD, bU, forall_const, bS, implies_true, isNx, eq_self, ↓wp_cond, ↓wp_loop, ↓reduceIte, reduceCtorEq, Nat.reduceEqDiff, Nat.reduceLT, Nat.reduceAdd, Nat.reduceMul, bT, ↓sg_bsl, ↓st_callf, bX, List.cons_append, List.nil_append, ↓st_appf, bY, slcV_nils0N, slcV_sl0N, bslV_0N, bin_shr1, bsl_nd]
  all_goals first | exact hK1 | skip
theorem q_DgValid (cl : Bool) {s : St} {a1 b1 c1 d1 : AV} {D : DDg} (hD : DgR s a1 b1 c1 d1 D) (hDl : DgL D 1000) : acall R_DgValid cl [.agg [a1, b1, c1, d1]] s = some (.bool (dgV D), s) := run_same n_DgValid (by simp [a12]) rfl (w_DgValid (s := lowd s) hD.low hDl)
noncomputable def R_DgLk1 : Con := runFn (tb [(64, R_CHas)]) a63
theorem s_DgLk1 : SoundAt Tryz.prog 63 R_DgLk1 := run_sound (tb_sound (l := [(64, R_CHas)]) (by simpa using s_CHas)) mixed Tryz.func63 k63 c63
theorem n_DgLk1 : noNxtC a63.body = true := by kernel_rfl
theorem w_DgLk1 {s : St} {a1 b1 c1 d1 : AV} {D : DDg} (hD : DgR s a1 b1 c1 d1 D) (hDl : DgL D 1000) {b : Nat} {own : Bool} (hg : s.get b = some (.row [a1, b1, c1, d1] own)) (n : Nd) (hn : n.d.valid = true) : ∀ env : Env, elen env = a63.ntmps → (∀ i x_, [.agg (Nd.av n), .ptr b 0][i]? = some x_ → E env i = x_) → awp (tb [(64, R_CHas)]) a63.body (fun x e t => (∀ i, x ≠ .exit i) ∧ aresults e t a63.results = some (.bool (lackD D n)) ∧ Keep s t) env s := by
  intro env hlen ha
  have h0 : E env 0 = _ := ha 0 _ rfl
  have h1 : E env 1 = _ := ha 1 _ rfl
  have hlen : elen env = _ := hlen
  simp only [a63] at hlen
  unfold a63
  try dsimp only [oO, oG]
  have hK1 : Keep s (s.push (.row (Nd.av n) true)) := (Keep.refl s).push _
  obtain ⟨p1, p2, p3, p4, p5, p6, p7, p8⟩ := row4_lods (hK1.blk hg)
  obtain ⟨bn1, bn2, bn3, bn4, bn5, bn6⟩ := box_nd s n (.refl _)
  have hbn : boxV 6 (.agg (Nd.av n)) = some (fun id => .ptr id 0, .row (Nd.av n) true) := by simp [boxV, AV.cells, AV.one, Nd.av]
  have q1 := q_CHas false (hK1.read hD.r1) (hK1.read hD.r2) (lim_1000 hDl.l1) (lim_1000 hDl.l2) n.d
  have q2 := q_CHas false (hK1.read hD.r3) (hK1.read hD.r4) (lim_1000 hDl.l3) (lim_1000 hDl.l4) n.d
  unfold lackD
  rw [jhas_chas hn, jhas_chas hn]
  simp (config := {contextual := true, maxDischargeDepth := 12}) only [tb_at, h0, h1, hlen, hbn, p1, p2, p3, p8, bn1, bn2, bn5, bn6, q1, q2, notV_bool, bin_eqE, ↓bD, bU, forall_const, bS, implies_true, isNx, eq_self, ↓wp_cond, ↓wp_loop, ↓reduceIte, reduceCtorEq, Nat.reduceEqDiff, Nat.reduceLT, Nat.reduceAdd, Nat.reduceMul, bT, ↓sg_bsl, ↓st_callf, bX, List.cons_append, List.nil_append, ↓st_appf, bY, slcV_nils0N, slcV_sl0N, bslV_0N, bin_shr1, bsl_nd]
  all_goals first | exact hK1 | skip
theorem q_DgLk1 (cl : Bool) {s : St} {a1 b1 c1 d1 : AV} {D : DDg} (hD : DgR s a1 b1 c1 d1 D) (hDl : DgL D 1000) {b : Nat} {own : Bool} (hg : s.get b = some (.row [a1, b1, c1, d1] own)) (n : Nd) (hn : n.d.valid = true) : acall R_DgLk1 cl [.agg (Nd.av n), .ptr b 0] s = some (.bool (lackD D n), s) := run_same n_DgLk1 (by simp [a63]) rfl (w_DgLk1 (s := lowd s) hD.low hDl hg n hn)
noncomputable def R_DgLks : Con := runFn (tb []) a42
theorem s_DgLks : SoundAt Tryz.prog 42 R_DgLks := run_sound (tb_sound (l := []) (by simp)) mixed Tryz.func42 k42 c42
theorem n_DgLks : noNxtC a42.body = true := by kernel_rfl
theorem w_DgLks {s : St} {a1 b1 c1 d1 : AV} {D : DDg} (hD : DgR s a1 b1 c1 d1 D) : ∀ env : Env, elen env = a42.ntmps → (∀ i x_, [.agg [a1, b1, c1, d1]][i]? = some x_ → E env i = x_) → awp (tb []) a42.body (fun x e t => (∀ i, x ≠ .exit i) ∧ ∃ r, aresults e t a42.results = some r ∧ (∃ b, r = .fn 63 [.ptr b 0] ∧ t.get b = some (.row [a1, b1, c1, d1] true) ∧ s.next ≤ b) ∧ Keep s t) env s := by
  intro env hlen ha
  have h0 : E env 0 = _ := ha 0 _ rfl
  have hlen : elen env = _ := hlen
  simp only [a42] at hlen
  unfold a42
  try dsimp only [oO, oG]
  have hbx := hD.box
  have hK1 : Keep s (s.push (.row [a1, b1, c1, d1] true)) := (Keep.refl s).push _
  obtain ⟨p1, p2, p3, p4, p5, p6, p7, p8⟩ := box_dg s a1 b1 c1 d1 (.refl _)
  simp (config := {contextual := true, maxDischargeDepth := 12}) only [tb_at, h0, hlen, hbx, p1, p2, p3, p4, p5, p6, p7, p8, ↓bD, bU, forall_const, bS, implies_true, isNx, eq_self, ↓wp_cond, ↓wp_loop, ↓reduceIte, reduceCtorEq, Nat.reduceEqDiff, Nat.reduceLT, Nat.reduceAdd, Nat.reduceMul, bT, ↓sg_bsl, ↓st_callf, bX, List.cons_append, List.nil_append, ↓st_appf, bY, slcV_nils0N, slcV_sl0N, bslV_0N, bin_shr1, bsl_nd]
  first | exact ⟨_, rfl, _, rfl, St.get_push_new s _, Nat.le_refl _⟩ | exact ⟨_, rfl, ⟨_, rfl, St.get_push_new s _, Nat.le_refl _⟩, hK1⟩ | skip
theorem q_DgLks {s : St} {a1 b1 c1 d1 : AV} {D : DDg} (hD : DgR s a1 b1 c1 d1 D) : ∃ b t, acall R_DgLks false [.agg [a1, b1, c1, d1]] s = some (.fn 63 [.ptr b 0], t) ∧ t.get b = some (.row [a1, b1, c1, d1] true) ∧ s.next ≤ b ∧ Keep s t := by
  obtain ⟨r, t, h1, ⟨b, rfl, h2, h4⟩, h3⟩ := run_any n_DgLks (args := [.agg [a1, b1, c1, d1]]) (Q := fun r t => ∃ b, r = .fn 63 [.ptr b 0] ∧ t.get b = some (.row [a1, b1, c1, d1] true) ∧ s.next ≤ b) (by simp [a42]) (fun r t t' hg hn ⟨b, e, h, h'⟩ => ⟨b, e, by rw [hg]; exact h, h'⟩) (fun r t hgr hk ⟨b, e, h, h'⟩ => by
    rw [e] at hgr
    simp [AV.ground, AV.plain] at hgr) (w_DgLks (s := lowd s) hD.low)
  exact ⟨b, t, h1, h2, h4, h3⟩

def diffP (l : List Nd) (D : DDg) : List Nd × Int := if storeL l = true ∧ dgV D = true then (diffD l D, 0) else ([], 2)
theorem diffP_ok {l : List Nd} {D : DDg} (h1 : storeL l = true) (h2 : dgV D = true) : diffP l D = (diffD l D, 0) := by unfold diffP; rw [if_pos ⟨h1, h2⟩]
theorem diffP_bad {l : List Nd} {D : DDg} (h : ¬ (storeL l = true ∧ dgV D = true)) : diffP l D = ([], 2) := by unfold diffP; rw [if_neg h]
theorem diffP_len (l : List Nd) (D : DDg) : (diffP l D).1.length ≤ l.length := by
  unfold diffP
  split
  · exact diff_len l D
  · simp
noncomputable def R_DgDiff : Con := runFn (tb [(41, conL ndC fValid), (12, R_DgValid), (42, R_DgLks), (63, R_DgLk1)]) a18
theorem s_DgDiff : SoundAt Tryz.prog 18 R_DgDiff := run_sound (tb_sound (l := [(41, conL ndC fValid), (12, R_DgValid), (42, R_DgLks), (63, R_DgLk1)]) (by simpa using ⟨s_JValid, s_DgValid, s_DgLks, s_DgLk1⟩)) mixed Tryz.func18 k18 c18
theorem n_DgDiff : noNxtC a18.body = true := by kernel_rfl
theorem w_DgDiff {s : St} {vl : AV} {l : List Nd} (hr : read ndC s vl = some l) (hl : l.length ≤ 1000) {a1 b1 c1 d1 : AV} {D : DDg} (hD : DgR s a1 b1 c1 d1 D) (hDl : DgL D 1000) : ∀ env : Env, elen env = a18.ntmps → (∀ i x_, [vl, .agg [a1, b1, c1, d1]][i]? = some x_ → E env i = x_) → awp (tb [(41, conL ndC fValid), (12, R_DgValid), (42, R_DgLks), (63, R_DgLk1)]) a18.body (fun x e t => (∀ i, x ≠ .exit i) ∧ Keep s t ∧ ∃ r, aresults e t a18.results = some (.tup [r, .int .i64 (diffP l D).2]) ∧ Own ndC s t r (diffP l D).1) env s := by
  intro env hlen ha
  have h0 : E env 0 = _ := ha 0 _ rfl
  have h1 : E env 1 = _ := ha 1 _ rfl
  have hlen : elen env = _ := hlen
  simp only [a18] at hlen
  unfold a18
  try dsimp only [oO, oG]
  have hbx := hD.box
  have hK1 : Keep s (s.push (.row [a1, b1, c1, d1] true)) := (Keep.refl s).push _
  obtain ⟨p1, p2, p3, p4, p5, p6, p7, p8⟩ := box_dg s a1 b1 c1 d1 (.refl _)
  have hL := lenV_read hr
  have q1 := q_JValidD false (hK1.read hr) (by unfold lim; omega)
  have q2 := q_DgValid false (hD.keep hK1) hDl
  cases h1s : storeL l
  · rw [h1s] at q1
    rw [diffP_bad (by rw [h1s]; simp)]
    simp (config := {contextual := true, maxDischargeDepth := 12}) only [tb_at, h0, h1, hlen, q1, notV_bool, Bool.not_false, hbx, p1, p2, p3, p4, p5, p6, p7, p8, ↓bD, bU, forall_const, bS, implies_true, isNx, eq_self, ↓wp_cond, ↓wp_loop, ↓reduceIte, reduceCtorEq, Nat.reduceEqDiff, Nat.reduceLT, Nat.reduceAdd, Nat.reduceMul, bT, ↓sg_bsl, ↓st_callf, bX, List.cons_append, List.nil_append, ↓st_appf, bY, slcV_nils0N, slcV_sl0N, bslV_0N, bin_shr1, bsl_nd]
    all_goals first | exact ⟨hK1, _, rfl, .nil _ _ _⟩ | exact ⟨_, rfl, .nil _ _ _⟩ | skip
  rw [h1s] at q1
  cases h2s : dgV D
  · rw [h2s] at q2
    rw [diffP_bad (by rw [h2s]; simp)]
    simp (config := {contextual := true, maxDischargeDepth := 12}) only [tb_at, h0, h1, hlen, q1, q2, notV_bool, Bool.not_false, Bool.not_true, hbx, p1, p2, p3, p4, p5, p6, p7, p8, ↓bD, bU, forall_const, bS, implies_true, isNx, eq_self, ↓wp_cond, ↓wp_loop, ↓reduceIte, reduceCtorEq, Nat.reduceEqDiff, Nat.reduceLT, Nat.reduceAdd, Nat.reduceMul, bT, ↓sg_bsl, ↓st_callf, bX, List.cons_append, List.nil_append, ↓st_appf, bY, slcV_nils0N, slcV_sl0N, bslV_0N, bin_shr1, bsl_nd]
    all_goals first | exact ⟨hK1, _, rfl, .nil _ _ _⟩ | exact ⟨_, rfl, .nil _ _ _⟩ | skip
  rw [h2s] at q2
  rw [diffP_ok h1s h2s]
  obtain ⟨b, tl, q3, hgb, hbs, hK3⟩ := q_DgLks (hD.keep hK1)
  have hKl := hK1.trans hK3
  simp (config := {contextual := true, maxDischargeDepth := 12}) only [tb_at, h0, h1, hlen, q1, q2, q3, hL, notV_bool, Bool.not_false, Bool.not_true, hbx, p1, p2, p3, p4, p5, p6, p7, p8, ↓bD, bU, forall_const, bS, implies_true, isNx, eq_self, ↓wp_cond, ↓wp_loop, ↓reduceIte, reduceCtorEq, Nat.reduceEqDiff, Nat.reduceLT, Nat.reduceAdd, Nat.reduceMul, bT, ↓sg_bsl, ↓st_callf, bX, List.cons_append, List.nil_append, ↓st_appf, bY, slcV_nils0N, slcV_sl0N, bslV_0N, bin_shr1, bsl_nd]
  obtain ⟨I, hI⟩ : ∃ I : Nat → Env → St → Prop, ∀ n e t, I n e t = (Keep tl t ∧ ∃ i : Nat, n + i = l.length ∧ elen e = 35 ∧ E e 6 = .fn 63 [.ptr b 0] ∧ E e 20 = vl ∧ E e 21 = .int .i64 (l.length : Int) ∧ E e 22 = .int .i64 (i : Int) ∧ Own ndC tl t (E e 7) (diffD (l.take i) D)) := ⟨fun n e t => (Keep tl t ∧ ∃ i : Nat, n + i = l.length ∧ elen e = 35 ∧ E e 6 = .fn 63 [.ptr b 0] ∧ E e 20 = vl ∧ E e 21 = .int .i64 (l.length : Int) ∧ E e 22 = .int .i64 (i : Int) ∧ Own ndC tl t (E e 7) (diffD (l.take i) D)), fun _ _ _ => rfl⟩
  refine lwp_inv I (n := l.length) ?_ ?_
  · rw [hI]
    exact ⟨.refl _, 0, by omega, (by simp only [bE, Nat.reduceEqDiff, bN, Nat.reduceLT, hlen]; try rfl), (by simp only [bE, Nat.reduceEqDiff, bN, Nat.reduceLT, hlen]; try rfl), (by simp only [bE, Nat.reduceEqDiff, bN, Nat.reduceLT, hlen, h0]; try rfl), (by simp only [bE, Nat.reduceEqDiff, bN, Nat.reduceLT, hlen, hL]; try rfl), (by simp only [bE, Nat.reduceEqDiff, bN, Nat.reduceLT, hlen]; try rfl), by simp only [bE, Nat.reduceEqDiff, bN, Nat.reduceLT, hlen]; exact .nil _ _ _⟩
  clear h0 h1 hlen q1 q2 q3
  intro n e t hi
  rw [hI] at hi
  obtain ⟨hK, i, hni, he, e6, e20, e21, e22, hO⟩ := hi
  have hKt := hKl.trans hK
  by_cases hlt : i < l.length
  · obtain ⟨x, hx⟩ := getsome hlt
    have hw2 := wrap_add1 (n := i) (by omega)
    obtain ⟨a1_, a2_, a3_, a5_, a6_, a4_⟩ := nd_lods hr hKt hx
    have i1 := nd_idx hr hx .i64
    have hsn := diff_snoc (D := D) hx
    have hKx : Keep t (t.lowed.push (.row (Nd.av x) true)) := (Keep.refl t).lowed.push _
    have hKtx := hKt.trans hKx
    obtain ⟨bn1, bn2, bn3, bn4, bn5, bn6⟩ := box_nd t.lowed x (.refl _)
    have q4 := q_DgLk1 false (s := t.lowed.push (.row (Nd.av x) true)) (hD.keep hKtx) hDl ((hK.trans hKx).blk hgb) x (nd_dval (store_mem h1s (mem_at hx)))
    cases hlk : lackD D x
    · rw [hlk] at q4
      rw [if_neg (by rw [hlk]; simp), List.append_nil] at hsn
      simp (config := {contextual := true, maxDischargeDepth := 12}) only [tb_at, he, e6, e20, e21, e22, hlt, hw2, a1_, a4_, i1, bn1, bn6, q4, ↓bD, bU, forall_const, bS, implies_true, isNx, eq_self, ↓wp_cond, ↓wp_loop, ↓reduceIte, reduceCtorEq, Nat.reduceEqDiff, Nat.reduceLT, Nat.reduceAdd, Nat.reduceMul, bT, ↓sg_bsl, ↓st_callf, bX, List.cons_append, List.nil_append, ↓st_appf, bY, slcV_nils0N, slcV_sl0N, bslV_0N, bin_shr1, bsl_nd]
      refine ⟨n - 1, by omega, ?_⟩
      rw [hI]
      exact ⟨hK.trans hKx, i + 1, by omega, (by simp only [bE, Nat.reduceEqDiff, bN, Nat.reduceLT, he, e6, e20, e21, e22]; try rfl), (by simp only [bE, Nat.reduceEqDiff, bN, Nat.reduceLT, he, e6, e20, e21, e22]; try rfl), (by simp only [bE, Nat.reduceEqDiff, bN, Nat.reduceLT, he, e6, e20, e21, e22]; try rfl), (by simp only [bE, Nat.reduceEqDiff, bN, Nat.reduceLT, he, e6, e20, e21, e22]; try rfl), (by simp only [bE, Nat.reduceEqDiff, bN, Nat.reduceLT, he, e6, e20, e21, e22]; try rfl), by simp only [bE, Nat.reduceEqDiff, bN, Nat.reduceLT, he]; rw [hsn]; exact hO.mono fun _ _ k => hKx.blk k⟩
    · rw [hlk] at q4
      rw [if_pos hlk] at hsn
      have hb : ((diffD (l.take i) D).length + 1) * 48 ≤ roomBytes := by have := diff_len (l.take i) D; rw [List.length_take] at this; unfold roomBytes; omega
      obtain ⟨u1, t1, ap, hK', hO'⟩ := appV_one (C := ndC) (hK.trans hKx) (hO.mono fun _ _ k => hKx.blk k) x 48 hb
      have ap : appV ((t.lowed.push (.row (Nd.av x) true)).push (.row (Nd.av x) true)) 6 48 (E e 7) (.sl (t.lowed.push (.row (Nd.av x) true)).next 0 1 (some 1) 6) = some (u1, t1) := ap
      obtain ⟨cn1, cn2, cn3, cn4, cn5, cn6⟩ := box_nd t.lowed x ((Keep.refl (t.lowed.push (.row (Nd.av x) true))).push (.row (Nd.av x) true))
      simp (config := {contextual := true, maxDischargeDepth := 12}) only [tb_at, he, e6, e20, e21, e22, hlt, hw2, a1_, a4_, i1, bn1, bn6, q4, ap, cn1, cn6, ↓bD, bU, forall_const, bS, implies_true, isNx, eq_self, ↓wp_cond, ↓wp_loop, ↓reduceIte, reduceCtorEq, Nat.reduceEqDiff, Nat.reduceLT, Nat.reduceAdd, Nat.reduceMul, bT, ↓sg_bsl, ↓st_callf, bX, List.cons_append, List.nil_append, ↓st_appf, bY, slcV_nils0N, slcV_sl0N, bslV_0N, bin_shr1, bsl_nd]
      refine ⟨n - 1, by omega, ?_⟩
      rw [hI]
      exact ⟨hK', i + 1, by omega, (by simp only [bE, Nat.reduceEqDiff, bN, Nat.reduceLT, he, e6, e20, e21, e22]; try rfl), (by simp only [bE, Nat.reduceEqDiff, bN, Nat.reduceLT, he, e6, e20, e21, e22]; try rfl), (by simp only [bE, Nat.reduceEqDiff, bN, Nat.reduceLT, he, e6, e20, e21, e22]; try rfl), (by simp only [bE, Nat.reduceEqDiff, bN, Nat.reduceLT, he, e6, e20, e21, e22]; try rfl), (by simp only [bE, Nat.reduceEqDiff, bN, Nat.reduceLT, he, e6, e20, e21, e22]; try rfl), by simp only [bE, Nat.reduceEqDiff, bN, Nat.reduceLT, he]; rw [hsn]; exact hO'⟩
  · obtain rfl : i = l.length := by omega
    rw [List.take_length] at hO
    simp (config := {contextual := true, maxDischargeDepth := 12}) only [tb_at, he, e6, e20, e21, e22, hlt, ↓bD, bU, forall_const, bS, implies_true, isNx, eq_self, ↓wp_cond, ↓wp_loop, ↓reduceIte, reduceCtorEq, Nat.reduceEqDiff, Nat.reduceLT, Nat.reduceAdd, Nat.reduceMul, bT, ↓sg_bsl, ↓st_callf, bX, List.cons_append, List.nil_append, ↓st_appf, bY, slcV_nils0N, slcV_sl0N, bslV_0N, bin_shr1, bsl_nd]
    first | exact ⟨hKt, _, rfl, hO.from hKl.next⟩ | exact ⟨_, rfl, hO.from hKl.next⟩ | exact ⟨hKt, _, ⟨rfl, rfl⟩, hO.from hKl.next⟩
theorem q_DgDiff {s : St} {vl : AV} {l : List Nd} (hr : read ndC s vl = some l) (hl : l.length ≤ 1000) {a1 b1 c1 d1 : AV} {D : DDg} (hD : DgR s a1 b1 c1 d1 D) (hDl : DgL D 1000) : ∃ v t, acall R_DgDiff false [vl, .agg [a1, b1, c1, d1]] s = some (.tup [v, .int .i64 (diffP l D).2], t) ∧ Own ndC s t v ((diffP l D).1) ∧ Keep s t := run_fresh n_DgDiff (by simp [a18]) (fun v => .tup [v, .int .i64 (diffP l D).2]) (fun _ _ _ _ _ => rfl) (w_DgDiff (s := lowd s) (read_low' hr) hl hD.low hDl)

theorem ground4t {a b c d e : AV} (h : (AV.tup [.agg [a, b, c, d], e]).ground = true) : a.plain = true ∧ b.plain = true ∧ c.plain = true ∧ d.plain = true := by
  simp [AV.ground, AV.plains, and_assoc] at h
  exact ⟨h.1, h.2.1, h.2.2.1, h.2.2.2.1⟩

theorem dgr_put {id : Nat} {n1 n2 n3 n4 x1 x2 x3 x4 : AV} {D : DDg} (h : t.get id = some (.row [.nils, .nils, .nils, .nils] true)) (hR : DgR t x1 x2 x3 x4 D) : DgR (t.put id (.row [n1, n2, n3, n4] true)) x1 x2 x3 x4 D := by
  have hlt := St.get_lt h
  have key : ∀ {v : AV} {l : List Dot}, read dotC t v = some l → read dotC (t.put id (.row [n1, n2, n3, n4] true)) v = some l := by
    intro v l hr
    cases v with
    | nils => exact hr
    | sl j off n cap z =>
      obtain ⟨rfl, hn, cs, own', hg, h1, h2, _⟩ := read_sl hr
      by_cases hj : j = id
      · subst hj
        rw [h] at hg
        injection hg with hg
        injection hg with hg _
        subst hg
        cases l with
        | nil =>
          simp at hn
          subst hn
          exact read_of (C := dotC) (n := 0) rfl (St.get_put_same h) (by simp at h1 ⊢; omega) (by simp [cells_nil])
        | cons d r =>
          exfalso
          have h22 : dotC.sz = 2 := rfl
          rw [h22] at h2 h1
          have hc : dotC.cells (d :: r) = .int .i64 d.r :: .int .i64 d.c :: dotC.cells r := by rw [cells_cons]; rfl
          rw [hc] at h2
          have hm : (AV.int .i64 d.r) ∈ [AV.nils, .nils, .nils, .nils] := by
            have : (AV.int .i64 d.r) ∈ (List.drop off [AV.nils, .nils, .nils, .nils]).take (n * 2) := by rw [h2]; simp
            exact List.mem_of_mem_drop (List.mem_of_mem_take this)
          simp at hm
      · exact read_of hn (by rw [St.get_put_ne _ _ hlt hj]; exact hg) h1 h2
    | _ => simp [AM.read] at hr
  exact ⟨key hR.r1, key hR.r2, key hR.r3, key hR.r4⟩
end Go.AM
end
/-
  Digests: Of, Within, Merge of the package. Own work of this project; in part printed by a program of it.
-/
section
set_option maxRecDepth 100000
set_option maxHeartbeats 8000000
namespace Go.AM
open Go Go.Proofs

variable {s t u : St}
noncomputable def R_DgOf : Con := runFn (tb [(48, R_SCtx), (49, R_SDead)]) a28
theorem s_DgOf : SoundAt Tryz.prog 28 R_DgOf := run_sound (tb_sound (l := [(48, R_SCtx), (49, R_SDead)]) (by simpa using ⟨s_SCtx, s_SDead⟩)) mixed Tryz.func28 k28 c28
theorem n_DgOf : noNxtC a28.body = true := by kernel_rfl
theorem w_DgOf {s : St} {vl : AV} {l : List Nd} (hr : read ndC s vl = some l) (hl : l.length ≤ 500) (hst : storeL l = true) : ∀ env : Env, elen env = a28.ntmps → (∀ i x_, [vl][i]? = some x_ → E env i = x_) → awp (tb [(48, R_SCtx), (49, R_SDead)]) a28.body (fun x e t => (∀ i, x ≠ .exit i) ∧ ∃ r, aresults e t a28.results = some r ∧ (∃ x1 x2 x3 x4, r = .tup [.agg [x1, x2, x3, x4], .int .i64 0] ∧ DgR t x1 x2 x3 x4 (dgOf l)) ∧ Keep s t) env s := by
  intro env hlen ha
  have h0 : E env 0 = _ := ha 0 _ rfl
  have hlen : elen env = _ := hlen
  simp only [a28] at hlen
  unfold a28
  try dsimp only [oO, oG]
  have hK1 : Keep s (s.push (.row [.nils, .nils, .nils, .nils] true)) := (Keep.refl s).push _
  obtain ⟨x1, x2, t1, q1, hC1, hK2⟩ := q_SCtx (hK1.read hr) (by omega) hst
  have hs1 := sto_ctx (show sameN t1.next t1 from rfl) (read_oneD hC1.1).2 (read_oneD hC1.2).2
  have hK3 : Keep t1 (t1.lowed.push (.row [x1, x2] true)) := (Keep.refl t1).lowed.push _
  have hg3 := St.get_push_new t1.lowed (.row [x1, x2] true)
  have hKa := (hK1.trans hK2).trans hK3
  obtain ⟨x3, x4, t2, q2, hC2, hK4⟩ := q_SDead (hKa.read hr) (by omega) hst
  have hs2 := sto_ctx (show sameN t2.next t2 from rfl) (read_oneD hC2.1).2 (read_oneD hC2.2).2
  have hK5 : Keep t2 (t2.lowed.push (.row [x3, x4] true)) := (Keep.refl t2).lowed.push _
  have hg5 := St.get_push_new t2.lowed (.row [x3, x4] true)
  have d1 : lod (t2.lowed.push (.row [x3, x4] true)) 2 (.ptr t1.next 0) = some (.agg [x1, x2]) := lod_row2 ((hK4.trans hK5).blk hg3)
  have d2 : ltN t1.next (t2.lowed.push (.row [x3, x4] true)) := St.get_lt ((hK4.trans hK5).blk hg3)
  have d3 : lod (t2.lowed.push (.row [x3, x4] true)) 2 (.ptr t2.next 0) = some (.agg [x3, x4]) := lod_row2 hg5
  have d4 : ltN t2.next (t2.lowed.push (.row [x3, x4] true)) := St.get_lt hg5
  have hC1' := hC1.keep ((hK3.trans hK4).trans hK5)
  have hC2' := hC2.keep hK5
  have hR : DgR (t2.lowed.push (.row [x3, x4] true)) x1 x2 x3 x4 (dgOf l) := ⟨hC1'.1, hC1'.2, hC2'.1, hC2'.2⟩
  have hKr : Keep (s.push (.row [.nils, .nils, .nils, .nils] true)) (t2.lowed.push (.row [x3, x4] true)) := (hK2.trans hK3).trans (hK4.trans hK5)
  have hbx := hKr.blk (St.get_push_new s (.row [.nils, .nils, .nils, .nils] true))
  have f0 := fstep_q0 (read_oneD hR.r1).2 (read_oneD hR.r2).2 .nils .nils .nils .nils
  have f2 := fstep_q2 (read_oneD hR.r3).2 (read_oneD hR.r4).2 x1 x2 .nils .nils
  have st4 := sto_row4 hbx hR
  have hlt := St.get_lt hbx
  obtain ⟨p1, p2, p3, p4, p5, p6, p7, p8⟩ := row4_lods (St.get_put_same (b := .row [x1, x2, x3, x4] true) hbx)
  have n20 : ((2 : Int) = 0) = False := eq_false (by decide)
  have n00 : ((0 : Int) = 0) = True := eq_true rfl
  simp (config := {contextual := true, maxDischargeDepth := 12}) only [tb_at, h0, hlen, q1, hs1, q2, hs2, d1, d2, d3, d4, n00, decide_true, Bool.not_true, bin_eqE, ap_build, fillP_nil, fillP_cons, f0, f2, st4, hlt, p1, p8, rc2, ↓bD, bU, forall_const, bS, implies_true, isNx, eq_self, ↓wp_cond, ↓wp_loop, ↓reduceIte, reduceCtorEq, Nat.reduceEqDiff, Nat.reduceLT, Nat.reduceAdd, Nat.reduceMul, bT, ↓sg_bsl, ↓st_callf, bX, List.cons_append, List.nil_append, ↓st_appf, bY, slcV_nils0N, slcV_sl0N, bslV_0N, bin_shr1, bsl_nd]
  exact ⟨_, rfl, ⟨x1, x2, x3, x4, rfl, dgr_put hbx hR⟩, (hK1.trans hKr).put _ (by simp) hlt⟩
theorem q_DgOf {s : St} {vl : AV} {l : List Nd} (hr : read ndC s vl = some l) (hl : l.length ≤ 500) (hst : storeL l = true) : ∃ x1 x2 x3 x4 t, acall R_DgOf false [vl] s = some (.tup [.agg [x1, x2, x3, x4], .int .i64 0], t) ∧ DgR t x1 x2 x3 x4 (dgOf l) ∧ Keep s t := by
  obtain ⟨r, t, h1, ⟨x1, x2, x3, x4, rfl, h2⟩, h3⟩ := run_any n_DgOf (args := [vl]) (Q := fun r t => ∃ x1 x2 x3 x4, r = .tup [.agg [x1, x2, x3, x4], .int .i64 0] ∧ DgR t x1 x2 x3 x4 (dgOf l)) (by simp [a28]) (fun r t t' hg hn ⟨x1, x2, x3, x4, e, h⟩ => ⟨x1, x2, x3, x4, e, h.mono fun id b hb => by rw [hg]; exact hb⟩) (fun r t hgr hk ⟨x1, x2, x3, x4, e, h⟩ => ⟨x1, x2, x3, x4, e, by
    rw [e] at hgr
    obtain ⟨g1, g2, g3, g4⟩ := ground4t hgr
    exact h.ground (plain_ground g1) (plain_ground g2) (plain_ground g3) (plain_ground g4)⟩) (w_DgOf (s := lowd s) (read_low' hr) hl hst)
  exact ⟨x1, x2, x3, x4, t, h1, h2, h3⟩

def dwinP (D G : DDg) : Bool × Int := if dgV D = true ∧ dgV G = true then (dgWithin D G, 0) else (false, 2)
theorem dwinP_ok {D G : DDg} (h : dgV D = true) (k : dgV G = true) : dwinP D G = (dgWithin D G, 0) := by unfold dwinP; rw [if_pos ⟨h, k⟩]
theorem dwinP_bad {D G : DDg} (h : ¬ (dgV D = true ∧ dgV G = true)) : dwinP D G = (false, 2) := by unfold dwinP; rw [if_neg h]
noncomputable def R_DgWithin : Con := runFn (tb [(12, R_DgValid), (36, R_CWithin)]) a43
theorem s_DgWithin : SoundAt Tryz.prog 43 R_DgWithin := run_sound (tb_sound (l := [(12, R_DgValid), (36, R_CWithin)]) (by simpa using ⟨s_DgValid, s_CWithin⟩)) mixed Tryz.func43 k43 c43
theorem n_DgWithin : noNxtC a43.body = true := by kernel_rfl
theorem w_DgWithin {s : St} {a1 b1 c1 d1 : AV} {D : DDg} (hD : DgR s a1 b1 c1 d1 D) (hDl : DgL D 1000) {a2 b2 c2 d2 : AV} {G : DDg} (hG : DgR s a2 b2 c2 d2 G) (hGl : DgL G 1000) : ∀ env : Env, elen env = a43.ntmps → (∀ i x_, [.agg [a1, b1, c1, d1], .agg [a2, b2, c2, d2]][i]? = some x_ → E env i = x_) → awp (tb [(12, R_DgValid), (36, R_CWithin)]) a43.body (fun x e t => (∀ i, x ≠ .exit i) ∧ aresults e t a43.results = some (.tup [.bool (dwinP D G).1, .int .i64 (dwinP D G).2]) ∧ Keep s t) env s := by
  intro env hlen ha
  have h0 : E env 0 = _ := ha 0 _ rfl
  have h1 : E env 1 = _ := ha 1 _ rfl
  have hlen : elen env = _ := hlen
  simp only [a43] at hlen
  unfold a43
  try dsimp only [oO, oG]
  have hbx := hD.box
  have hby := hG.box
  have hK2 : Keep s ((s.push (.row [a1, b1, c1, d1] true)).push (.row [a2, b2, c2, d2] true)) := ((Keep.refl s).push _).push _
  have hK12 : Keep (s.push (.row [a1, b1, c1, d1] true)) ((s.push (.row [a1, b1, c1, d1] true)).push (.row [a2, b2, c2, d2] true)) := (Keep.refl _).push _
  obtain ⟨p1, p2, p3, p4, p5, p6, p7, p8⟩ := box_dg s a1 b1 c1 d1 hK12
  obtain ⟨r1, r2, r3, r4, r5, r6, r7, r8⟩ := box_dg (s.push (.row [a1, b1, c1, d1] true)) a2 b2 c2 d2 (.refl _)
  have v1 := q_DgValid false (hD.keep hK2) hDl
  have v2 := q_DgValid false (hG.keep hK2) hGl
  have n20 : ((2 : Int) = 0) = False := eq_false (by decide)
  have n00 : ((0 : Int) = 0) = True := eq_true rfl
  cases h1s : dgV D
  · rw [h1s] at v1
    rw [dwinP_bad (by rw [h1s]; simp)]
    simp (config := {contextual := true, maxDischargeDepth := 12}) only [tb_at, h0, h1, hlen, v1, notV_bool, Bool.not_false, hbx, hby, p1, p2, p3, p4, p5, p6, p7, p8, r1, r2, r3, r4, r5, r6, r7, r8, ↓bD, bU, forall_const, bS, implies_true, isNx, eq_self, ↓wp_cond, ↓wp_loop, ↓reduceIte, reduceCtorEq, Nat.reduceEqDiff, Nat.reduceLT, Nat.reduceAdd, Nat.reduceMul, bT, ↓sg_bsl, ↓st_callf, bX, List.cons_append, List.nil_append, ↓st_appf, bY, slcV_nils0N, slcV_sl0N, bslV_0N, bin_shr1, bsl_nd]
    all_goals first | exact hK2 | skip
  rw [h1s] at v1
  cases h2s : dgV G
  · rw [h2s] at v2
    rw [dwinP_bad (by rw [h2s]; simp)]
    simp (config := {contextual := true, maxDischargeDepth := 12}) only [tb_at, h0, h1, hlen, v1, v2, notV_bool, Bool.not_true, Bool.not_false, hbx, hby, p1, p2, p3, p4, p5, p6, p7, p8, r1, r2, r3, r4, r5, r6, r7, r8, ↓bD, bU, forall_const, bS, implies_true, isNx, eq_self, ↓wp_cond, ↓wp_loop, ↓reduceIte, reduceCtorEq, Nat.reduceEqDiff, Nat.reduceLT, Nat.reduceAdd, Nat.reduceMul, bT, ↓sg_bsl, ↓st_callf, bX, List.cons_append, List.nil_append, ↓st_appf, bY, slcV_nils0N, slcV_sl0N, bslV_0N, bin_shr1, bsl_nd]
    all_goals first | exact hK2 | skip
  rw [h2s] at v2
  rw [dwinP_ok h1s h2s]
  obtain ⟨x1, x2, _⟩ := dgV_parts h1s
  obtain ⟨y1, y2, _⟩ := dgV_parts h2s
  have w1 := q_CWithin false (hK2.read hD.r1) (hK2.read hD.r2) (lim_80 hDl.l1) (lim_80 hDl.l2) (hK2.read hG.r1) (hK2.read hG.r2) (lim_80 hGl.l1) (lim_80 hGl.l2) (isC_cvalid x1) (isC_cvalid y1)
  have w2 := q_CWithin false (hK2.read hD.r3) (hK2.read hD.r4) (lim_80 hDl.l3) (lim_80 hDl.l4) (hK2.read hG.r3) (hK2.read hG.r4) (lim_80 hGl.l3) (lim_80 hGl.l4) (isC_cvalid x2) (isC_cvalid y2)
  rw [win_eq x1 y1] at w1
  rw [win_eq x2 y2] at w2
  unfold dgWithin
  cases hj : jwithin D.all G.all
  · rw [hj] at w1
    simp (config := {contextual := true, maxDischargeDepth := 12}) only [tb_at, h0, h1, hlen, v1, v2, w1, n00, decide_true, notV_bool, bin_eqE, Bool.not_true, Bool.not_false, Bool.false_and, hbx, hby, p1, p2, p3, p4, p5, p6, p7, p8, r1, r2, r3, r4, r5, r6, r7, r8, ↓bD, bU, forall_const, bS, implies_true, isNx, eq_self, ↓wp_cond, ↓wp_loop, ↓reduceIte, reduceCtorEq, Nat.reduceEqDiff, Nat.reduceLT, Nat.reduceAdd, Nat.reduceMul, bT, ↓sg_bsl, ↓st_callf, bX, List.cons_append, List.nil_append, ↓st_appf, bY, slcV_nils0N, slcV_sl0N, bslV_0N, bin_shr1, bsl_nd]
    all_goals first | exact hK2 | skip
  · rw [hj] at w1
    simp (config := {contextual := true, maxDischargeDepth := 12}) only [tb_at, h0, h1, hlen, v1, v2, w1, w2, n00, decide_true, notV_bool, bin_eqE, Bool.not_true, Bool.not_false, Bool.true_and, hbx, hby, p1, p2, p3, p4, p5, p6, p7, p8, r1, r2, r3, r4, r5, r6, r7, r8, ↓bD, bU, forall_const, bS, implies_true, isNx, eq_self, ↓wp_cond, ↓wp_loop, ↓reduceIte, reduceCtorEq, Nat.reduceEqDiff, Nat.reduceLT, Nat.reduceAdd, Nat.reduceMul, bT, ↓sg_bsl, ↓st_callf, bX, List.cons_append, List.nil_append, ↓st_appf, bY, slcV_nils0N, slcV_sl0N, bslV_0N, bin_shr1, bsl_nd]
    all_goals first | exact hK2 | skip
theorem q_DgWithin (cl : Bool) {s : St} {a1 b1 c1 d1 : AV} {D : DDg} (hD : DgR s a1 b1 c1 d1 D) (hDl : DgL D 1000) {a2 b2 c2 d2 : AV} {G : DDg} (hG : DgR s a2 b2 c2 d2 G) (hGl : DgL G 1000) : acall R_DgWithin cl [.agg [a1, b1, c1, d1], .agg [a2, b2, c2, d2]] s = some (.tup [.bool (dwinP D G).1, .int .i64 (dwinP D G).2], s) := run_same n_DgWithin (by simp [a43]) rfl (w_DgWithin (s := lowd s) hD.low hDl hG.low hGl)

def dmerP (D G : DDg) : DDg × Int := if dgV D = true ∧ dgV G = true then (dgMerge D G, 0) else (⟨⟨[], []⟩, ⟨[], []⟩⟩, 2)
theorem dmerP_ok {D G : DDg} (h : dgV D = true) (k : dgV G = true) : dmerP D G = (dgMerge D G, 0) := by unfold dmerP; rw [if_pos ⟨h, k⟩]
theorem dmerP_bad {D G : DDg} (h : ¬ (dgV D = true ∧ dgV G = true)) : dmerP D G = (⟨⟨[], []⟩, ⟨[], []⟩⟩, 2) := by unfold dmerP; rw [if_neg h]
noncomputable def R_DgMerge : Con := runFn (tb [(12, R_DgValid), (56, R_CUnion)]) a44
theorem s_DgMerge : SoundAt Tryz.prog 44 R_DgMerge := run_sound (tb_sound (l := [(12, R_DgValid), (56, R_CUnion)]) (by simpa using ⟨s_DgValid, s_CUnion⟩)) mixed Tryz.func44 k44 c44
theorem n_DgMerge : noNxtC a44.body = true := by kernel_rfl
theorem w_DgMerge_bad {s : St} {a1 b1 c1 d1 : AV} {D : DDg} (hD : DgR s a1 b1 c1 d1 D) (hDl : DgL D 1000) {a2 b2 c2 d2 : AV} {G : DDg} (hG : DgR s a2 b2 c2 d2 G) (hGl : DgL G 1000) (hb : ¬ (dgV D = true ∧ dgV G = true)) : ∀ env : Env, elen env = a44.ntmps → (∀ i x_, [.agg [a1, b1, c1, d1], .agg [a2, b2, c2, d2]][i]? = some x_ → E env i = x_) → awp (tb [(12, R_DgValid), (56, R_CUnion)]) a44.body (fun x e t => (∀ i, x ≠ .exit i) ∧ aresults e t a44.results = some (.tup [.agg [.nils, .nils, .nils, .nils], .int .i64 2]) ∧ Keep s t) env s := by
  intro env hlen ha
  have h0 : E env 0 = _ := ha 0 _ rfl
  have h1 : E env 1 = _ := ha 1 _ rfl
  have hlen : elen env = _ := hlen
  simp only [a44] at hlen
  unfold a44
  try dsimp only [oO, oG]
  have hbx := hD.box
  have hby := hG.box
  have hK2 : Keep s (((s.push (.row [a1, b1, c1, d1] true)).push (.row [a2, b2, c2, d2] true)).push (.row [.nils, .nils, .nils, .nils] true)) := (((Keep.refl s).push _).push _).push _
  have hK12 : Keep (s.push (.row [a1, b1, c1, d1] true)) (((s.push (.row [a1, b1, c1, d1] true)).push (.row [a2, b2, c2, d2] true)).push (.row [.nils, .nils, .nils, .nils] true)) := ((Keep.refl _).push _).push _
  have hK22 : Keep ((s.push (.row [a1, b1, c1, d1] true)).push (.row [a2, b2, c2, d2] true)) (((s.push (.row [a1, b1, c1, d1] true)).push (.row [a2, b2, c2, d2] true)).push (.row [.nils, .nils, .nils, .nils] true)) := (Keep.refl _).push _
  obtain ⟨p1, p2, p3, p4, p5, p6, p7, p8⟩ := box_dg s a1 b1 c1 d1 hK12
  obtain ⟨r1, r2, r3, r4, r5, r6, r7, r8⟩ := box_dg (s.push (.row [a1, b1, c1, d1] true)) a2 b2 c2 d2 hK22
  have hb3 := St.get_push_new ((s.push (.row [a1, b1, c1, d1] true)).push (.row [a2, b2, c2, d2] true)) (.row [.nils, .nils, .nils, .nils] true)
  have v1 := q_DgValid false (hD.keep hK2) hDl
  have v2 := q_DgValid false (hG.keep hK2) hGl
  have st4 := sto_dg (show sameN ((s.push (.row [a1, b1, c1, d1] true)).push (.row [a2, b2, c2, d2] true)).next ((s.push (.row [a1, b1, c1, d1] true)).push (.row [a2, b2, c2, d2] true)) from rfl) (DgR.nils (t := s))
  obtain ⟨s1_, s2_, s3_, s4_, s5_, s6_, s7_, s8_⟩ := row4_lods (St.get_push_new ((s.push (.row [a1, b1, c1, d1] true)).push (.row [a2, b2, c2, d2] true)).lowed (.row [.nils, .nils, .nils, .nils] true))
  have s1_ : lod (((s.push (.row [a1, b1, c1, d1] true)).push (.row [a2, b2, c2, d2] true)).lowed.push (.row [.nils, .nils, .nils, .nils] true)) 4 (.ptr ((s.push (.row [a1, b1, c1, d1] true)).push (.row [a2, b2, c2, d2] true)).next 0) = some (.agg [.nils, .nils, .nils, .nils]) := s1_
  have s8_ : ltN ((s.push (.row [a1, b1, c1, d1] true)).push (.row [a2, b2, c2, d2] true)).next (((s.push (.row [a1, b1, c1, d1] true)).push (.row [a2, b2, c2, d2] true)).lowed.push (.row [.nils, .nils, .nils, .nils] true)) := s8_
  have hKb : Keep s (((s.push (.row [a1, b1, c1, d1] true)).push (.row [a2, b2, c2, d2] true)).lowed.push (.row [.nils, .nils, .nils, .nils] true)) := (((Keep.refl s).push _).push _).lowed.push _
  have n20 : ((2 : Int) = 0) = False := eq_false (by decide)
  have n00 : ((0 : Int) = 0) = True := eq_true rfl
  cases h1s : dgV D
  · rw [h1s] at v1
    simp (config := {contextual := true, maxDischargeDepth := 12}) only [tb_at, h0, h1, hlen, v1, notV_bool, Bool.not_false, ap_build, fillP_nil, st4, s1_, s8_, rc2, hbx, hby, p1, p2, p3, p4, p5, p6, p7, p8, r1, r2, r3, r4, r5, r6, r7, r8, ↓bD, bU, forall_const, bS, implies_true, isNx, eq_self, ↓wp_cond, ↓wp_loop, ↓reduceIte, reduceCtorEq, Nat.reduceEqDiff, Nat.reduceLT, Nat.reduceAdd, Nat.reduceMul, bT, ↓sg_bsl, ↓st_callf, bX, List.cons_append, List.nil_append, ↓st_appf, bY, slcV_nils0N, slcV_sl0N, bslV_0N, bin_shr1, bsl_nd]
    all_goals first | exact hKb | skip
  rw [h1s] at v1
  have h2s : dgV G = false := by
    cases h : dgV G
    · rfl
    · exact absurd ⟨h1s, h⟩ hb
  rw [h2s] at v2
  simp (config := {contextual := true, maxDischargeDepth := 12}) only [tb_at, h0, h1, hlen, v1, v2, notV_bool, Bool.not_true, Bool.not_false, ap_build, fillP_nil, st4, s1_, s8_, rc2, hbx, hby, p1, p2, p3, p4, p5, p6, p7, p8, r1, r2, r3, r4, r5, r6, r7, r8, ↓bD, bU, forall_const, bS, implies_true, isNx, eq_self, ↓wp_cond, ↓wp_loop, ↓reduceIte, reduceCtorEq, Nat.reduceEqDiff, Nat.reduceLT, Nat.reduceAdd, Nat.reduceMul, bT, ↓sg_bsl, ↓st_callf, bX, List.cons_append, List.nil_append, ↓st_appf, bY, slcV_nils0N, slcV_sl0N, bslV_0N, bin_shr1, bsl_nd]
  all_goals first | exact hKb | skip
theorem q_DgMerge_bad (cl : Bool) {s : St} {a1 b1 c1 d1 : AV} {D : DDg} (hD : DgR s a1 b1 c1 d1 D) (hDl : DgL D 1000) {a2 b2 c2 d2 : AV} {G : DDg} (hG : DgR s a2 b2 c2 d2 G) (hGl : DgL G 1000) (hb : ¬ (dgV D = true ∧ dgV G = true)) : acall R_DgMerge cl [.agg [a1, b1, c1, d1], .agg [a2, b2, c2, d2]] s = some (.tup [.agg [.nils, .nils, .nils, .nils], .int .i64 2], s) := run_same n_DgMerge (by simp [a44]) rfl (w_DgMerge_bad (s := lowd s) hD.low hDl hG.low hGl hb)
theorem w_DgMerge {s : St} {a1 b1 c1 d1 : AV} {D : DDg} (hD : DgR s a1 b1 c1 d1 D) (hDl : DgL D 1000) {a2 b2 c2 d2 : AV} {G : DDg} (hG : DgR s a2 b2 c2 d2 G) (hGl : DgL G 1000) (hvD : dgV D = true) (hvG : dgV G = true) : ∀ env : Env, elen env = a44.ntmps → (∀ i x_, [.agg [a1, b1, c1, d1], .agg [a2, b2, c2, d2]][i]? = some x_ → E env i = x_) → awp (tb [(12, R_DgValid), (56, R_CUnion)]) a44.body (fun x e t => (∀ i, x ≠ .exit i) ∧ ∃ r, aresults e t a44.results = some r ∧ (∃ x1 x2 x3 x4, r = .tup [.agg [x1, x2, x3, x4], .int .i64 0] ∧ DgR t x1 x2 x3 x4 (dgMerge D G)) ∧ Keep s t) env s := by
  intro env hlen ha
  have h0 : E env 0 = _ := ha 0 _ rfl
  have h1 : E env 1 = _ := ha 1 _ rfl
  have hlen : elen env = _ := hlen
  simp only [a44] at hlen
  unfold a44
  try dsimp only [oO, oG]
  have hbx := hD.box
  have hby := hG.box
  have hK2 : Keep s (((s.push (.row [a1, b1, c1, d1] true)).push (.row [a2, b2, c2, d2] true)).push (.row [.nils, .nils, .nils, .nils] true)) := (((Keep.refl s).push _).push _).push _
  have hK12 : Keep (s.push (.row [a1, b1, c1, d1] true)) (((s.push (.row [a1, b1, c1, d1] true)).push (.row [a2, b2, c2, d2] true)).push (.row [.nils, .nils, .nils, .nils] true)) := ((Keep.refl _).push _).push _
  have hK22 : Keep ((s.push (.row [a1, b1, c1, d1] true)).push (.row [a2, b2, c2, d2] true)) (((s.push (.row [a1, b1, c1, d1] true)).push (.row [a2, b2, c2, d2] true)).push (.row [.nils, .nils, .nils, .nils] true)) := (Keep.refl _).push _
  obtain ⟨p1, p2, p3, p4, p5, p6, p7, p8⟩ := box_dg s a1 b1 c1 d1 hK12
  obtain ⟨r1, r2, r3, r4, r5, r6, r7, r8⟩ := box_dg (s.push (.row [a1, b1, c1, d1] true)) a2 b2 c2 d2 hK22
  have hb3 := St.get_push_new ((s.push (.row [a1, b1, c1, d1] true)).push (.row [a2, b2, c2, d2] true)) (.row [.nils, .nils, .nils, .nils] true)
  have v1 := q_DgValid false (hD.keep hK2) hDl
  have v2 := q_DgValid false (hG.keep hK2) hGl
  rw [hvD] at v1
  rw [hvG] at v2
  obtain ⟨z1, z2, _⟩ := dgV_parts hvD
  obtain ⟨y1, y2, _⟩ := dgV_parts hvG
  obtain ⟨x1, x2, t1, q1, hC1, hKa⟩ := q_CUnion (hK2.read hD.r1) (hK2.read hD.r2) (lim_80 hDl.l1) (lim_80 hDl.l2) (hK2.read hG.r1) (hK2.read hG.r2) (lim_80 hGl.l1) (lim_80 hGl.l2) (isC_cvalid z1) (isC_cvalid y1)
  have hs1 := sto_ctx (show sameN t1.next t1 from rfl) (read_oneD hC1.1).2 (read_oneD hC1.2).2
  have hK3 : Keep t1 (t1.lowed.push (.row [x1, x2] true)) := (Keep.refl t1).lowed.push _
  have hg3 := St.get_push_new t1.lowed (.row [x1, x2] true)
  have hKb := (hK2.trans hKa).trans hK3
  obtain ⟨P1, P2, P3, P4, P5, P6, P7, P8⟩ := box_dg s a1 b1 c1 d1 ((hK12.trans hKa).trans hK3)
  obtain ⟨R1, R2, R3, R4, R5, R6, R7, R8⟩ := box_dg (s.push (.row [a1, b1, c1, d1] true)) a2 b2 c2 d2 ((hK22.trans hKa).trans hK3)
  obtain ⟨x3, x4, t2, q2, hC2, hK4⟩ := q_CUnion (hKb.read hD.r3) (hKb.read hD.r4) (lim_80 hDl.l3) (lim_80 hDl.l4) (hKb.read hG.r3) (hKb.read hG.r4) (lim_80 hGl.l3) (lim_80 hGl.l4) (isC_cvalid z2) (isC_cvalid y2)
  have hs2 := sto_ctx (show sameN t2.next t2 from rfl) (read_oneD hC2.1).2 (read_oneD hC2.2).2
  have hK5 : Keep t2 (t2.lowed.push (.row [x3, x4] true)) := (Keep.refl t2).lowed.push _
  have hg5 := St.get_push_new t2.lowed (.row [x3, x4] true)
  have e1 : lod (t2.lowed.push (.row [x3, x4] true)) 2 (.ptr t1.next 0) = some (.agg [x1, x2]) := lod_row2 ((hK4.trans hK5).blk hg3)
  have e2 : ltN t1.next (t2.lowed.push (.row [x3, x4] true)) := St.get_lt ((hK4.trans hK5).blk hg3)
  have e3 : lod (t2.lowed.push (.row [x3, x4] true)) 2 (.ptr t2.next 0) = some (.agg [x3, x4]) := lod_row2 hg5
  have e4 : ltN t2.next (t2.lowed.push (.row [x3, x4] true)) := St.get_lt hg5
  have hC1' := hC1.keep ((hK3.trans hK4).trans hK5)
  have hC2' := hC2.keep hK5
  have hR : DgR (t2.lowed.push (.row [x3, x4] true)) x1 x2 x3 x4 (dgMerge D G) := ⟨hC1'.1, hC1'.2, hC2'.1, hC2'.2⟩
  have hKr : Keep (((s.push (.row [a1, b1, c1, d1] true)).push (.row [a2, b2, c2, d2] true)).push (.row [.nils, .nils, .nils, .nils] true)) (t2.lowed.push (.row [x3, x4] true)) := (hKa.trans hK3).trans (hK4.trans hK5)
  have hbx4 := hKr.blk hb3
  have f0 := fstep_q0 (read_oneD hR.r1).2 (read_oneD hR.r2).2 .nils .nils .nils .nils
  have f2 := fstep_q2 (read_oneD hR.r3).2 (read_oneD hR.r4).2 x1 x2 .nils .nils
  have st4 := sto_row4 hbx4 hR
  have hlt := St.get_lt hbx4
  obtain ⟨s1_, s2_, s3_, s4_, s5_, s6_, s7_, s8_⟩ := row4_lods (St.get_put_same (b := .row [x1, x2, x3, x4] true) hbx4)
  have n20 : ((2 : Int) = 0) = False := eq_false (by decide)
  have n00 : ((0 : Int) = 0) = True := eq_true rfl
  simp (config := {contextual := true, maxDischargeDepth := 12}) only [tb_at, h0, h1, hlen, v1, v2, q1, hs1, q2, hs2, e1, e2, e3, e4, P1, P2, P3, P8, R1, R2, R3, R8, n00, decide_true, notV_bool, Bool.not_true, bin_eqE, ap_build, fillP_nil, fillP_cons, f0, f2, st4, hlt, s1_, s8_, rc2, hbx, hby, p1, p2, p3, p4, p5, p6, p7, p8, r1, r2, r3, r4, r5, r6, r7, r8, ↓bD, bU, forall_const, bS, implies_true, isNx, eq_self, ↓wp_cond, ↓wp_loop, ↓reduceIte, reduceCtorEq, Nat.reduceEqDiff, Nat.reduceLT, Nat.reduceAdd, Nat.reduceMul, bT, ↓sg_bsl, ↓st_callf, bX, List.cons_append, List.nil_append, ↓st_appf, bY, slcV_nils0N, slcV_sl0N, bslV_0N, bin_shr1, bsl_nd]
  exact ⟨_, rfl, ⟨x1, x2, x3, x4, rfl, dgr_put hbx4 hR⟩, (hK2.trans hKr).put _ (by simp; omega) hlt⟩
theorem q_DgMerge {s : St} {a1 b1 c1 d1 : AV} {D : DDg} (hD : DgR s a1 b1 c1 d1 D) (hDl : DgL D 1000) {a2 b2 c2 d2 : AV} {G : DDg} (hG : DgR s a2 b2 c2 d2 G) (hGl : DgL G 1000) (hvD : dgV D = true) (hvG : dgV G = true) : ∃ x1 x2 x3 x4 t, acall R_DgMerge false [.agg [a1, b1, c1, d1], .agg [a2, b2, c2, d2]] s = some (.tup [.agg [x1, x2, x3, x4], .int .i64 0], t) ∧ DgR t x1 x2 x3 x4 (dgMerge D G) ∧ Keep s t := by
  obtain ⟨r, t, h1, ⟨x1, x2, x3, x4, rfl, h2⟩, h3⟩ := run_any n_DgMerge (args := [.agg [a1, b1, c1, d1], .agg [a2, b2, c2, d2]]) (Q := fun r t => ∃ x1 x2 x3 x4, r = .tup [.agg [x1, x2, x3, x4], .int .i64 0] ∧ DgR t x1 x2 x3 x4 (dgMerge D G)) (by simp [a44]) (fun r t t' hg hn ⟨x1, x2, x3, x4, e, h⟩ => ⟨x1, x2, x3, x4, e, h.mono fun id b hb => by rw [hg]; exact hb⟩) (fun r t hgr hk ⟨x1, x2, x3, x4, e, h⟩ => ⟨x1, x2, x3, x4, e, by
    rw [e] at hgr
    obtain ⟨g1, g2, g3, g4⟩ := ground4t hgr
    exact h.ground (plain_ground g1) (plain_ground g2) (plain_ground g3) (plain_ground g4)⟩) (w_DgMerge (s := lowd s) hD.low hDl hG.low hGl hvD hvG)
  exact ⟨x1, x2, x3, x4, t, h1, h2, h3⟩

end Go.AM
end
/-
  Contracts of digests that the kernel runs. Own work of this project; in part printed by a program of it.
-/
section
set_option maxRecDepth 100000
set_option maxHeartbeats 8000000
namespace Go.AM
open Go Go.Proofs

variable {s t u : St}

def rdDg (s : St) (a b c d : AV) : Option DDg := match AM.read dotC s a, AM.read dotC s b, AM.read dotC s c, AM.read dotC s d with
  | some v1, some c1, some v2, some c2 => if v1.length ≤ 1000 ∧ c1.length ≤ 1000 ∧ v2.length ≤ 1000 ∧ c2.length ≤ 1000 then some ⟨⟨v1, c1⟩, ⟨v2, c2⟩⟩ else none
  | _, _, _, _ => none
theorem rdDg_some {s : St} {a b c d : AV} {D : DDg} (h : rdDg s a b c d = some D) : DgR s a b c d D ∧ DgL D 1000 := by
  unfold rdDg at h
  split at h
  · split at h
    · rename_i h1 h2 h3 h4 hl
      injection h with h
      subst h
      exact ⟨⟨h1, h2, h3, h4⟩, ⟨hl.1, hl.2.1, hl.2.2.1, hl.2.2.2⟩⟩
    · cases h
  · cases h
def cDg (f : DDg → AV) : Con := fun xs s => match xs with
  | [.agg [a, b, c, d]] => (rdDg s a b c d).map fun D => (f D, s.lowed)
  | _ => none
def cDgDg (f : DDg → DDg → AV) : Con := fun xs s => match xs with
  | [.agg [a, b, c, d], .agg [a', b', c', d']] => match rdDg s a b c d, rdDg s a' b' c' d' with
    | some D, some G => some (f D G, s.lowed)
    | _, _ => none
  | _ => none
theorem cDg_some {f : DDg → AV} {xs : List AV} {s s' : St} {r : AV} (h : cDg f xs s = some (r, s')) : ∃ a b c d D, xs = [.agg [a, b, c, d]] ∧ DgR s a b c d D ∧ DgL D 1000 ∧ r = f D ∧ s' = s.lowed := by
  unfold cDg at h
  split at h
  · obtain ⟨D, h1, h2⟩ := Option.map_eq_some_iff.1 h
    obtain ⟨rfl, rfl⟩ := Prod.mk.inj h2
    exact ⟨_, _, _, _, D, rfl, (rdDg_some h1).1, (rdDg_some h1).2, rfl, rfl⟩
  · cases h
theorem cDgDg_some {f : DDg → DDg → AV} {xs : List AV} {s s' : St} {r : AV} (h : cDgDg f xs s = some (r, s')) : ∃ a b c d a' b' c' d' D G, xs = [.agg [a, b, c, d], .agg [a', b', c', d']] ∧ DgR s a b c d D ∧ DgL D 1000 ∧ DgR s a' b' c' d' G ∧ DgL G 1000 ∧ r = f D G ∧ s' = s.lowed := by
  unfold cDgDg at h
  split at h
  · split at h
    · rename_i D G h1 h2
      injection h with h
      obtain ⟨rfl, rfl⟩ := Prod.mk.inj h
      exact ⟨_, _, _, _, _, _, _, _, D, G, rfl, (rdDg_some h1).1, (rdDg_some h1).2, (rdDg_some h2).1, (rdDg_some h2).2, rfl, rfl⟩
    · cases h
  · cases h
theorem k_DgValid : SoundAt Tryz.prog 12 (cDg fun D => .bool (dgV D)) :=
  con_keep (tb_sound (l := [(36, R_CWithin), (37, R_IsC)]) (by simpa using ⟨s_CWithin, s_IsC⟩)) mixed Tryz.func12 k12 c12 fun args s r s' h => by
    obtain ⟨a, b, c, d, D, rfl, hD, hDl, rfl, rfl⟩ := cDg_some h
    exact ⟨rfl, rfl, by simp [a12], fun env hlen ha => w_DgValid hD hDl env hlen ha⟩
theorem k_DgWithin : SoundAt Tryz.prog 43 (cDgDg fun D G => .tup [.bool (dwinP D G).1, .int .i64 (dwinP D G).2]) :=
  con_keep (tb_sound (l := [(12, R_DgValid), (36, R_CWithin)]) (by simpa using ⟨s_DgValid, s_CWithin⟩)) mixed Tryz.func43 k43 c43 fun args s r s' h => by
    obtain ⟨a, b, c, d, a', b', c', d', D, G, rfl, hD, hDl, hG, hGl, rfl, rfl⟩ := cDgDg_some h
    exact ⟨rfl, rfl, by simp [a43], fun env hlen ha => w_DgWithin hD hDl hG hGl env hlen ha⟩
theorem k_RgSame : SoundAt Tryz.prog 26 (cDgDg fun D G => .bool (decide (D = G))) :=
  con_keep (tb_sound (l := [(47, R_JSameC)]) (by simpa using s_JSameC)) mixed Tryz.func26 k26 c26 fun args s r s' h => by
    obtain ⟨a, b, c, d, a', b', c', d', D, G, rfl, hD, hDl, hG, hGl, rfl, rfl⟩ := cDgDg_some h
    exact ⟨rfl, rfl, by simp [a26], fun env hlen ha => w_RgSame hD hDl hG hGl env hlen ha⟩

end Go.AM
end
/-
  What a closed run by the kernel shows. Own work of this project.
-/
section
namespace Go.AM
open Go

def isTrue : Option (AV × St) → Bool
  | some (.bool true, _) => true
  | _ => false
theorem isTrue_ex {o : Option (AV × St)} (h : isTrue o = true) : ∃ s, o = some (.bool true, s) := by
  unfold isTrue at h
  split at h
  · exact ⟨_, rfl⟩
  · cases h
end Go.AM
end
/-
  The chapter's examples: 'known' answers true. Own work of this project; in part printed by a program of it.
-/
section
set_option maxRecDepth 100000
set_option maxHeartbeats 4000000
namespace Go.AM
open Go Go.Proofs

def tabK : Nat → AFun
  | 8 => .code a8
  | 31 => .code a31
  | 10 => .code a10
  | 15 => .code a15
  | 23 => .code a23
  | 21 => .code a21
  | 28 => .code a28
  | 42 => .code a42
  | 63 => .code a63
  | 18 => .code a18
  | 44 => .code a44
  | 20 => .code a20
  | 56 => .code a56
  | 64 => .code a64
  | 68 => .code a68
  | 94 => .code a94
  | 57 => .code a57
  | 60 => .code a60
  | 87 => .code a87
  | 107 => .code a107
  | 85 => .code a85
  | 59 => .code a59
  | 84 => .code a84
  | 82 => .code a82
  | 91 => .code a91
  | 79 => .code a79
  | 106 => .code a106
  | 92 => .code a92
  | 97 => .code a97
  | 93 => .code a93
  | 86 => .code a86
  | 113 => .code a113
  | 80 => .code a80
  | 102 => .code a102
  | 50 => .code a50
  | 103 => .code a103
  | 62 => .code a62
  | 48 => .code a48
  | 49 => .code a49
  | 72 => .code a72
  | 69 => .code a69
  | 90 => .code a90
  | 76 => .code a76
  | 73 => .code a73
  | 98 => .code a98
  | 109 => .code a109
  | 118 => .code a118
  | 81 => .code a81
  | 71 => .code a71
  | 61 => .code a61
  | 105 => .code a105
  | 89 => .code a89
  | 88 => .code a88
  | 83 => .code a83
  | 95 => .code a95
  | 104 => .code a104
  | 101 => .code a101
  | 114 => .code a114
  | 112 => .code a112
  | 120 => .code a120
  | 119 => .code a119
  | 108 => .code a108
  | 115 => .code a115
  | 70 => .code a70
  | 74 => .code a74
  | 75 => .code a75
  | 96 => .code a96
  | 100 => .con (conF dotC (pL dotC gMade))
  | 116 => .con (cPdq 50 (fun _ => true) sortD)
  | 117 => .con (cBits)
  | 41 => .con (conL ndC fValid)
  | 12 => .con (cDg fun D => .bool (dgV D))
  | 43 => .con (cDgDg fun D G => .tup [.bool (dwinP D G).1, .int .i64 (dwinP D G).2])
  | 26 => .con (cDgDg fun D G => .bool (decide (D = G)))
  | _ => .no
theorem tabK_ok : ∀ f, FunOk Tryz.prog f (tabK f) := by
  intro f
  unfold tabK
  split
  · exact ⟨k8, _, Tryz.func8, c8⟩
  · exact ⟨k31, _, Tryz.func31, c31⟩
  · exact ⟨k10, _, Tryz.func10, c10⟩
  · exact ⟨k15, _, Tryz.func15, c15⟩
  · exact ⟨k23, _, Tryz.func23, c23⟩
  · exact ⟨k21, _, Tryz.func21, c21⟩
  · exact ⟨k28, _, Tryz.func28, c28⟩
  · exact ⟨k42, _, Tryz.func42, c42⟩
  · exact ⟨k63, _, Tryz.func63, c63⟩
  · exact ⟨k18, _, Tryz.func18, c18⟩
  · exact ⟨k44, _, Tryz.func44, c44⟩
  · exact ⟨k20, _, Tryz.func20, c20⟩
  · exact ⟨k56, _, Tryz.func56, c56⟩
  · exact ⟨k64, _, Tryz.func64, c64⟩
  · exact ⟨k68, _, Tryz.func68, c68⟩
  · exact ⟨k94, _, Tryz.func94, c94⟩
  · exact ⟨k57, _, Tryz.func57, c57⟩
  · exact ⟨k60, _, Tryz.func60, c60⟩
  · exact ⟨k87, _, Tryz.func87, c87⟩
  · exact ⟨k107, _, Tryz.func107, c107⟩
  · exact ⟨k85, _, Tryz.func85, c85⟩
  · exact ⟨k59, _, Tryz.func59, c59⟩
  · exact ⟨k84, _, Tryz.func84, c84⟩
  · exact ⟨k82, _, Tryz.func82, c82⟩
  · exact ⟨k91, _, Tryz.func91, c91⟩
  · exact ⟨k79, _, Tryz.func79, c79⟩
  · exact ⟨k106, _, Tryz.func106, c106⟩
  · exact ⟨k92, _, Tryz.func92, c92⟩
  · exact ⟨k97, _, Tryz.func97, c97⟩
  · exact ⟨k93, _, Tryz.func93, c93⟩
  · exact ⟨k86, _, Tryz.func86, c86⟩
  · exact ⟨k113, _, Tryz.func113, c113⟩
  · exact ⟨k80, _, Tryz.func80, c80⟩
  · exact ⟨k102, _, Tryz.func102, c102⟩
  · exact ⟨k50, _, Tryz.func50, c50⟩
  · exact ⟨k103, _, Tryz.func103, c103⟩
  · exact ⟨k62, _, Tryz.func62, c62⟩
  · exact ⟨k48, _, Tryz.func48, c48⟩
  · exact ⟨k49, _, Tryz.func49, c49⟩
  · exact ⟨k72, _, Tryz.func72, c72⟩
  · exact ⟨k69, _, Tryz.func69, c69⟩
  · exact ⟨k90, _, Tryz.func90, c90⟩
  · exact ⟨k76, _, Tryz.func76, c76⟩
  · exact ⟨k73, _, Tryz.func73, c73⟩
  · exact ⟨k98, _, Tryz.func98, c98⟩
  · exact ⟨k109, _, Tryz.func109, c109⟩
  · exact ⟨k118, _, Tryz.func118, c118⟩
  · exact ⟨k81, _, Tryz.func81, c81⟩
  · exact ⟨k71, _, Tryz.func71, c71⟩
  · exact ⟨k61, _, Tryz.func61, c61⟩
  · exact ⟨k105, _, Tryz.func105, c105⟩
  · exact ⟨k89, _, Tryz.func89, c89⟩
  · exact ⟨k88, _, Tryz.func88, c88⟩
  · exact ⟨k83, _, Tryz.func83, c83⟩
  · exact ⟨k95, _, Tryz.func95, c95⟩
  · exact ⟨k104, _, Tryz.func104, c104⟩
  · exact ⟨k101, _, Tryz.func101, c101⟩
  · exact ⟨k114, _, Tryz.func114, c114⟩
  · exact ⟨k112, _, Tryz.func112, c112⟩
  · exact ⟨k120, _, Tryz.func120, c120⟩
  · exact ⟨k119, _, Tryz.func119, c119⟩
  · exact ⟨k108, _, Tryz.func108, c108⟩
  · exact ⟨k115, _, Tryz.func115, c115⟩
  · exact ⟨k70, _, Tryz.func70, c70⟩
  · exact ⟨k74, _, Tryz.func74, c74⟩
  · exact ⟨k75, _, Tryz.func75, c75⟩
  · exact ⟨k96, _, Tryz.func96, c96⟩
  · exact s_VMade
  · exact s_pdqSSortD
  · exact s_bits
  · exact s_JValid
  · exact k_DgValid
  · exact k_DgWithin
  · exact k_RgSame
  · trivial
theorem known_run : isTrue (acalls tabK 400 20 8 [] St.empty) = true := by kernel_rfl
theorem s_known : SoundAt Tryz.prog 8 (closed [] (.bool true)) := by
  obtain ⟨s, hs⟩ := isTrue_ex known_run
  exact closed_sound (acalls_sound mixed tabK_ok 20 _) hs rfl
end Go.AM
end
/-
  The helpers of the statements of layer 16. Own work of this project; in part printed by a program of it.
-/
section
set_option maxRecDepth 100000
set_option maxHeartbeats 8000000
namespace Go.AM
open Go Go.Proofs

variable {s t u : St}

theorem dgL_nil {n : Nat} : DgL ⟨⟨[], []⟩, ⟨[], []⟩⟩ n := ⟨Nat.zero_le _, Nat.zero_le _, Nat.zero_le _, Nat.zero_le _⟩
noncomputable def R_diffs : Con := runFn (tb [(18, R_DgDiff), (20, conLL ndC ndC fSame)]) a15
theorem s_diffs : SoundAt Tryz.prog 15 R_diffs := run_sound (tb_sound (l := [(18, R_DgDiff), (20, conLL ndC ndC fSame)]) (by simpa using ⟨s_DgDiff, s_Same⟩)) mixed Tryz.func15 k15 c15
theorem n_diffs : noNxtC a15.body = true := by kernel_rfl
theorem w_diffs {s : St} {vl : AV} {l : List Nd} (hr : read ndC s vl = some l) (hl : l.length ≤ 1000) {a1 b1 c1 d1 : AV} {D : DDg} (hD : DgR s a1 b1 c1 d1 D) (hDl : DgL D 1000) {wl : AV} {m : List Nd} (hm : read ndC s wl = some m) (hml : m.length ≤ 1000) (c : Int) : ∀ env : Env, elen env = a15.ntmps → (∀ i x_, [vl, .agg [a1, b1, c1, d1], wl, .int .i64 c][i]? = some x_ → E env i = x_) → awp (tb [(18, R_DgDiff), (20, conLL ndC ndC fSame)]) a15.body (fun x e t => (∀ i, x ≠ .exit i) ∧ aresults e t a15.results = some (.bool (decide ((diffP l D).1 = m) && decide ((diffP l D).2 = c))) ∧ Keep s t) env s := by
  intro env hlen ha
  have h0 : E env 0 = _ := ha 0 _ rfl
  have h1 : E env 1 = _ := ha 1 _ rfl
  have h2 : E env 2 = _ := ha 2 _ rfl
  have h3 : E env 3 = _ := ha 3 _ rfl
  have hlen : elen env = _ := hlen
  simp only [a15] at hlen
  unfold a15
  try dsimp only [oO, oG]
  have hbx := hD.box
  have hK1 : Keep s (s.push (.row [a1, b1, c1, d1] true)) := (Keep.refl s).push _
  obtain ⟨p1, p2, p3, p4, p5, p6, p7, p8⟩ := box_dg s a1 b1 c1 d1 (.refl _)
  obtain ⟨v, t1, q1, hO, hKq⟩ := q_DgDiff (hK1.read hr) hl (hD.keep hK1) hDl
  have hKt := hK1.trans hKq
  have hlen1 := diffP_len l D
  have q2 := q_Same false hO.read (hKt.read hm) (by unfold lim; omega) (by unfold lim; omega)
  simp (config := {contextual := true, maxDischargeDepth := 12}) only [tb_at, h0, h1, h2, h3, hlen, hbx, p1, p2, p3, p4, p5, p6, p7, p8, q1, q2, bin_eqE, ↓bD, bU, forall_const, bS, implies_true, isNx, eq_self, ↓wp_cond, ↓wp_loop, ↓reduceIte, reduceCtorEq, Nat.reduceEqDiff, Nat.reduceLT, Nat.reduceAdd, Nat.reduceMul, bT, ↓sg_bsl, ↓st_callf, bX, List.cons_append, List.nil_append, ↓st_appf, bY, slcV_nils0N, slcV_sl0N, bslV_0N, bin_shr1, bsl_nd, q_known]
  all_goals first | exact hKt | skip
theorem q_diffs (cl : Bool) {s : St} {vl : AV} {l : List Nd} (hr : read ndC s vl = some l) (hl : l.length ≤ 1000) {a1 b1 c1 d1 : AV} {D : DDg} (hD : DgR s a1 b1 c1 d1 D) (hDl : DgL D 1000) {wl : AV} {m : List Nd} (hm : read ndC s wl = some m) (hml : m.length ≤ 1000) (c : Int) : acall R_diffs cl [vl, .agg [a1, b1, c1, d1], wl, .int .i64 c] s = some (.bool (decide ((diffP l D).1 = m) && decide ((diffP l D).2 = c)), s) := run_same n_diffs (by simp [a15]) rfl (w_diffs (s := lowd s) (read_low' hr) hl hD.low hDl (read_low' hm) hml c)
noncomputable def R_dwithin : Con := runFn (tb [(43, R_DgWithin)]) a21
theorem s_dwithin : SoundAt Tryz.prog 21 R_dwithin := run_sound (tb_sound (l := [(43, R_DgWithin)]) (by simpa using s_DgWithin)) mixed Tryz.func21 k21 c21
theorem n_dwithin : noNxtC a21.body = true := by kernel_rfl
theorem w_dwithin {s : St} {a1 b1 c1 d1 : AV} {D : DDg} (hD : DgR s a1 b1 c1 d1 D) (hDl : DgL D 1000) {a2 b2 c2 d2 : AV} {G : DDg} (hG : DgR s a2 b2 c2 d2 G) (hGl : DgL G 1000) (w : Bool) (c : Int) : ∀ env : Env, elen env = a21.ntmps → (∀ i x_, [.agg [a1, b1, c1, d1], .agg [a2, b2, c2, d2], .bool w, .int .i64 c][i]? = some x_ → E env i = x_) → awp (tb [(43, R_DgWithin)]) a21.body (fun x e t => (∀ i, x ≠ .exit i) ∧ aresults e t a21.results = some (.bool (((dwinP D G).1 == w) && decide ((dwinP D G).2 = c))) ∧ Keep s t) env s := by
  intro env hlen ha
  have h0 : E env 0 = _ := ha 0 _ rfl
  have h1 : E env 1 = _ := ha 1 _ rfl
  have h2 : E env 2 = _ := ha 2 _ rfl
  have h3 : E env 3 = _ := ha 3 _ rfl
  have hlen : elen env = _ := hlen
  simp only [a21] at hlen
  unfold a21
  try dsimp only [oO, oG]
  have hbx := hD.box
  have hby := hG.box
  have hK2 : Keep s ((s.push (.row [a1, b1, c1, d1] true)).push (.row [a2, b2, c2, d2] true)) := ((Keep.refl s).push _).push _
  have hK12 : Keep (s.push (.row [a1, b1, c1, d1] true)) ((s.push (.row [a1, b1, c1, d1] true)).push (.row [a2, b2, c2, d2] true)) := (Keep.refl _).push _
  obtain ⟨p1, p2, p3, p4, p5, p6, p7, p8⟩ := box_dg s a1 b1 c1 d1 hK12
  obtain ⟨r1, r2, r3, r4, r5, r6, r7, r8⟩ := box_dg (s.push (.row [a1, b1, c1, d1] true)) a2 b2 c2 d2 (.refl _)
  have q1 := q_DgWithin false (hD.keep hK2) hDl (hG.keep hK2) hGl
  simp (config := {contextual := true, maxDischargeDepth := 12}) only [tb_at, h0, h1, h2, h3, hlen, hbx, hby, p1, p2, p3, p4, p5, p6, p7, p8, r1, r2, r3, r4, r5, r6, r7, r8, q1, bin_eqE, bin_eqb, ↓bD, bU, forall_const, bS, implies_true, isNx, eq_self, ↓wp_cond, ↓wp_loop, ↓reduceIte, reduceCtorEq, Nat.reduceEqDiff, Nat.reduceLT, Nat.reduceAdd, Nat.reduceMul, bT, ↓sg_bsl, ↓st_callf, bX, List.cons_append, List.nil_append, ↓st_appf, bY, slcV_nils0N, slcV_sl0N, bslV_0N, bin_shr1, bsl_nd, q_known]
  all_goals first | exact hK2 | skip
theorem q_dwithin (cl : Bool) {s : St} {a1 b1 c1 d1 : AV} {D : DDg} (hD : DgR s a1 b1 c1 d1 D) (hDl : DgL D 1000) {a2 b2 c2 d2 : AV} {G : DDg} (hG : DgR s a2 b2 c2 d2 G) (hGl : DgL G 1000) (w : Bool) (c : Int) : acall R_dwithin cl [.agg [a1, b1, c1, d1], .agg [a2, b2, c2, d2], .bool w, .int .i64 c] s = some (.bool (((dwinP D G).1 == w) && decide ((dwinP D G).2 = c)), s) := run_same n_dwithin (by simp [a21]) rfl (w_dwithin (s := lowd s) hD.low hDl hG.low hGl w c)

theorem dgMerge_len {D G : DDg} {n m : Nat} (h : DgL D n) (k : DgL G m) : DgL (dgMerge D G) (2 * (n + m)) := by
  have e1 := uni_len D.all G.all
  have e2 := uni_len D.gone G.gone
  have := h.l1; have := h.l2; have := h.l3; have := h.l4
  have := k.l1; have := k.l2; have := k.l3; have := k.l4
  refine ⟨?_, ?_, ?_, ?_⟩ <;> simp only [dgMerge] <;> omega
theorem DgL.le {D : DDg} {n m : Nat} (h : DgL D n) (k : n ≤ m) : DgL D m := ⟨Nat.le_trans h.l1 k, Nat.le_trans h.l2 k, Nat.le_trans h.l3 k, Nat.le_trans h.l4 k⟩
noncomputable def R_merges : Con := runFn (tb [(44, R_DgMerge), (26, R_RgSame)]) a23
theorem s_merges : SoundAt Tryz.prog 23 R_merges := run_sound (tb_sound (l := [(44, R_DgMerge), (26, R_RgSame)]) (by simpa using ⟨s_DgMerge, s_RgSame⟩)) mixed Tryz.func23 k23 c23
theorem n_merges : noNxtC a23.body = true := by kernel_rfl
theorem w_merges {s : St} {a1 b1 c1 d1 : AV} {D : DDg} (hD : DgR s a1 b1 c1 d1 D) (hDl : DgL D 250) {a2 b2 c2 d2 : AV} {G : DDg} (hG : DgR s a2 b2 c2 d2 G) (hGl : DgL G 250) {a3 b3 c3 d3 : AV} {H : DDg} (hH : DgR s a3 b3 c3 d3 H) (hHl : DgL H 1000) (c : Int) : ∀ env : Env, elen env = a23.ntmps → (∀ i x_, [.agg [a1, b1, c1, d1], .agg [a2, b2, c2, d2], .agg [a3, b3, c3, d3], .int .i64 c][i]? = some x_ → E env i = x_) → awp (tb [(44, R_DgMerge), (26, R_RgSame)]) a23.body (fun x e t => (∀ i, x ≠ .exit i) ∧ aresults e t a23.results = some (.bool (decide ((dmerP D G).1 = H) && decide ((dmerP D G).2 = c))) ∧ Keep s t) env s := by
  intro env hlen ha
  have h0 : E env 0 = _ := ha 0 _ rfl
  have h1 : E env 1 = _ := ha 1 _ rfl
  have h2 : E env 2 = _ := ha 2 _ rfl
  have h3 : E env 3 = _ := ha 3 _ rfl
  have hlen : elen env = _ := hlen
  simp only [a23] at hlen
  unfold a23
  try dsimp only [oO, oG]
  have hbx := hD.box
  have hby := hG.box
  have hbz := hH.box
  have hK3 : Keep s (((s.push (.row [a1, b1, c1, d1] true)).push (.row [a2, b2, c2, d2] true)).push (.row [a3, b3, c3, d3] true)) := (((Keep.refl s).push _).push _).push _
  have hK13 : Keep (s.push (.row [a1, b1, c1, d1] true)) (((s.push (.row [a1, b1, c1, d1] true)).push (.row [a2, b2, c2, d2] true)).push (.row [a3, b3, c3, d3] true)) := ((Keep.refl _).push _).push _
  have hK23 : Keep ((s.push (.row [a1, b1, c1, d1] true)).push (.row [a2, b2, c2, d2] true)) (((s.push (.row [a1, b1, c1, d1] true)).push (.row [a2, b2, c2, d2] true)).push (.row [a3, b3, c3, d3] true)) := (Keep.refl _).push _
  obtain ⟨p1, p2, p3, p4, p5, p6, p7, p8⟩ := box_dg s a1 b1 c1 d1 hK13
  obtain ⟨r1, r2, r3, r4, r5, r6, r7, r8⟩ := box_dg (s.push (.row [a1, b1, c1, d1] true)) a2 b2 c2 d2 hK23
  have hDm := hDl.le (m := 1000) (by omega)
  have hGm := hGl.le (m := 1000) (by omega)
  by_cases hv : dgV D = true ∧ dgV G = true
  · rw [dmerP_ok hv.1 hv.2]
    obtain ⟨y1, y2, y3, y4, t1, q1, hQ, hKq⟩ := q_DgMerge (hD.keep hK3) hDm (hG.keep hK3) hGm hv.1 hv.2
    have hQl : DgL (dgMerge D G) 1000 := (dgMerge_len hDl hGl).le (by omega)
    have hst0 := sto_dg (show sameN (t1).next (t1) from rfl) hQ
    have hKb : Keep (t1) ((t1).lowed.push (.row [y1, y2, y3, y4] true)) := (Keep.refl _).lowed.push _
    obtain ⟨s1_, s2_, s3_, s4_, s5_, s6_, s7_, s8_⟩ := row4_lods (St.get_push_new (t1).lowed (.row [y1, y2, y3, y4] true))
    have s1_ : lod ((t1).lowed.push (.row [y1, y2, y3, y4] true)) 4 (.ptr (t1).next 0) = some (.agg [y1, y2, y3, y4]) := s1_
    have s8_ : ltN (t1).next ((t1).lowed.push (.row [y1, y2, y3, y4] true)) := s8_
    have hQb := hQ.keep hKb
    obtain ⟨z1, z2, z3, z4, z5, z6, z7, z8⟩ := box_dg ((s.push (.row [a1, b1, c1, d1] true)).push (.row [a2, b2, c2, d2] true)) a3 b3 c3 d3 (hKq.trans hKb)
    have q2 := q_RgSame false hQb hQl (hH.keep (hK3.trans (hKq.trans hKb))) hHl
    simp (config := {contextual := true, maxDischargeDepth := 12}) only [tb_at, h0, h1, h2, h3, hlen, hbx, hby, hbz, p1, p8, r1, r8, q1, hst0, s1_, s8_, z1, z8, q2, bin_eqE, ↓bD, bU, forall_const, bS, implies_true, isNx, eq_self, ↓wp_cond, ↓wp_loop, ↓reduceIte, reduceCtorEq, Nat.reduceEqDiff, Nat.reduceLT, Nat.reduceAdd, Nat.reduceMul, bT, ↓sg_bsl, ↓st_callf, bX, List.cons_append, List.nil_append, ↓st_appf, bY, slcV_nils0N, slcV_sl0N, bslV_0N, bin_shr1, bsl_nd, q_known]
    all_goals first | exact hK3.trans (hKq.trans hKb) | skip
  rw [dmerP_bad hv]
  have q1 := q_DgMerge_bad false (hD.keep hK3) hDm (hG.keep hK3) hGm hv
  have hQ : DgR (((s.push (.row [a1, b1, c1, d1] true)).push (.row [a2, b2, c2, d2] true)).push (.row [a3, b3, c3, d3] true)) .nils .nils .nils .nils ⟨⟨[], []⟩, ⟨[], []⟩⟩ := .nils
  have hQl : DgL ⟨⟨[], []⟩, ⟨[], []⟩⟩ 1000 := dgL_nil
  have hst0 := sto_dg (show sameN (((s.push (.row [a1, b1, c1, d1] true)).push (.row [a2, b2, c2, d2] true)).push (.row [a3, b3, c3, d3] true)).next (((s.push (.row [a1, b1, c1, d1] true)).push (.row [a2, b2, c2, d2] true)).push (.row [a3, b3, c3, d3] true)) from rfl) hQ
  have hKb : Keep (((s.push (.row [a1, b1, c1, d1] true)).push (.row [a2, b2, c2, d2] true)).push (.row [a3, b3, c3, d3] true)) ((((s.push (.row [a1, b1, c1, d1] true)).push (.row [a2, b2, c2, d2] true)).push (.row [a3, b3, c3, d3] true)).lowed.push (.row [.nils, .nils, .nils, .nils] true)) := (Keep.refl _).lowed.push _
  obtain ⟨s1_, s2_, s3_, s4_, s5_, s6_, s7_, s8_⟩ := row4_lods (St.get_push_new (((s.push (.row [a1, b1, c1, d1] true)).push (.row [a2, b2, c2, d2] true)).push (.row [a3, b3, c3, d3] true)).lowed (.row [.nils, .nils, .nils, .nils] true))
  have s1_ : lod ((((s.push (.row [a1, b1, c1, d1] true)).push (.row [a2, b2, c2, d2] true)).push (.row [a3, b3, c3, d3] true)).lowed.push (.row [.nils, .nils, .nils, .nils] true)) 4 (.ptr (((s.push (.row [a1, b1, c1, d1] true)).push (.row [a2, b2, c2, d2] true)).push (.row [a3, b3, c3, d3] true)).next 0) = some (.agg [.nils, .nils, .nils, .nils]) := s1_
  have s8_ : ltN (((s.push (.row [a1, b1, c1, d1] true)).push (.row [a2, b2, c2, d2] true)).push (.row [a3, b3, c3, d3] true)).next ((((s.push (.row [a1, b1, c1, d1] true)).push (.row [a2, b2, c2, d2] true)).push (.row [a3, b3, c3, d3] true)).lowed.push (.row [.nils, .nils, .nils, .nils] true)) := s8_
  have hQb := hQ.keep hKb
  obtain ⟨z1, z2, z3, z4, z5, z6, z7, z8⟩ := box_dg ((s.push (.row [a1, b1, c1, d1] true)).push (.row [a2, b2, c2, d2] true)) a3 b3 c3 d3 (hKb)
  have q2 := q_RgSame false hQb hQl (hH.keep (hK3.trans (hKb))) hHl
  simp (config := {contextual := true, maxDischargeDepth := 12}) only [tb_at, h0, h1, h2, h3, hlen, hbx, hby, hbz, p1, p8, r1, r8, q1, hst0, s1_, s8_, z1, z8, q2, bin_eqE, ↓bD, bU, forall_const, bS, implies_true, isNx, eq_self, ↓wp_cond, ↓wp_loop, ↓reduceIte, reduceCtorEq, Nat.reduceEqDiff, Nat.reduceLT, Nat.reduceAdd, Nat.reduceMul, bT, ↓sg_bsl, ↓st_callf, bX, List.cons_append, List.nil_append, ↓st_appf, bY, slcV_nils0N, slcV_sl0N, bslV_0N, bin_shr1, bsl_nd, q_known]
  all_goals first | exact hK3.trans (hKb) | skip
theorem q_merges (cl : Bool) {s : St} {a1 b1 c1 d1 : AV} {D : DDg} (hD : DgR s a1 b1 c1 d1 D) (hDl : DgL D 250) {a2 b2 c2 d2 : AV} {G : DDg} (hG : DgR s a2 b2 c2 d2 G) (hGl : DgL G 250) {a3 b3 c3 d3 : AV} {H : DDg} (hH : DgR s a3 b3 c3 d3 H) (hHl : DgL H 1000) (c : Int) : acall R_merges cl [.agg [a1, b1, c1, d1], .agg [a2, b2, c2, d2], .agg [a3, b3, c3, d3], .int .i64 c] s = some (.bool (decide ((dmerP D G).1 = H) && decide ((dmerP D G).2 = c)), s) := run_same n_merges (by simp [a23]) rfl (w_merges (s := lowd s) hD.low hDl hG.low hGl hH.low hHl c)

end Go.AM
end
/-
  What arguments show: digests. Own work of this project.
-/
section
set_option maxRecDepth 100000
namespace Go.AM
open Go Go.Proofs

variable {s : St}
end Go.AM
end
/-
  DigestOf, DigestDiffs, DigestHolds in the abstract machine. Own work of this project; in part printed by a program of it.
-/
section
set_option maxRecDepth 100000
set_option maxHeartbeats 8000000
namespace Go.AM
open Go Go.Proofs

variable {s t u : St}

theorem dgOf_len80 {l : List Nd} (h : l.length ≤ 100) : DgL (dgOf l) 250 := by
  have h1 := add_len ⟨[], []⟩ (l.map Nd.d)
  have h2 := add_len ⟨[], []⟩ ((deadN l).map Nd.d)
  have h3 : (deadN l).length ≤ l.length := List.length_filter_le _ _
  simp only [List.length_nil, Nat.zero_add, List.length_map] at h1 h2
  refine ⟨?_, ?_, ?_, ?_⟩ <;> simp only [dgOf] <;> omega
end Go.AM
end
/-
  DigestHolds in the abstract machine. Own work of this project; in part printed by a program of it.
-/
section
set_option maxRecDepth 100000
set_option maxHeartbeats 8000000
namespace Go.AM
open Go Go.Proofs

variable {s t u : St}

theorem agreeP_no {l m : List Nd} (h : ¬ (storeL l = true ∧ storeL m = true ∧ agreeL l m = true)) : (agreeP l m).1 = false := by
  unfold agreeP
  by_cases hs : storeL l = true ∧ storeL m = true
  · rw [if_pos hs, if_neg fun q => h ⟨hs.1, hs.2, q⟩]
  · rw [if_neg hs]
theorem agreeP_yes {l m : List Nd} (h : storeL l = true ∧ storeL m = true ∧ agreeL l m = true) : agreeP l m = (true, 0) := by
  unfold agreeP
  rw [if_pos ⟨h.1, h.2.1⟩, if_pos h.2.2]
theorem s_DigestHolds : SoundAt Tryz.prog 7 (lawC Tryz.prog 8 [23, 23]) :=
  con_keep (tb_sound (l := [(8, closed [] (.bool true)), (27, conLLs agreeV), (28, R_DgOf), (18, R_DgDiff), (15, R_diffs), (29, conF ndC (pLL ndC ndC gJoin)), (30, conLLs withinV), (20, conLL ndC ndC fSame), (23, R_merges), (21, R_dwithin)]) (by simpa using ⟨s_known, s_Agree, s_DgOf, s_DgDiff, s_diffs, s_Join, s_Within, s_Same, s_merges, s_dwithin⟩)) mixed Tryz.func7 k7 c7 fun args s r s' h => by
    obtain ⟨hh, rfl, rfl⟩ := lawC_some h
    obtain ⟨v0, w0, rfl, hv0, hw0⟩ := rdas_2 hh
    obtain ⟨vl, hvl⟩ : ∃ vl, vl = v0 := ⟨_, rfl⟩
    obtain ⟨vm, hvm⟩ : ∃ vm, vm = w0 := ⟨_, rfl⟩
    subst hvl
    subst hvm
    obtain ⟨l, hr⟩ := rda_state nd_cks7 hv0
    obtain ⟨m, hrm⟩ := rda_state nd_cks7 hw0
    refine ⟨rfl, rfl, by simp [a7], fun env hlen ha => ?_⟩
    have h0 : E env 0 = _ := ha 0 _ rfl
    have h1 : E env 1 = _ := ha 1 _ rfl
    have hlen : elen env = _ := hlen
    simp only [a7] at hlen
    unfold a7
    try dsimp only [oO, oG]
    have hL := lenV_read hr
    have hM := lenV_read hrm
    by_cases hlz : 40 < l.length
    · have hz := eq_true (show (40 : Int) < (l.length : Int) by omega)
      simp (config := {contextual := true, maxDischargeDepth := 12}) only [tb_at, h0, h1, hlen, hL, hM, hz, notV_bool, Bool.not_true, Bool.not_false, pickV_t, pickV_f, bin_eqE, bin_eqb, gcall_tt, reserve0, ↓bD, bU, forall_const, bS, implies_true, isNx, eq_self, ↓wp_cond, ↓wp_loop, ↓reduceIte, reduceCtorEq, Nat.reduceEqDiff, Nat.reduceLT, Nat.reduceAdd, Nat.reduceMul, bT, ↓sg_bsl, ↓st_callf, bX, List.cons_append, List.nil_append, ↓st_appf, bY, slcV_nils0N, slcV_sl0N, bslV_0N, bin_shr1, bsl_nd, q_known]
      all_goals first | exact .refl _ | skip
    have hz := eq_false (show ¬ (40 : Int) < (l.length : Int) by omega)
    by_cases hmz : 40 < m.length
    · have hz2 := eq_true (show (40 : Int) < (m.length : Int) by omega)
      simp (config := {contextual := true, maxDischargeDepth := 12}) only [tb_at, h0, h1, hlen, hL, hM, hz, hz2, notV_bool, Bool.not_true, Bool.not_false, pickV_t, pickV_f, bin_eqE, bin_eqb, gcall_tt, reserve0, ↓bD, bU, forall_const, bS, implies_true, isNx, eq_self, ↓wp_cond, ↓wp_loop, ↓reduceIte, reduceCtorEq, Nat.reduceEqDiff, Nat.reduceLT, Nat.reduceAdd, Nat.reduceMul, bT, ↓sg_bsl, ↓st_callf, bX, List.cons_append, List.nil_append, ↓st_appf, bY, slcV_nils0N, slcV_sl0N, bslV_0N, bin_shr1, bsl_nd, q_known]
      all_goals first | exact .refl _ | skip
    have hz2 := eq_false (show ¬ (40 : Int) < (m.length : Int) by omega)
    have qa := q_Agree false hr hrm (by omega) (by omega)
    rw [agreeV_P] at qa
    by_cases hag : storeL l = true ∧ storeL m = true ∧ agreeL l m = true
    rotate_left
    · rw [agreeP_no hag] at qa
      simp (config := {contextual := true, maxDischargeDepth := 12}) only [tb_at, h0, h1, hlen, hL, hM, hz, hz2, qa, notV_bool, Bool.not_true, Bool.not_false, pickV_t, pickV_f, bin_eqE, bin_eqb, gcall_tt, reserve0, ↓bD, bU, forall_const, bS, implies_true, isNx, eq_self, ↓wp_cond, ↓wp_loop, ↓reduceIte, reduceCtorEq, Nat.reduceEqDiff, Nat.reduceLT, Nat.reduceAdd, Nat.reduceMul, bT, ↓sg_bsl, ↓st_callf, bX, List.cons_append, List.nil_append, ↓st_appf, bY, slcV_nils0N, slcV_sl0N, bslV_0N, bin_shr1, bsl_nd, q_known]
      all_goals first | exact .refl _ | skip
    rw [agreeP_yes hag] at qa
    have qa : acall (conLLs agreeV) false [vl, vm] s = some (.tup [.bool true, .int .i64 0], s) := qa
    obtain ⟨sl, sm, hal⟩ := hag
    have H := dg_holds sl sm hal
    have lj : (refJ l m).length ≤ 80 := by
      have := joinsP_len l m
      rw [H.j1] at this
      simp only at this
      omega
    have ldf := diff_len l (dgOf m)
    obtain ⟨x1, x2, x3, x4, t1, q1, hR1, hK1⟩ := q_DgOf hr (by omega) sl
    obtain ⟨tA, htA⟩ : ∃ tA, tA = (t1.lowed.push (.row [x1, x2, x3, x4] true)) := ⟨_, rfl⟩
    have stA := sto_dg (show sameN t1.next t1 from rfl) hR1
    have hKA : Keep t1 (t1.lowed.push (.row [x1, x2, x3, x4] true)) := (Keep.refl _).lowed.push _
    have gA : (t1.lowed.push (.row [x1, x2, x3, x4] true)).get t1.next = some (.row [x1, x2, x3, x4] true) := St.get_push_new t1.lowed _
    rw [← htA] at stA hKA gA
    have KA := hK1.trans hKA
    have hRx := hR1.keep hKA
    obtain ⟨y1, y2, y3, y4, t2, q2, hR2, hK2⟩ := q_DgOf (KA.read hrm) (by omega) sm
    obtain ⟨tB, htB⟩ : ∃ tB, tB = (t2.lowed.push (.row [y1, y2, y3, y4] true)) := ⟨_, rfl⟩
    have stB := sto_dg (show sameN t2.next t2 from rfl) hR2
    have hKB : Keep t2 (t2.lowed.push (.row [y1, y2, y3, y4] true)) := (Keep.refl _).lowed.push _
    have gB : (t2.lowed.push (.row [y1, y2, y3, y4] true)).get t2.next = some (.row [y1, y2, y3, y4] true) := St.get_push_new t2.lowed _
    rw [← htB] at stB hKB gB
    have KAB := hK2.trans hKB
    have KB := KA.trans KAB
    have hRy := hR2.keep hKB
    obtain ⟨b1, b2, b3, b4, b5, b6, b7, b8⟩ := row4_lods (gB)
    obtain ⟨w3, t3, q3, hO3, hK3⟩ := q_DgDiff (KB.read hr) (by omega) hRy (dgOf_len (by omega))
    rw [diffP_ok sl (dgOf_valid sm)] at q3 hO3
    have q3 : acall R_DgDiff false [vl, .agg [y1, y2, y3, y4]] tB = some (.tup [w3, .int .i64 0], t3) := q3
    have hr3 : read ndC t3 w3 = some (diffD l (dgOf m)) := hO3.read
    have K3 := KB.trans hK3
    obtain ⟨c1, c2, c3, c4, c5, c6, c7, c8⟩ := row4_lods ((KAB.trans hK3).blk gA)
    have q4 := q_diffs false (K3.read hr) (by omega) (hRx.keep (KAB.trans hK3)) (dgOf_len (by omega)) (m := []) (read_nils ndC _) (by simp) 0
    rw [diffP_ok sl (dgOf_valid sl), diff_self sl, decide_eq_true rfl, decide_eq_true rfl] at q4
    obtain ⟨w4, t4, q5, hK4, hO4⟩ := fresh_LL (D := ndC) (f := gJoin) (K3.read hr) (K3.read hrm) (by unfold lim; omega) (by unfold lim; omega) (gJoin_P l m) (by intro x hx; injection hx with hx; subst hx; rfl)
    rw [mkR_some, H.j1] at q5
    rw [H.j1] at hO4
    have q5 : acall (conF ndC (pLL ndC ndC gJoin)) false [vl, vm] t3 = some (.tup [w4, .int .i64 0], t4) := q5
    have K4 := K3.trans hK4
    obtain ⟨w5, t5, q6, hK5, hO5⟩ := fresh_LL (D := ndC) (f := gJoin) (K4.read hrm) (hK4.read hr3) (by unfold lim; omega) (by unfold lim; omega) (gJoin_P m (diffD l (dgOf m))) (by intro x hx; injection hx with hx; subst hx; rfl)
    rw [mkR_some, H.j2] at q6
    rw [H.j2] at hO5
    have q6 : acall (conF ndC (pLL ndC ndC gJoin)) false [vm, w3] t4 = some (.tup [w5, .int .i64 0], t5) := q6
    have K5 := K4.trans hK5
    have hr4 : read ndC t5 w4 = some (refJ l m) := hK5.read hO4.read
    have hr5 : read ndC t5 w5 = some (refJ l m) := hO5.read
    have q7 := q_Within false ((hK4.trans hK5).read hr3) (K5.read hr) (by omega) (by omega)
    rw [withinV_P, H.w1] at q7
    have q7 : acall (conLLs withinV) false [w3, vl] t5 = some (.tup [.bool true, .int .i64 0], t5) := q7
    have q8 := q_Same false hr4 hr5 (by unfold lim; omega) (by unfold lim; omega)
    rw [decide_eq_true rfl] at q8
    obtain ⟨z1, z2, z3, z4, t6, q9, hR6, hK6⟩ := q_DgOf hr4 (by omega) H.sj
    obtain ⟨tC, htC⟩ : ∃ tC, tC = (t6.lowed.push (.row [z1, z2, z3, z4] true)) := ⟨_, rfl⟩
    have stC := sto_dg (show sameN t6.next t6 from rfl) hR6
    have hKC : Keep t6 (t6.lowed.push (.row [z1, z2, z3, z4] true)) := (Keep.refl _).lowed.push _
    have gC : (t6.lowed.push (.row [z1, z2, z3, z4] true)).get t6.next = some (.row [z1, z2, z3, z4] true) := St.get_push_new t6.lowed _
    rw [← htC] at stC hKC gC
    have K56 := hK6.trans hKC
    have K36 := (hK4.trans hK5).trans K56
    have KBC := hK3.trans K36
    have KAC := KAB.trans KBC
    have KC := KA.trans KAC
    obtain ⟨d1, d2, d3, d4, d5, d6, d7, d8⟩ := row4_lods (KAC.blk gA)
    obtain ⟨f1, f2, f3, f4, f5, f6, f7, f8⟩ := row4_lods (KBC.blk gB)
    obtain ⟨k1, k2, k3, k4, k5, k6, k7, k8⟩ := row4_lods (gC)
    have q10 := q_Within false (KC.read hr) (KC.read hrm) (by omega) (by omega)
    rw [withinV_P, H.w2] at q10
    have q10 : acall (conLLs withinV) false [vl, vm] tC = some (.tup [.bool (dgWithin (dgOf l) (dgOf m)), .int .i64 0], tC) := q10
    have dx := hRx.keep KAC
    have dy := hRy.keep KBC
    have dz := hR6.keep hKC
    have l1 := dgOf_len80 (l := l) (by omega)
    have l2 := dgOf_len80 (l := m) (by omega)
    have l3 := dgOf_len80 (l := refJ l m) (by omega)
    have q11 := q_merges false dx l1 dy l2 dz (l3.le (by omega)) 0
    rw [dmerP_ok (dgOf_valid sl) (dgOf_valid sm), H.m, decide_eq_true rfl, decide_eq_true rfl] at q11
    have q12 := q_dwithin false dx (l1.le (by omega)) dy (l2.le (by omega)) (dgWithin (dgOf l) (dgOf m)) 0
    rw [dwinP_ok (dgOf_valid sl) (dgOf_valid sm), decide_eq_true rfl, beq_self_eq_true] at q12
    have n00 : ((0 : Int) = 0) = True := eq_true rfl
    simp (config := {contextual := true, maxDischargeDepth := 12, maxSteps := 4000000}) only [tb_at, h0, h1, hlen, hL, hM, hz, hz2, qa, q1, stA, q2, stB, b1, b8, q3, c1, c8, q4, q5, q6, q7, q8, q9, stC, d1, d8, f1, f8, k1, k8, q10, q11, q12, n00, decide_true, Bool.true_and, Bool.and_true, notV_bool, Bool.not_true, Bool.not_false, pickV_t, pickV_f, bin_eqE, bin_eqb, gcall_tt, reserve0, ↓bD, bU, forall_const, bS, implies_true, isNx, eq_self, ↓wp_cond, ↓wp_loop, ↓reduceIte, reduceCtorEq, Nat.reduceEqDiff, Nat.reduceLT, Nat.reduceAdd, Nat.reduceMul, bT, ↓sg_bsl, ↓st_callf, bX, List.cons_append, List.nil_append, ↓st_appf, bY, slcV_nils0N, slcV_sl0N, bslV_0N, bin_shr1, bsl_nd, q_known]
    all_goals first | exact KC | skip

end Go.AM
end
