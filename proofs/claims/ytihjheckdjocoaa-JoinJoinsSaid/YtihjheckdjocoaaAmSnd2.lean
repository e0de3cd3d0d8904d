/-
  Plain facts of the abstract machine: what an operation looks at, its kind, what it leaves alone. Own work of this project.
-/
import Derived.Test.YtihjheckdjocoaaAmSnd1
set_option linter.unusedVariables false
set_option linter.unusedSimpArgs false
namespace Go.AM
open Go

/-! ### What an operation looks at -/
theorem fillP_congr {env env' : Env} : ∀ (ps : List (Nat × Nat × AO)) (cs : List AV), (∀ x ∈ ps.map (·.2.2), aev env x = aev env' x) → fillP env cs ps = fillP env' cs ps
  | [], _, _ => rfl
  | (off, n, x) :: r, cs, h => by
    simp only [List.map_cons, List.forall_mem_cons] at h
    simp only [fillP, h.1, fun cs => fillP_congr r cs h.2]
theorem map_congr' {env env' : Env} {l : List AO} (h : ∀ x ∈ l, aev env x = aev env' x) : l.map (aev env) = l.map (aev env') := List.map_congr_left h
theorem opt_congr {env env' : Env} {o : Option AO} (h : ∀ x ∈ o.toList, aev env x = aev env' x) : o.map (aev env) = o.map (aev env') := by
  cases o with
  | none => rfl
  | some x => simp [h x (by simp)]
theorem aalloc_congr {env env' : Env} {op : AOp} (h : ∀ x ∈ op.opds, aev env x = aev env' x) : aalloc env op = aalloc env' op := by
  cases op
  case bsl z len sz ps =>
    simp only [AOp.opds] at h
    simp only [aalloc]
    rw [fillP_congr]
    intro x hx
    refine h x ?_
    simpa using hx
  all_goals first
    | rfl
    | (simp only [AOp.opds, List.forall_mem_cons] at h
       simp only [aalloc, h]
       done)
theorem apure_congr {env env' : Env} {op : AOp} (h : ∀ x ∈ op.opds, aev env x = aev env' x) : apure env op = apure env' op := by
  cases op
  case build z ps =>
    simp only [AOp.opds] at h
    simp only [apure]
    rw [fillP_congr _ _ h]
  case mkfn f l =>
    simp only [AOp.opds] at h
    simp only [apure]
    rw [map_congr' h]
  case mm big l =>
    simp only [AOp.opds] at h
    simp only [apure]
    rw [map_congr' h]
  case slc sz x lo hi mx =>
    simp only [AOp.opds, List.forall_mem_cons, List.mem_append] at h
    have h1 := opt_congr (o := lo) fun x hx => h.2 x (.inl hx)
    have h2 := opt_congr (o := hi) fun x hx => h.2 x (.inr (.inl hx))
    have h3 := opt_congr (o := mx) fun x hx => h.2 x (.inr (.inr hx))
    have h4 : ∀ m ∈ mx, aev env m = aev env' m := fun m hm => h.2 m (.inr (.inr (by simpa using hm)))
    simp only [apure, h.1, h1, h2, h3]
    cases mx with
    | none => rfl
    | some m => simp only [h4 m rfl]
  case slcs x lo hi =>
    simp only [AOp.opds, List.forall_mem_cons, List.mem_append] at h
    have h1 := opt_congr (o := lo) fun x hx => h.2 x (.inl hx)
    have h2 := opt_congr (o := hi) fun x hx => h.2 x (.inr hx)
    simp only [apure, h.1, h1, h2]
  case len k x =>
    simp only [AOp.opds, List.forall_mem_cons] at h
    cases k <;> simp only [apure, h]
  all_goals first
    | rfl
    | (simp only [AOp.opds, List.forall_mem_cons] at h
       simp only [apure, h]
       done)
theorem aread_congr {call : Nat → List AV → St → Option (AV × St)} {s : St} {env env' : Env} {op : AOp} (h : ∀ x ∈ op.opds, aev env x = aev env' x) : aread call env s op = aread call env' s op := by
  cases op
  case call f cl l =>
    simp only [AOp.opds] at h
    cases cl <;> simp only [aread]
    rw [map_congr' h]
  case callv x cl l =>
    simp only [AOp.opds, List.forall_mem_cons] at h
    cases cl <;> simp only [aread]
    rw [map_congr' h.2, h.1]
  case len k x =>
    simp only [AOp.opds, List.forall_mem_cons] at h
    cases k <;> simp only [aread, h]
  all_goals first
    | rfl
    | (simp only [AOp.opds, List.forall_mem_cons] at h
       simp only [aread, h]
       done)
theorem aeff_congr {call : Nat → List AV → St → Option (AV × St)} {s : St} {env env' : Env} {op : AOp} (h : ∀ x ∈ op.opds, aev env x = aev env' x) : aeff call env s op = aeff call env' s op := by
  cases op
  case call f cl l =>
    simp only [AOp.opds] at h
    cases cl <;> simp only [aeff]
    rw [map_congr' h]
  case callv x cl l =>
    simp only [AOp.opds, List.forall_mem_cons] at h
    cases cl <;> simp only [aeff]
    rw [map_congr' h.2, h.1]
  case mkmap r =>
    simp only [AOp.opds] at h
    simp only [aeff]
    rw [opt_congr h]
  all_goals first
    | rfl
    | (simp only [AOp.opds, List.forall_mem_cons] at h
       simp only [aeff, h]
       done)

/-! ### Its kind -/
theorem kind_alloc {env : Env} {op : AOp} {r : (Nat → AV) × AB} (h : aalloc env op = some r) : op.kind = .alloc := by
  cases op <;> first | rfl | (simp only [aalloc] at h; cases h)
theorem kind_pure {env : Env} {op : AOp} {r : AV} (h : apure env op = some r) : op.kind = .pure := by
  cases op
  case len k x => cases k <;> first | rfl | (simp only [apure] at h; cases h)
  all_goals first | rfl | (simp only [apure] at h; cases h)
theorem kind_read {call : Nat → List AV → St → Option (AV × St)} {s : St} {env : Env} {op : AOp} {r : AV} (h : aread call env s op = some r) : op.kind = .read := by
  cases op
  case len k x => cases k <;> first | rfl | (simp only [aread] at h; cases h)
  case call f cl l => cases cl <;> first | rfl | (simp only [aread] at h; cases h)
  case callv f cl l => cases cl <;> first | rfl | (simp only [aread] at h; cases h)
  all_goals first | rfl | (simp only [aread] at h; cases h)
theorem kind_eff {call : Nat → List AV → St → Option (AV × St)} {s : St} {env : Env} {op : AOp} {r : AV × St} (h : aeff call env s op = some r) : op.kind = .write := by
  cases op
  case call f cl l => cases cl <;> first | rfl | (simp only [aeff] at h; cases h)
  case callv f cl l => cases cl <;> first | rfl | (simp only [aeff] at h; cases h)
  all_goals first | rfl | (simp only [aeff] at h; cases h)

/-! ### What it leaves alone -/
/-- Below the mark all is as it was. -/
def Keeps (s s' : St) : Prop := s.next ≤ s'.next ∧ s'.low ≤ s.low ∧ ∀ id, id < s.next → id < s'.low → s'.get id = s.get id
theorem Keeps.refl (s : St) : Keeps s s := ⟨Nat.le_refl _, Nat.le_refl _, fun _ _ _ => rfl⟩
theorem Keeps.trans {a b c : St} (h : Keeps a b) (k : Keeps b c) : Keeps a c :=
  ⟨Nat.le_trans h.1 k.1, Nat.le_trans k.2.1 h.2.1, fun id h1 h2 => by
    rw [k.2.2 id (Nat.lt_of_lt_of_le h1 h.1) h2, h.2.2 id h1 (Nat.lt_of_lt_of_le h2 k.2.1)]⟩
theorem keeps_push (s : St) (b : AB) : Keeps s (s.push b) := ⟨by simp, by simp, fun id h _ => by rw [St.get_push_old _ _ h]⟩
theorem keeps_put {s : St} {id : Nat} {b0 : AB} (b : AB) (h : s.get id = some b0) : Keeps s (s.put id b) :=
  ⟨by simp, by simp [Nat.min_le_left], fun j _ hj => by
    simp at hj
    rw [St.get_put_ne _ _ (St.get_lt h) (by omega)]⟩
theorem keeps_append {s s' : St} {sz bytes k : Nat} {a : AV} {new : List AV} {v : AV} (h : aappend s sz bytes a new k = some (v, s')) : Keeps s s' := by
  unfold aappend at h
  split at h
  · split at h
    · injection h with h; obtain ⟨_, rfl⟩ := Prod.mk.inj h; exact .refl _
    · split at h
      · injection h with h; obtain ⟨_, rfl⟩ := Prod.mk.inj h; exact keeps_push _ _
      · cases h
  · split at h
    · split at h
      · rename_i cs own hg
        split at h
        · injection h with h; obtain ⟨_, rfl⟩ := Prod.mk.inj h; exact .refl _
        · split at h
          · split at h
            · split at h
              · split at h
                · injection h with h; obtain ⟨_, rfl⟩ := Prod.mk.inj h; exact keeps_put _ hg
                · cases h
              · injection h with h; obtain ⟨_, rfl⟩ := Prod.mk.inj h; exact keeps_push _ _
            · split at h
              · injection h with h; obtain ⟨_, rfl⟩ := Prod.mk.inj h; exact (keeps_put _ hg).trans (keeps_push _ _)
              · cases h
          · cases h
      · cases h
    · cases h
  · cases h
theorem keeps_eff {call : Nat → List AV → St → Option (AV × St)} {s s' : St} {env : Env} {op : AOp} {v : AV} (hc : op.isCall = false) (h : aeff call env s op = some (v, s')) : Keeps s s' := by
  cases op
  case call => simp [AOp.isCall] at hc
  case callv => simp [AOp.isCall] at hc
  all_goals simp only [aeff] at h
  all_goals first
    | (cases h; done)
    | exact keeps_append h
    | skip
  all_goals
    repeat' split at h
  all_goals first
    | (cases h; done)
    | exact keeps_append h
    | skip
  all_goals
    injection h with h
    obtain ⟨_, rfl⟩ := Prod.mk.inj h
  all_goals first
    | exact .refl _
    | exact keeps_push _ _
    | exact keeps_put _ (by assumption)

/-! ### No block is lost -/
theorem Grow.refl (s : St) : Grow s s := ⟨Nat.le_refl _, fun _ _ h => h⟩
theorem Grow.trans {a b c : St} (h : Grow a b) (k : Grow b c) : Grow a c := ⟨Nat.le_trans h.1 k.1, fun id h1 h2 => k.2 id (Nat.lt_of_lt_of_le h1 h.1) (h.2 id h1 h2)⟩
theorem Grow.low {s s' : St} {n m : Nat} (h : Grow { s with low := n } s') : Grow s { s' with low := m } := h
theorem grow_push (s : St) (b : AB) : Grow s (s.push b) := ⟨by simp, fun id h1 h2 => by rw [St.get_push_old _ _ h1]; exact h2⟩
theorem grow_put {s : St} {id : Nat} {b0 : AB} (b : AB) (h : s.get id = some b0) : Grow s (s.put id b) :=
  ⟨by simp, fun j h1 h2 => by
    by_cases hj : j = id
    · subst hj; rw [St.get_put_same h]; simp
    · rw [St.get_put_ne _ _ (St.get_lt h) hj]; exact h2⟩
theorem grow_born {s : St} {id : Nat} {b0 : AB} (b : AB) (h : s.get id = some b0) : Grow s (s.born id b) :=
  ⟨by simp, fun j h1 h2 => by
    by_cases hj : j = id
    · subst hj; rw [St.get_born_same h]; simp
    · rw [St.get_born_ne _ _ (St.get_lt h) hj]; exact h2⟩
theorem grow_append {s s' : St} {sz bytes k : Nat} {a : AV} {new : List AV} {v : AV} (h : aappend s sz bytes a new k = some (v, s')) : Grow s s' := by
  unfold aappend at h
  split at h
  · split at h
    · injection h with h; obtain ⟨_, rfl⟩ := Prod.mk.inj h; exact .refl _
    · split at h
      · injection h with h; obtain ⟨_, rfl⟩ := Prod.mk.inj h; exact grow_push _ _
      · cases h
  · split at h
    · split at h
      · rename_i cs own hg
        split at h
        · injection h with h; obtain ⟨_, rfl⟩ := Prod.mk.inj h; exact .refl _
        · split at h
          · split at h
            · split at h
              · split at h
                · injection h with h; obtain ⟨_, rfl⟩ := Prod.mk.inj h; exact grow_put _ hg
                · cases h
              · injection h with h; obtain ⟨_, rfl⟩ := Prod.mk.inj h; exact grow_push _ _
            · split at h
              · injection h with h; obtain ⟨_, rfl⟩ := Prod.mk.inj h; exact (grow_put _ hg).trans (grow_push _ _)
              · cases h
          · cases h
      · cases h
    · cases h
  · cases h
theorem grow_acall {P : Program} {call : Nat → List AV → St → Option (AV × St)} (hS : Sound P call) {f : Nat} {cl : Bool} {args : List AV} {s s' : St} {v : AV} (h : acall (call f) cl args s = some (v, s')) : Grow s s' := by
  unfold acall at h
  split at h
  · rename_i r s1 hc
    obtain ⟨_, hg, _⟩ := hS f args _ r s1 hc
    split at h
    · injection h with h; obtain ⟨_, rfl⟩ := Prod.mk.inj h; exact .refl _
    · split at h
      · cases h
      · injection h with h; obtain ⟨_, rfl⟩ := Prod.mk.inj h; exact hg
  · cases h
theorem grow_eff {P : Program} {call : Nat → List AV → St → Option (AV × St)} (hS : Sound P call) {s s' : St} {env : Env} {op : AOp} {v : AV} (h : aeff call env s op = some (v, s')) : Grow s s' := by
  cases op
  case call f cl args =>
    cases cl <;> simp only [aeff] at h
    · exact grow_acall hS h
    · cases h
  case callv x cl args =>
    cases cl <;> simp only [aeff] at h
    · split at h
      · exact grow_acall hS h
      · cases h
    · cases h
  all_goals simp only [aeff] at h
  all_goals first
    | (cases h; done)
    | exact grow_append h
    | skip
  all_goals
    repeat' split at h
  all_goals first
    | (cases h; done)
    | exact grow_append h
    | skip
  all_goals
    injection h with h
    obtain ⟨_, rfl⟩ := Prod.mk.inj h
  all_goals first
    | exact .refl _
    | exact grow_push _ _
    | exact grow_put _ (by assumption)
theorem grow_aop {P : Program} {call : Nat → List AV → St → Option (AV × St)} (hS : Sound P call) {base : Nat} {o : AOper} {s s' : St} {env : Env} {v : AV} (h : aop call base o env s = some (v, s')) : Grow s s' := by
  unfold aop at h
  split at h
  · split at h
    · split at h
      · rename_i hg
        injection h with h; obtain ⟨_, rfl⟩ := Prod.mk.inj h
        exact grow_born _ hg
      · cases h
    · injection h with h; obtain ⟨_, rfl⟩ := Prod.mk.inj h
      exact grow_push _ _
  · split at h
    · injection h with h; obtain ⟨_, rfl⟩ := Prod.mk.inj h; exact .refl _
    · split at h
      · split at h
        · cases h
        · injection h with h; obtain ⟨_, rfl⟩ := Prod.mk.inj h; exact .refl _
      · split at h
        · split at h
          · split at h
            · rename_i hp _
              injection h with h; obtain ⟨_, rfl⟩ := Prod.mk.inj h
              exact (grow_eff hS hp).low
            · cases h
          · cases h
        · exact grow_eff hS h
theorem grow_aops {P : Program} {call : Nat → List AV → St → Option (AV × St)} (hS : Sound P call) {base : Nat} : ∀ {l : List AOper} {s s' : St} {env env' : Env}, aops call base l env s = some (env', s') → Grow s s'
  | [], s, s', env, env', h => by
    simp only [aops] at h
    injection h with h; obtain ⟨_, rfl⟩ := Prod.mk.inj h; exact .refl _
  | o :: r, s, s', env, env', h => by
    simp only [aops] at h
    split at h
    · split at h
      · rename_i ho
        exact (grow_aop hS ho).trans (grow_aops hS h)
      · cases h
    · exact grow_aops hS h
    · cases h

end Go.AM
