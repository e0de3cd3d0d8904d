/-
  A region that draws its order: the run in the order of the text, and what any other order sees of it. Own work of this project.
-/
import Derived.Test.YtihjheckdjocoaaAmSnd2
set_option linter.unusedVariables false
set_option linter.unusedSimpArgs false
namespace Go.AM
open Go

variable {P : Program} {ρ : Ren}

/-! ### Memory with some blocks put in -/
def St.patch (s : St) (f : Nat → AB → AB) : St := { s with heap := s.heap.mapIdx fun i b => f (s.next - 1 - i) b }
@[simp] theorem St.next_patch (s : St) (f : Nat → AB → AB) : (s.patch f).next = s.next := rfl
@[simp] theorem St.low_patch (s : St) (f : Nat → AB → AB) : (s.patch f).low = s.low := rfl
theorem St.get_patch (s : St) (f : Nat → AB → AB) (id : Nat) : (s.patch f).get id = (s.get id).map (f id) := by
  unfold St.get St.patch
  simp only
  split
  · rename_i h
    simp only [List.getElem?_mapIdx]
    rw [show s.next - 1 - (s.next - 1 - id) = id by omega]
  · rfl
theorem St.get_reserve : ∀ (k : Nat) (s : St) (id : Nat), (s.reserve k).get id = if id < s.next then s.get id else if id < s.next + k then some .unborn else none
  | 0, s, id => by
    simp only [St.reserve]
    split
    · rfl
    · rename_i h
      rw [if_neg (by omega)]
      simp [St.get, h]
  | k + 1, s, id => by
    simp only [St.reserve]
    rw [St.get_reserve k, St.get_push]
    simp only [St.next_push]
    by_cases h1 : id < s.next
    · simp [h1, show id < s.next + 1 by omega, show id ≠ s.next by omega]
    · by_cases h2 : id = s.next
      · subst h2
        simp
      · simp [h1, show ¬ id < s.next + 1 by omega, show s.next + 1 + k = s.next + (k + 1) by omega]
@[simp] theorem St.next_reserve : ∀ (k : Nat) (s : St), (s.reserve k).next = s.next + k
  | 0, s => rfl
  | k + 1, s => by simp only [St.reserve]; rw [St.next_reserve k]; simp; omega
@[simp] theorem St.low_reserve : ∀ (k : Nat) (s : St), (s.reserve k).low = s.low
  | 0, s => rfl
  | k + 1, s => by simp only [St.reserve]; rw [St.low_reserve k]; simp

theorem R.sub {s s' : St} {w : World} (h : R s ρ w) (k : ∀ id b L, ρ id = some L → s'.get id = some b → b.live = false ∨ s.get id = some b) : R s' ρ w := by
  refine ⟨h.bound, fun id b L h1 h2 => ?_, fun i j L M bi bj hij e1 e2 e3 e4 e5 e6 => ?_⟩
  · rcases k id b L h2 h1 with q | q
    · cases b <;> simp [AB.live] at q <;> trivial
    · exact h.blk id b L q h2
  · rcases k i bi L e1 e3 with q | q
    · rw [AB.live_of_owned e5] at q; cases q
    · rcases k j bj M e2 e4 with q' | q'
      · rw [e6] at q'; cases q'
      · exact h.inj i j L M bi bj hij e1 e2 q q' e5 e6
theorem Step.congr {s s1 s2 : St} {ρ ρ' : Ren} {w w' : World} (h : Step s s1 ρ ρ' w w') (hg : ∀ id, s1.get id = s2.get id) (hn : s1.next = s2.next) (hl : s1.low = s2.low) : Step s s2 ρ ρ' w w' := by
  refine ⟨hn ▸ h.next, hl ▸ h.low, fun id hid => h.ren id (by omega), h.size, h.os, h.tape, h.output, h.drawn, fun b hb H => h.frame b hb (by rw [hl]; exact H), fun id blk h1 h2 h3 => h.old id blk h1 (by rw [hg]; exact h2) h3,
    fun id L blk h1 h2 h3 h4 => ?_, fun id h1 h2 => by rw [← hg]; exact h.unm id h1 h2⟩
  have := h.new id L blk h1 h2 (by rw [hg]; exact h3) h4
  rw [hl] at this
  exact this

/-! ### The run in the order of the text -/
structure Trace (call : Nat → List AV → St → Option (AV × St)) (base : Nat) (l : List AOper) (S : Nat → St) (E : Nat → Env) (V : Nat → AV) : Prop where
  env : ∀ i o, l[i]? = some o → E (i + 1) = putE (E i) o.dst (V i)
  step : ∀ i o, l[i]? = some o → (wanted o (E i) = some true ∧ aop call base o (E i) (S i) = some (V i, S (i + 1))) ∨ (wanted o (E i) = some false ∧ V i = .und ∧ S (i + 1) = S i)
theorem trace_of {call : Nat → List AV → St → Option (AV × St)} {base : Nat} : ∀ (l : List AOper) (env env' : Env) (s s' : St), aops call base l env s = some (env', s') →
    ∃ S E V, Trace call base l S E V ∧ S 0 = s ∧ E 0 = env ∧ S l.length = s' ∧ E l.length = env'
  | [], env, env', s, s', h => by
    simp only [aops] at h
    injection h with h
    obtain ⟨rfl, rfl⟩ := Prod.mk.inj h
    exact ⟨fun _ => s, fun _ => env, fun _ => .und, ⟨fun i o h => by simp at h, fun i o h => by simp at h⟩, rfl, rfl, rfl, rfl⟩
  | o :: r, env, env', s, s', h => by
    have key : ∀ v s1, aops call base r (putE env o.dst v) s1 = some (env', s') → ((wanted o env = some true ∧ aop call base o env s = some (v, s1)) ∨ (wanted o env = some false ∧ v = .und ∧ s1 = s)) →
        ∃ S E V, Trace call base (o :: r) S E V ∧ S 0 = s ∧ E 0 = env ∧ S (o :: r).length = s' ∧ E (o :: r).length = env' := by
      intro v s1 hr hk
      obtain ⟨S, E, V, hT, h1, h2, h3, h4⟩ := trace_of r _ env' s1 s' hr
      refine ⟨fun | 0 => s | i + 1 => S i, fun | 0 => env | i + 1 => E i, fun | 0 => v | i + 1 => V i, ⟨?_, ?_⟩, rfl, rfl, h3, h4⟩
      · intro i o' hi
        cases i with
        | zero => simp at hi; subst hi; exact h2
        | succ i => exact hT.env i o' (by simpa using hi)
      · intro i o' hi
        cases i with
        | zero =>
          simp at hi; subst hi
          rcases hk with ⟨q1, q2⟩ | ⟨q1, q2, q3⟩
          · exact .inl ⟨q1, by show aop call base o env s = some (v, S 0); rw [h1]; exact q2⟩
          · exact .inr ⟨q1, q2, by show S 0 = s; rw [h1, q3]⟩
        | succ i => exact hT.step i o' (by simpa using hi)
    simp only [aops] at h
    split at h
    · rename_i hw
      split at h
      · rename_i v s1 ho
        exact key v s1 h (.inl ⟨hw, ho⟩)
      · cases h
    · rename_i hw
      exact key .und s h (.inr ⟨hw, rfl, rfl⟩)
    · cases h

section
variable {call : Nat → List AV → St → Option (AV × St)} {base : Nat} {l : List AOper} {S : Nat → St} {E : Nat → Env} {V : Nat → AV}

/-- Operation 'p' makes the block that is kept under 'r'. -/
def Al (l : List AOper) (E : Nat → Env) (p r : Nat) : Prop := ∃ o, l[p]? = some o ∧ o.op.kind = .alloc ∧ o.res = some r ∧ wanted o (E p) = some true
/-- The block that 'p' makes. -/
def Bl (l : List AOper) (E : Nat → Env) (p : Nat) : AB :=
  match l[p]? with
  | some o => match aalloc (E p) o.op with
    | some (_, b) => b
    | none => .unborn
  | none => .unborn
/-- Operation 'i' writes nothing that was there. -/
def Quiet (l : List AOper) (i : Nat) : Prop := ∀ o, l[i]? = some o → o.op.kind = .write → o.fresh = true ∧ o.op.isCall = false ∧ o.op.isStore = false
/-- It writes nothing that was there ahead of the region. -/
def Quiet0 (l : List AOper) (i : Nat) : Prop := ∀ o, l[i]? = some o → o.op.kind = .write → o.fresh = true ∧ o.op.isCall = false
def NoWr (l : List AOper) (i : Nat) : Prop := ∀ o, l[i]? = some o → o.op.kind ≠ .write

theorem aop_alloc {o : AOper} {env : Env} {s s' : St} {v : AV} (h : aop call base o env s = some (v, s')) (hk : o.op.kind = .alloc) {r : Nat} (hr : o.res = some r) :
    ∃ mk b, aalloc env o.op = some (mk, b) ∧ s.get (base + r) = some .unborn ∧ v = mk (base + r) ∧ s' = s.born (base + r) b := by
  unfold aop at h
  split at h
  · rename_i mk b hal
    rw [hr] at h
    simp only at h
    split at h
    · rename_i hg
      injection h with h
      obtain ⟨rfl, rfl⟩ := Prod.mk.inj h
      exact ⟨mk, b, hal, hg, rfl, rfl⟩
    · cases h
  · split at h
    · rename_i u hp
      rw [kind_pure hp] at hk; cases hk
    · split at h
      · rename_i u hp
        rw [kind_read hp] at hk; cases hk
      · split at h
        · split at h
          · rename_i q1 q2 q3 hp
            rw [kind_eff hp] at hk; cases hk
          · cases h
        · rw [kind_eff h] at hk; cases hk
theorem aop_pure {o : AOper} {env : Env} {s s' : St} {v : AV} (h : aop call base o env s = some (v, s')) (hk : o.op.kind = .pure) : apure env o.op = some v ∧ s' = s := by
  unfold aop at h
  split at h
  · rename_i mk b hal
    rw [kind_alloc hal] at hk; cases hk
  · split at h
    · rename_i u hp
      injection h with h
      obtain ⟨rfl, rfl⟩ := Prod.mk.inj h
      exact ⟨hp, rfl⟩
    · split at h
      · rename_i u hp
        rw [kind_read hp] at hk; cases hk
      · split at h
        · split at h
          · rename_i q1 q2 q3 hp
            rw [kind_eff hp] at hk; cases hk
          · cases h
        · rw [kind_eff h] at hk; cases hk
theorem aop_read {o : AOper} {env : Env} {s s' : St} {v : AV} (h : aop call base o env s = some (v, s')) (hk : o.op.kind = .read) : aread call env s o.op = some v ∧ s' = s ∧ (o.fresh = true → oldLoad base env o.op = true) := by
  unfold aop at h
  split at h
  · rename_i mk b hal
    rw [kind_alloc hal] at hk; cases hk
  · split at h
    · rename_i u hp
      rw [kind_pure hp] at hk; cases hk
    · split at h
      · rename_i u hp
        split at h
        · cases h
        · rename_i hc
          injection h with h
          obtain ⟨rfl, rfl⟩ := Prod.mk.inj h
          refine ⟨hp, rfl, fun hf => ?_⟩
          rw [hf] at hc
          simpa using hc
      · split at h
        · split at h
          · rename_i q1 q2 q3 hp
            rw [kind_eff hp] at hk; cases hk
          · cases h
        · rw [kind_eff h] at hk; cases hk
theorem aop_write {o : AOper} {env : Env} {s s' : St} {v : AV} (h : aop call base o env s = some (v, s')) (hk : o.op.kind = .write) :
    (o.fresh = true ∧ ∃ s1, aeff call env { s with low := s.next } o.op = some (v, s1) ∧ o.op.floor base s.next ≤ s1.low ∧ s' = { s1 with low := min s.low s1.low }) ∨ (o.fresh = false ∧ aeff call env s o.op = some (v, s')) := by
  unfold aop at h
  split at h
  · rename_i mk b hal
    rw [kind_alloc hal] at hk; cases hk
  · split at h
    · rename_i u hp
      rw [kind_pure hp] at hk; cases hk
    · split at h
      · rename_i u hp
        rw [kind_read hp] at hk; cases hk
      · split at h
        · rename_i hf
          split at h
          · rename_i u s1 hp
            split at h
            · rename_i hn
              injection h with h
              obtain ⟨rfl, rfl⟩ := Prod.mk.inj h
              exact .inl ⟨hf, s1, hp, hn, rfl⟩
            · cases h
          · cases h
        · rename_i hf
          exact .inr ⟨by simpa using hf, h⟩

variable (hT : Trace call base l S E V) (hres : ∀ (i : Nat) (o : AOper), l[i]? = some o → o.op.kind = .alloc → ∃ r, o.res = some r)
include hT

theorem tr_al {p r : Nat} (h : Al l E p r) : (S p).get (base + r) = some .unborn ∧ S (p + 1) = (S p).born (base + r) (Bl l E p) ∧ (∃ o mk, l[p]? = some o ∧ aalloc (E p) o.op = some (mk, Bl l E p) ∧ V p = mk (base + r)) := by
  obtain ⟨o, ho, hk, hr, hw⟩ := h
  rcases hT.step p o ho with ⟨_, h⟩ | ⟨h, _⟩
  · obtain ⟨mk, b, h1, h2, h3, h4⟩ := aop_alloc h hk hr
    have hb : Bl l E p = b := by simp [Bl, ho, h1]
    exact ⟨h2, by rw [hb]; exact h4, o, mk, ho, by rw [hb]; exact h1, h3⟩
  · rw [h] at hw; cases hw

include hres
/-- What is no writer and no maker leaves memory as it is. -/
theorem tr_same {i : Nat} {o : AOper} (ho : l[i]? = some o) (hk : o.op.kind ≠ .write) (ha : ∀ r, ¬ Al l E i r) : S (i + 1) = S i := by
  rcases hT.step i o ho with ⟨hw, h⟩ | ⟨_, _, h⟩
  · cases hkk : o.op.kind
    · exact (aop_pure h hkk).2
    · obtain ⟨r, hr⟩ := hres i o ho hkk
      exact absurd ⟨o, ho, hkk, hr, hw⟩ (ha r)
    · exact (aop_read h hkk).2.1
    · exact absurd hkk hk
  · exact h

theorem tr_quiet {i : Nat} {o : AOper} (ho : l[i]? = some o) (hq : Quiet l i) : (S i).next ≤ (S (i + 1)).next ∧ (NoWr l i → (S (i + 1)).next = (S i).next ∧ (S (i + 1)).low = (S i).low) ∧
    (∀ id, id < (S i).next → (∀ r, Al l E i r → id ≠ base + r) → (S (i + 1)).get id = (S i).get id) ∧ (∀ r, Al l E i r → (S (i + 1)).get (base + r) = some (Bl l E i)) := by
  by_cases ha : ∃ r, Al l E i r
  · obtain ⟨r, ha⟩ := ha
    obtain ⟨h1, h2, _⟩ := tr_al hT ha
    rw [h2]
    refine ⟨by simp, fun _ => by simp, fun id hid hne => ?_, fun r' hr' => ?_⟩
    · exact St.get_born_ne _ _ (St.get_lt h1) (hne r ha)
    · obtain ⟨o1, e1, _, e3, _⟩ := ha
      obtain ⟨o2, f1, _, f3, _⟩ := hr'
      rw [e1] at f1; injection f1 with f1; subst f1
      rw [e3] at f3; injection f3 with f3; subst f3
      exact St.get_born_same h1
  · have ha' : ∀ r, ¬ Al l E i r := fun r h => ha ⟨r, h⟩
    by_cases hk : o.op.kind = .write
    · obtain ⟨q1, q2, q4⟩ := hq o ho hk
      rcases hT.step i o ho with ⟨hw, h⟩ | ⟨_, _, h⟩
      · rcases aop_write h hk with ⟨_, s1, h1, h2, h3⟩ | ⟨h1, _⟩
        · simp only [AOp.floor, q4, Bool.false_eq_true, if_false] at h2
          obtain ⟨k1, k2, k3⟩ := keeps_eff q2 h1
          rw [h3]
          refine ⟨k1, fun hn => absurd hk (hn o ho), fun id hid _ => ?_, fun r hr => absurd hr (ha' r)⟩
          exact k3 id hid (by have : id < (S i).next := hid; omega)
        · rw [q1] at h1; cases h1
      · rw [h]
        exact ⟨Nat.le_refl _, fun _ => ⟨rfl, rfl⟩, fun _ _ _ => rfl, fun r hr => absurd hr (ha' r)⟩
    · rw [tr_same hT hres ho hk ha']
      exact ⟨Nat.le_refl _, fun _ => ⟨rfl, rfl⟩, fun _ _ _ => rfl, fun r hr => absurd hr (ha' r)⟩

/-- What was there ahead of the region stays as it is. -/
theorem tr_old {i : Nat} (hi : i < l.length) (hq : Quiet0 l i) (hb : base ≤ (S i).next) : base ≤ (S (i + 1)).next ∧ ∀ id, id < base → (S (i + 1)).get id = (S i).get id := by
  obtain ⟨o, ho⟩ : ∃ o, l[i]? = some o := ⟨l[i]'hi, by simp⟩
  by_cases ha : ∃ r, Al l E i r
  · obtain ⟨r, ha⟩ := ha
    obtain ⟨h1, h2, _⟩ := tr_al hT ha
    rw [h2]
    exact ⟨by simpa using hb, fun id hid => St.get_born_ne _ _ (St.get_lt h1) (by omega)⟩
  · have ha' : ∀ r, ¬ Al l E i r := fun r h => ha ⟨r, h⟩
    by_cases hk : o.op.kind = .write
    · obtain ⟨q1, q2⟩ := hq o ho hk
      rcases hT.step i o ho with ⟨hw, h⟩ | ⟨_, _, h⟩
      · rcases aop_write h hk with ⟨_, s1, h1, h2, h3⟩ | ⟨h1, _⟩
        · obtain ⟨k1, k2, k3⟩ := keeps_eff q2 h1
          have k1' : (S i).next ≤ s1.next := k1
          have h2' : base ≤ s1.low := by
            unfold AOp.floor at h2
            split at h2
            · exact h2
            · omega
          rw [h3]
          refine ⟨by show base ≤ s1.next; omega, fun id hid => ?_⟩
          exact k3 id (by show id < (S i).next; omega) (by omega)
        · rw [q1] at h1; cases h1
      · rw [h]
        exact ⟨hb, fun _ _ => rfl⟩
    · rw [tr_same hT hres ho hk ha']
      exact ⟨hb, fun _ _ => rfl⟩
theorem tr_olds {a : Nat} (hb : base ≤ (S a).next) : ∀ (d : Nat), (∀ i, a ≤ i → i < a + d → Quiet0 l i) → a + d ≤ l.length → base ≤ (S (a + d)).next ∧ ∀ id, id < base → (S (a + d)).get id = (S a).get id
  | 0, _, _ => ⟨hb, fun _ _ => rfl⟩
  | d + 1, hq, hl => by
    obtain ⟨h1, h2⟩ := tr_olds hb d (fun i k1 k2 => hq i k1 (by omega)) (by omega)
    obtain ⟨h3, h4⟩ := tr_old hT hres (by omega) (hq (a + d) (by omega) (by omega)) h1
    rw [show a + (d + 1) = a + d + 1 by omega]
    exact ⟨h3, fun id hid => by rw [h4 id hid, h2 id hid]⟩

variable (huniq : ∀ p q r, Al l E p r → Al l E q r → p = q)
include huniq
theorem tr_between {a : Nat} : ∀ (d : Nat), (∀ i, a ≤ i → i < a + d → Quiet l i) → a + d ≤ l.length → (S a).next ≤ (S (a + d)).next ∧ ((∀ i, a ≤ i → i < a + d → NoWr l i) → (S (a + d)).next = (S a).next ∧ (S (a + d)).low = (S a).low) ∧
    (∀ id, id < (S a).next → (∀ p r, a ≤ p → p < a + d → Al l E p r → id ≠ base + r) → (S (a + d)).get id = (S a).get id) ∧
    (∀ p r, a ≤ p → p < a + d → Al l E p r → base + r < (S a).next → (S (a + d)).get (base + r) = some (Bl l E p))
  | 0, _, _ => ⟨Nat.le_refl _, fun _ => ⟨rfl, rfl⟩, fun _ _ _ => rfl, fun p r h1 h2 => absurd h2 (by omega)⟩
  | d + 1, hq, hl => by
    obtain ⟨h1, h2, h3, h4⟩ := tr_between d (fun i k1 k2 => hq i k1 (by omega)) (by omega)
    obtain ⟨o, ho⟩ : ∃ o, l[a + d]? = some o := ⟨l[a + d]'(by omega), by simp⟩
    obtain ⟨k1, k2, k3, k4⟩ := tr_quiet hT hres ho (hq (a + d) (by omega) (by omega))
    rw [show a + (d + 1) = a + d + 1 by omega]
    refine ⟨Nat.le_trans h1 k1, fun hn => ?_, fun id hid hne => ?_, fun p r p1 p2 ha hlt => ?_⟩
    · obtain ⟨e1, e2⟩ := h2 fun i i1 i2 => hn i i1 (by omega)
      obtain ⟨e3, e4⟩ := k2 (hn (a + d) (by omega) (by omega))
      exact ⟨e3.trans e1, e4.trans e2⟩
    · rw [k3 id (by omega) fun r hr => hne (a + d) r (by omega) (by omega) hr, h3 id hid fun p r p1 p2 => hne p r p1 (by omega)]
    · by_cases hp : p = a + d
      · subst hp
        exact k4 r ha
      · rw [k3 (base + r) (by omega) fun r' hr' e => ?_]
        · exact h4 p r p1 (by omega) ha hlt
        · have : r = r' := by omega
          subst this
          exact hp (huniq _ _ _ ha hr')
end

/-! ### The temporaries behind some of the operations -/
def curE (l : List AOper) (V : Nat → AV) (L : Nat → Bool) (env0 : Env) : Nat → Env
  | 0 => env0
  | k + 1 => match l[k]? with
    | some o => if L k then putE (curE l V L env0 k) o.dst (V k) else curE l V L env0 k
    | none => curE l V L env0 k
theorem putE_len (env : Env) (d : Option Nat) (v : AV) : (putE env d v).length = env.length := by cases d <;> simp [putE]
theorem putE_ne {env : Env} {d : Option Nat} {v : AV} {t : Nat} (h : d ≠ some t) : (putE env d v)[t]? = env[t]? := by
  cases d with
  | none => rfl
  | some d =>
    simp only [putE]
    rw [List.getElem?_set_ne (by simpa using h)]
theorem putE_same {env env' : Env} {t : Nat} {v : AV} (hl : env.length = env'.length) : (putE env (some t) v)[t]? = (putE env' (some t) v)[t]? := by
  simp [putE, List.getElem?_set, hl]
theorem putE_comm {env : Env} {d e : Option Nat} {u v : AV} (h : ∀ t, d = some t → e ≠ some t) : putE (putE env d u) e v = putE (putE env e v) d u := by
  cases d with
  | none => rfl
  | some d =>
    cases e with
    | none => rfl
    | some e =>
      simp only [putE]
      rw [List.set_comm]
      intro q
      exact h d rfl (by rw [q])
section
variable {call : Nat → List AV → St → Option (AV × St)} {base : Nat} {l : List AOper} {S : Nat → St} {E : Nat → Env} {V : Nat → AV} {L : Nat → Bool}
theorem curE_len (env0 : Env) : ∀ k, (curE l V L env0 k).length = env0.length
  | 0 => rfl
  | k + 1 => by
    simp only [curE]
    split
    · split
      · rw [putE_len, curE_len env0 k]
      · exact curE_len env0 k
    · exact curE_len env0 k
theorem E_len (hT : Trace call base l S E V) : ∀ k, k ≤ l.length → (E k).length = (E 0).length
  | 0, _ => rfl
  | k + 1, h => by
    obtain ⟨o, ho⟩ : ∃ o, l[k]? = some o := ⟨l[k]'(by omega), by simp⟩
    rw [hT.env k o ho, putE_len, E_len hT k (by omega)]
/-- What operation 'i' looks at is as in the order of the text. -/
theorem curE_look (hT : Trace call base l S E V) {i t : Nat} (hi : i ≤ l.length) (h1 : ∀ k o, l[k]? = some o → k < i → L k = false → o.dst ≠ some t) (h2 : ∀ k o, l[k]? = some o → i ≤ k → L k = true → o.dst ≠ some t) :
    ∀ k, k ≤ l.length → (curE l V L (E 0) k)[t]? = (E (min k i))[t]?
  | 0, _ => by simp [curE]
  | k + 1, hk => by
    obtain ⟨o, ho⟩ : ∃ o, l[k]? = some o := ⟨l[k]'(by omega), by simp⟩
    have IH := curE_look hT hi h1 h2 k (by omega)
    simp only [curE, ho]
    by_cases hki : k < i
    · rw [Nat.min_eq_left (by omega : k ≤ i)] at IH
      rw [Nat.min_eq_left (by omega : k + 1 ≤ i), hT.env k o ho]
      cases hL : L k
      · simp only [Bool.false_eq_true, if_false]
        rw [putE_ne (h1 k o ho hki hL), IH]
      · simp only [if_true]
        by_cases hd : o.dst = some t
        · rw [hd]
          exact putE_same (by rw [curE_len, E_len hT k (by omega)])
        · rw [putE_ne hd, putE_ne hd, IH]
    · rw [Nat.min_eq_right (by omega : i ≤ k)] at IH
      rw [Nat.min_eq_right (by omega : i ≤ k + 1)]
      cases hL : L k
      · simpa using IH
      · simp only [if_true]
        rw [putE_ne (h2 k o ho (by omega) hL), IH]
/-- One operation more. -/
theorem curE_add {m : Nat} {om : AOper} (hm : l[m]? = some om) (hL : L m = false) (env0 : Env) (h : ∀ k o, l[k]? = some o → m < k → L k = true → ∀ t, om.dst = some t → o.dst ≠ some t) :
    ∀ k, curE l V (fun j => if j = m then true else L j) env0 k = if m < k then putE (curE l V L env0 k) om.dst (V m) else curE l V L env0 k
  | 0 => by simp [curE]
  | k + 1 => by
    have IH := curE_add hm hL env0 h k
    simp only [curE]
    by_cases hk : k = m
    · subst hk
      rw [if_neg (by omega)] at IH
      simp only [hm, IH, hL, if_true, if_pos (show k < k + 1 by omega), Bool.false_eq_true, if_false]
    · cases ho : l[k]? with
      | none =>
        simp only
        rw [IH]
        by_cases hlt : m < k
        · rw [if_pos hlt, if_pos (by omega)]
        · rw [if_neg hlt, if_neg (by omega)]
      | some o =>
        simp only [if_neg hk]
        rw [IH]
        by_cases hlt : m < k
        · rw [if_pos hlt, if_pos (show m < k + 1 by omega)]
          cases hLk : L k
          · simp
          · simp only [if_true]
            rw [putE_comm (h k o ho hlt hLk)]
        · rw [if_neg hlt, if_neg (show ¬ m < k + 1 by omega)]
theorem curE_all (hT : Trace call base l S E V) (hL : ∀ k, k < l.length → L k = true) : ∀ k, k ≤ l.length → curE l V L (E 0) k = E k
  | 0, _ => rfl
  | k + 1, hk => by
    obtain ⟨o, ho⟩ : ∃ o, l[k]? = some o := ⟨l[k]'(by omega), by simp⟩
    simp only [curE, ho, hL k (by omega), if_true, curE_all hT hL k (by omega), hT.env k o ho]
end

/-- Only what is looked at. -/
def maskE (ts : List Nat) (env : Env) : Env := env.mapIdx fun t v => if ts.contains t then v else .any
theorem maskE_at {ts : List Nat} {env : Env} {t : Nat} (h : t ∈ ts) : (maskE ts env)[t]? = env[t]? := by
  simp [maskE, h]
theorem EnvR.mask {env : Env} {tmps : Array Value} (h : EnvR ρ env tmps) (ts : List Nat) : EnvR ρ (maskE ts env) tmps := by
  refine ⟨by simp [maskE, h.len], fun t => ?_⟩
  have := h.at_ t
  simp only [List.getD_eq_getElem?_getD, maskE, List.getElem?_mapIdx] at this ⊢
  cases ht : env[t]? with
  | none => rw [ht] at this; simpa using this
  | some v =>
    rw [ht] at this
    simp only [Option.map_some, Option.getD_some]
    split
    · simpa using this
    · simp [VR]
theorem aev_look {o : AOper} {env env' : Env} (h : ∀ t ∈ o.looks, env[t]? = env'[t]?) : ∀ x ∈ o.op.opds, aev env x = aev env' x := by
  intro x hx
  cases x with
  | t n =>
    have : n ∈ o.looks := by
      unfold AOper.looks
      exact List.mem_append_right _ (List.mem_filterMap.2 ⟨.t n, hx, rfl⟩)
    simp only [aev, List.getD_eq_getElem?_getD, h n this]
  | _ => rfl
theorem wanted_look {o : AOper} {env env' : Env} (h : ∀ t ∈ o.looks, env[t]? = env'[t]?) : wanted o env = wanted o env' := by
  unfold wanted
  cases hg : o.guard with
  | none => rfl
  | some g =>
    obtain ⟨t, b⟩ := g
    have : t ∈ o.looks := by simp [AOper.looks, hg]
    simp only [List.getD_eq_getElem?_getD, h t this]

end Go.AM
