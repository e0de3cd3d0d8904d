/-
  One operation, and a region in the order of the text. Own work of this project.
-/
import Derived.Test.YtihjheckdjocoaaAmOps7
set_option linter.unusedVariables false
set_option linter.unusedSimpArgs false
namespace Go.AM
open Go

variable {P : Program} {ρ : Ren}

/-- No number from 's.next' on is in use. -/
def Free (s : St) (ρ : Ren) : Prop := ∀ id, s.next ≤ id → ρ id = none
theorem Free.step {s s' : St} {ρ ρ' : Ren} {w w' : World} (h : Free s ρ) (k : Step s s' ρ ρ' w w') : Free s' ρ' := fun id hid => by
  have := k.next
  rw [k.ren id (.inr hid)]
  exact h id (by omega)
theorem Free.le {s s' : St} {ρ ρ' : Ren} {w w' : World} (h : Free s ρ) (k : Step s s' ρ ρ' w w') : ρ.le ρ' := k.le fun id h1 _ => h id h1

theorem bool_of_VR {v : AV} {b : Bool} (h : VR ρ v (.bool b)) : v = .bool b ∨ v = .any := by
  cases v <;> simp [VR, undef] at h ⊢
  exact h.symm
theorem wanted_rel {ops : Array Oper} {o : Oper} {env : Env} {a : Act} {g : Option (Nat × Bool)} {d : Option Nat} {op : AOp} {r : Option Nat} {fr : Bool} {b : Bool} (hE : EnvR ρ env a.tmps) (hg : guardOf ops o = some g)
    (hw : wanted ⟨d, op, g, r, fr⟩ env = some b) : Region.wanted o (yielded ops a.tmps) = b := by
  unfold guardOf at hg
  unfold wanted at hw
  unfold Region.wanted
  cases hgo : o.guard with
  | none =>
    rw [hgo] at hg
    injection hg with hg; subst hg
    injection hw
  | some jw =>
    obtain ⟨j, want⟩ := jw
    rw [hgo] at hg
    simp only at hg
    cases hd : (ops[j]?).bind (·.dst) with
    | none => rw [hd] at hg; cases hg
    | some t =>
      rw [hd] at hg
      injection hg with hg; subst hg
      have hv := hE.at_ t
      simp only at hw ⊢
      have hy : yielded ops a.tmps j = match a.tmps[t]? with | some (.bool b) => some b | _ => none := by
        unfold yielded
        rw [hd]
        rfl
      rw [hy]
      cases htm : a.tmps[t]? with
      | none =>
        have hu : a.tmps.getD t undef = undef := by simp [Array.getD_eq_getD_getElem?, htm]
        rw [hu] at hv
        cases hev : env.getD t .und <;> rw [hev] at hv hw <;> simp [VR, undef] at hv hw ⊢ <;> exact hw
      | some c =>
        have hu : a.tmps.getD t undef = c := by simp [Array.getD_eq_getD_getElem?, htm]
        rw [hu] at hv
        by_cases hb : ∃ b, c = .bool b
        · obtain ⟨b, rfl⟩ := hb
          rcases bool_of_VR hv with e | e <;> rw [e] at hw <;> simp only at hw
          · have hw' := Option.some.inj hw
            first
              | exact hw'
              | (rw [← hw']; rfl)
              | (rw [← hw'])
          · cases hw
        · have h1 : (match c with | .bool b => some b | _ => none : Option Bool) = none := by
            cases c <;> first | rfl | exact absurd ⟨_, rfl⟩ hb
          have h2 : ∀ b, env.getD t .und ≠ .bool b := by
            intro b e
            rw [e] at hv
            simp only [VR] at hv
            exact hb ⟨b, hv⟩
          have h3 : (match some c with | some (.bool b) => some b | _ => none : Option Bool) = none := by
            cases c <;> first | rfl | exact absurd ⟨_, rfl⟩ hb
          rw [h3]
          cases hev : env.getD t .und <;> rw [hev] at hw <;> first | exact absurd hev (h2 _) | (injection hw) | (cases hw)

/-- An operation that looks at no memory. -/
theorem wp_pure {o : Oper} {a : Act} {env : Env} {cl : Bool} {v : AV} {w : World} {K : Act → World → Prop} {Q : Exit → Act → World → Prop} (hE : EnvR ρ env a.tmps) (h : apure env (cop P cl o.op) = some v)
    (hK : ∀ c, VR ρ v c → K (a.put o.dst c) w) : o.wp P a w K Q := by
  obtain ⟨c, hc, hrun⟩ := pure_run hE h
  unfold Oper.wp
  rw [hrun w]
  exact hK c hc
theorem wp_read {call : Nat → List AV → St → Option (AV × St)} {o : Oper} {a : Act} {env : Env} {cl : Bool} {s : St} {v : AV} {w : World} {K : Act → World → Prop} {Q : Exit → Act → World → Prop} (hE : EnvR ρ env a.tmps) (hR : R s ρ w)
    (hn : (cop P cl o.op).isCall = false) (h : aread call env s (cop P cl o.op) = some v) (hK : ∀ c, VR ρ v c → K (a.put o.dst c) w) : o.wp P a w K Q := by
  obtain ⟨c, hc, hrun⟩ := read_run hE hR hn h
  unfold Oper.wp
  rw [hrun]
  exact hK c hc

theorem isCall_cl {cl : Bool} {op : Op} {f : Nat} {k : Bool} {args : List AO} (h : cop P cl op = .call f k args) : k = cl := by
  obtain ⟨_, hc⟩ := cop_ok (P := P) (cl := cl) (op := op) (by rw [h]; simp)
  rw [hc] at h
  cases op with
  | call c =>
    simp only [cop0, ccall] at h
    revert h
    repeat' split
    all_goals simp
    intro _ e _
    exact e.symm
  | makeFunc fn first caps =>
    exfalso
    revert h
    cases fn <;> simp only [cop0] <;> (try split) <;> simp
  | _ =>
    exfalso
    revert h
    simp only [cop0]
    repeat' split
    all_goals simp
theorem isCallv_cl {cl : Bool} {op : Op} {x : AO} {k : Bool} {args : List AO} (h : cop P cl op = .callv x k args) : k = cl := by
  obtain ⟨_, hc⟩ := cop_ok (P := P) (cl := cl) (op := op) (by rw [h]; simp)
  rw [hc] at h
  cases op with
  | call c =>
    simp only [cop0, ccall] at h
    revert h
    repeat' split
    all_goals simp
    intro _ e _
    exact e.symm
  | makeFunc fn first caps =>
    exfalso
    revert h
    cases fn <;> simp only [cop0] <;> (try split) <;> simp
  | _ =>
    exfalso
    revert h
    simp only [cop0]
    repeat' split
    all_goals simp

/-- A call, clean or not. -/
theorem wp_callc {call : Nat → List AV → St → Option (AV × St)} (hS : Sound P call) {o : Oper} {a : Act} {env : Env} {s : St} {v : AV} {w : World} {K : Act → World → Prop} {Q : Exit → Act → World → Prop} (hE : EnvR ρ env a.tmps) (hR : R s ρ w) (hf : Free s ρ)
    (hn : (cop P true o.op).isCall = true) (h : aread call env s (cop P true o.op) = some v) (hK : ∀ w' c, Clean w w' → VR ρ v c → K (a.put o.dst c) w') : o.wp P a w K Q := by
  have key : ∃ s', (match (generalizing := false) cop P true o.op with
      | .call f k args => if k = true then acall (call f) k (args.map (aev env)) s else none
      | .callv x k args => if k = true then match aev env x with | .fn g caps => acall (call g) k (args.map (aev env) ++ caps) s | _ => none else none
      | _ => none) = some (v, s') := by
    cases hc : cop P true o.op <;> rw [hc] at hn <;> simp [AOp.isCall] at hn
    · rename_i f k args
      obtain rfl := isCall_cl hc
      rw [hc] at h
      simp only [aread] at h
      obtain ⟨⟨r, s'⟩, hr, rfl⟩ := Option.map_eq_some_iff.1 h
      exact ⟨s', by simpa using hr⟩
    · rename_i x k args
      obtain rfl := isCallv_cl hc
      rw [hc] at h
      simp only [aread] at h
      split at h
      · rename_i g caps hav
        obtain ⟨⟨r, s'⟩, hr, rfl⟩ := Option.map_eq_some_iff.1 h
        exact ⟨s', by simpa [hav] using hr⟩
      · cases h
  obtain ⟨s', hs'⟩ := key
  exact calls_wp hS hE hR hf hn hs' fun ρ' w' c _ _ hv hcl => by
    obtain ⟨rfl, hclean⟩ := hcl rfl
    exact hK w' c hclean hv
theorem wp_calld {call : Nat → List AV → St → Option (AV × St)} (hS : Sound P call) {o : Oper} {a : Act} {env : Env} {s s' : St} {v : AV} {w : World} {K : Act → World → Prop} {Q : Exit → Act → World → Prop} (hE : EnvR ρ env a.tmps) (hR : R s ρ w) (hf : Free s ρ)
    (hn : (cop P false o.op).isCall = true) (h : aeff call env s (cop P false o.op) = some (v, s')) (hK : ∀ ρ' w' c, Step s s' ρ ρ' w w' → R s' ρ' w' → VR ρ' v c → K (a.put o.dst c) w') : o.wp P a w K Q := by
  refine calls_wp hS (cl := false) hE hR hf hn (s' := s') (v := v) ?_ fun ρ' w' c h1 h2 h3 _ => hK ρ' w' c h1 h2 h3
  cases hc : cop P false o.op <;> rw [hc] at hn <;> simp [AOp.isCall] at hn
  · rename_i f k args
    obtain rfl := isCall_cl hc
    rw [hc] at h
    simp only [aeff] at h
    simpa using h
  · rename_i x k args
    obtain rfl := isCallv_cl hc
    rw [hc] at h
    simp only [aeff] at h
    split at h
    · rename_i g caps hav
      simpa [hav] using h
    · cases h

/-- An operation that makes one block, under the number 'id' that is free. -/
theorem wp_alloc {o : Oper} {a : Act} {env : Env} {cl : Bool} {mk : Nat → AV} {b : AB} {w : World} {K : Act → World → Prop} {Q : Exit → Act → World → Prop} (hE : EnvR ρ env a.tmps) (h : aalloc env (cop P cl o.op) = some (mk, b))
    (hK : ∀ (L : Loc) (w' : World) (c : Value), Clean w w' → w.heap.size ≤ L.b → L.b < w'.heap.size → (∀ id ρ', ρ.le ρ' → ρ' id = some L → VR ρ' (mk id) c) → (∀ ρ', ρ.le ρ' → BlkOk ρ' L w' b) → b.owned = true → K (a.put o.dst c) w') : o.wp P a w K Q := by
  obtain ⟨cs, e, c, hrun, hv, cells, rfl, hl, hvs, hone⟩ := alloc_run hE h
  unfold Oper.wp
  rw [hrun w]
  refine hK ⟨w.heap.size, 0, cs.size⟩ _ _ (clean_pushW w _) (Nat.le_refl _) (by simp) (fun id ρ' hle hid => hv id ρ' _ hle hid) (fun ρ' hle => ?_) rfl
  simp only [BlkOk]
  refine ⟨cs, e, (0, 0), pushW_new w _, rfl, by simpa using hl, fun i u hu => ?_, fun _ j _ => by simp, hone⟩
  obtain ⟨d, hd, hvd⟩ := hvs.at_ i hu
  exact ⟨d, by simpa using hd, VR.mono hle _ _ hvd⟩

theorem alloc_not_call {env : Env} {op : AOp} (h : op.isCall = true) : aalloc env op = none ∧ apure env op = none := by
  cases op <;> simp [AOp.isCall] at h <;> exact ⟨rfl, rfl⟩

/-- One operation of a region in the order of the text. -/
theorem aop_wp {call : Nat → List AV → St → Option (AV × St)} (hS : Sound P call) {o : Oper} {a : Act} {env : Env} {s s' : St} {v : AV} {w : World} {g : Option (Nat × Bool)} {base : Nat} {K : Act → World → Prop} {Q : Exit → Act → World → Prop}
    (hE : EnvR ρ env a.tmps) (hR : R s ρ w) (hf : Free s ρ) (h : aop call base ⟨o.dst, cop P false o.op, g, none, false⟩ env s = some (v, s'))
    (hK : ∀ ρ' w' c, Step s s' ρ ρ' w w' → R s' ρ' w' → VR ρ' v c → K (a.put o.dst c) w') : o.wp P a w K Q := by
  unfold aop at h
  simp only at h
  split at h
  · rename_i mk b hal
    injection h with h
    obtain ⟨rfl, rfl⟩ := Prod.mk.inj h
    refine wp_alloc hE hal fun L w' c hcl h1 h2 hv hb ho => ?_
    have hfr := hf s.next (Nat.le_refl _)
    obtain ⟨hr, hst⟩ := hR.push hcl hfr h1 h2 (hb _ (Ren.le_set L hfr))
    exact hK _ w' c hst hr (hv _ _ (Ren.le_set L hfr) (Ren.set_same _ _ _))
  · split at h
    · rename_i u hp
      injection h with h
      obtain ⟨rfl, rfl⟩ := Prod.mk.inj h
      exact wp_pure hE hp fun c hc => hK ρ w c (Step.refl _ _ _) hR hc
    · cases hic : (cop P false o.op).isCall
      · split at h
        · rename_i u hrd
          simp only [Bool.false_and, Bool.false_eq_true, if_false] at h
          injection h with h
          obtain ⟨rfl, rfl⟩ := Prod.mk.inj h
          exact wp_read hE hR hic hrd fun c hc => hK ρ w c (Step.refl _ _ _) hR hc
        · simp only [Bool.false_eq_true, if_false] at h
          exact effs_wp hE hR (fun id h1 _ => hf id h1) hic h hK
      · have hnr : aread call env s (cop P false o.op) = none := by
          cases hc : cop P false o.op <;> rw [hc] at hic <;> simp [AOp.isCall] at hic
          · obtain rfl := isCall_cl hc; rfl
          · obtain rfl := isCallv_cl hc; rfl
        rw [hnr] at h
        simp only [Bool.false_eq_true, if_false] at h
        exact wp_calld hS hE hR hf hic h hK

theorem EnvR.step {s s' : St} {ρ ρ' : Ren} {w w' : World} {env : Env} {tmps : Array Value} (hE : EnvR ρ env tmps) (hf : Free s ρ) (h : Step s s' ρ ρ' w w') : EnvR ρ' env tmps := hE.mono (hf.le h)

/-- The operations from number 'k' on, in the order of the text. -/
theorem aops_wp {call : Nat → List AV → St → Option (AV × St)} (hS : Sound P call) {ops : Array Oper} {base : Nat} {Q : Exit → Act → World → Prop} : ∀ (os : List Oper) (k : Nat) (l : List AOper) (env env' : Env) (s s' : St) (ρ : Ren) (a : Act) (w : World),
    (∀ j, os[j]? = ops[k + j]?) → cregP P ops os = some l → aops call base l env s = some (env', s') → EnvR ρ env a.tmps → R s ρ w → Free s ρ → a.defers = [] →
    (∀ ρ' a' w', Step s s' ρ ρ' w w' → R s' ρ' w' → Free s' ρ' → EnvR ρ' env' a'.tmps → a'.defers = [] → Q .normal a' w') → wpOps P ops Q (List.range' k os.length) a w
  | [], k, l, env, env', s, s', ρ, a, w, _, hl, h, hE, hR, hf, hd, hQ => by
    simp only [cregP] at hl
    injection hl with hl; subst hl
    simp only [aops] at h
    injection h with h
    obtain ⟨rfl, rfl⟩ := Prod.mk.inj h
    exact hQ ρ a w (Step.refl _ _ _) hR hf hE hd
  | o :: os, k, l, env, env', s, s', ρ, a, w, hix, hl, h, hE, hR, hf, hd, hQ => by
    simp only [cregP] at hl
    split at hl
    · rename_i g l' hg hl'
      injection hl with hl; subst hl
      have ho : ops[k]? = some o := by have := hix 0; simpa using this.symm
      simp only [List.length_cons, List.range'_succ, wpOps, ho]
      simp only [aops] at h
      split at h
      · rename_i hwt
        rw [wanted_rel hE hg hwt, if_pos rfl]
        left
        split at h
        · rename_i v s1 hop
          refine aop_wp hS hE hR hf hop fun ρ' w' c hst hr hv => ?_
          refine aops_wp hS os (k + 1) l' _ env' s1 s' ρ' _ w' (fun j => by have := hix (j + 1); simpa [Nat.add_assoc, Nat.add_comm 1] using this) hl' h ((hE.step hf hst).put hv o.dst) hr (hf.step hst) ?_ ?_
          · cases hdst : o.dst <;> simpa [Act.put] using hd
          · intro ρ2 a2 w2 hst2 hr2 hf2 hE2 hd2
            exact hQ ρ2 a2 w2 (hst.trans hst2) hr2 hf2 hE2 hd2
        · cases h
      · rename_i hwt
        rw [wanted_rel hE hg hwt, if_neg (by simp)]
        refine aops_wp hS os (k + 1) l' _ env' s s' ρ _ w (fun j => by have := hix (j + 1); simpa [Nat.add_assoc, Nat.add_comm 1] using this) hl' h (hE.put (by simp [VR]) o.dst) hR hf ?_ hQ
        cases hdst : o.dst <;> simpa [Act.put] using hd
      · cases h
    · cases hl

end Go.AM
