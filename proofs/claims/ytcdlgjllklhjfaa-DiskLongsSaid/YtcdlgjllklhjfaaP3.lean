/-
  Ranges over functions: code in a round's frame; an iterator's code, the round's body in the place of yield; the statement. Own work of this project.
-/
import Derived.Test.YtcdlgjllklhjfaaP2
import Derived.RangeFuncRecord
import Derived.RangeFuncCalls
import Derived.OrdersIn
import Derived.LoopNIn
import Derived.Test.YtcdlgjllklhjfaaProg
import Derived.KernelRfl
import Derived.ProofKit
import Derived.Carry
import Derived.Deep.Slices
import Derived.HandedShaped
import Derived.OpenShut
set_option linter.unusedVariables false
set_option linter.unusedSimpArgs false
section
namespace Go.AM
open Go

variable {P : Program} {ρ : Ren}

/-! ### Fences -/
def fenceAt (ro : Option Nat) : Fence := { Fence.wide with round := ro }
theorem calls_in {ro : Option Nat} {n : Nat} {f : FuncId} {args : Array Value} {w : World} {R : Ending → World → Prop} (h : Calls P f args w R) : CallsIn (fenceAt ro) n P f args w R := by
  cases ro with
  | none => exact callsIn_wide.2 h
  | some l => exact CallsIn.inRound l (callsIn_wide.2 h)
theorem steps_in {ro : Option Nat} {m m' : Machine} (h : Steps P m m') : StepsIn (Machine.fenced P (fenceAt ro)) P m m' := by
  have := (stepsIn_wide (P := P)).2 h
  cases ro <;> exact this
theorem rows_in {ro : Option Nat} {n : Nat} {row : String} {args : Array Value} {w : World} {R : Value → World → Prop} (h : Rows P row args w R) : RowsIn (fenceAt ro) n P row args w R := fun c cs _ => by
  obtain ⟨v, w', h1, h2⟩ := h c cs
  exact ⟨v, w', h1, steps_in h2⟩
def isDefer : Op → Bool
  | .defer _ => true
  | _ => false
theorem oper_in {ro : Option Nat} {n : Nat} {o : Oper} {a : Act} {w : World} {K : Act → World → Prop} {Q : Exit → Act → World → Prop} (hnd : ro = none ∨ isDefer o.op = false) (h : o.wp P a w K Q) : o.wpIn (fenceAt ro) n P a w K Q := by
  refine ⟨fun _ _ => trivial, ?_⟩
  have he : o.semAt (fenceAt ro).round a.eval = execOp a.eval o := by
    rcases hnd with rfl | hnd
    · rfl
    · exact Oper.semAt_eq _ _ _ fun c e => by rw [e] at hnd; cases hnd
  rw [he]
  unfold Oper.wp at h
  generalize (execOp a.eval o).run P w = r at *
  cases r with
  | ok x w' =>
    cases x with
    | value v => exact h
    | skip => exact h
    | defer d => exact h
    | enter f args => exact ⟨fun q => by simp [fenceAt, Fence.wide] at q, calls_in h⟩
    | row row args => exact ⟨fun q => by simp [fenceAt, Fence.wide] at q, rows_in h⟩
    | round l f tmps a b => exact h.elim
    | _ => exact h.elim
  | halt x w' => cases x <;> first | exact h | exact h.elim
def noDefers (ops : Array Oper) : Bool := ops.all fun o => !isDefer o.op
def noDefer : Code → Bool
  | .region _ ops _ => noDefers ops
  | .seq a b | .cond _ a b => noDefer a && noDefer b
  | .block _ c | .loop c => noDefer c
  | .rangeFunc .. => false
  | _ => true
theorem noDefers_at {ops : Array Oper} (h : noDefers ops = true) {i : Nat} {o : Oper} (ho : ops[i]? = some o) : isDefer o.op = false := by
  have := (Array.all_eq_true'.1 h) o (Array.mem_of_getElem? ho)
  simpa using this
theorem any_in {ro : Option Nat} {n : Nat} {md : Region.Mode} {ops : Array Oper} {Q : Exit → Act → World → Prop} (hnd : ro = none ∨ noDefers ops = true) (hq : ¬ LetsOut Q) : ∀ (fuel : Nat) (listed : Array Bool) (a : Act) (w : World),
    wpAny P md ops Q fuel listed a w → wpAnyIn (fenceAt ro) n P md ops Q fuel listed a w
  | 0, _, _, _, h => h
  | fuel + 1, listed, a, w, h => by
    refine ⟨h.1, fun i hi => ?_⟩
    have h2 := h.2 i hi
    unfold wpOp at h2
    unfold wpOpIn
    cases ho : ops[i]? with
    | none => rw [ho] at h2; exact any_in hnd hq fuel _ a w h2
    | some o =>
      rw [ho] at h2
      simp only at h2 ⊢
      split
      · rename_i hw
        rw [if_pos hw] at h2
        rcases h2 with h2 | h2
        · exact Oper.wpIn_mono (fun a w => any_in hnd hq fuel _ a w) (oper_in (hnd.imp id fun q => noDefers_at q ho) h2)
        · exact absurd h2.2 hq
      · rename_i hw
        rw [if_neg hw] at h2
        exact ⟨fun _ _ => trivial, any_in hnd hq fuel _ _ w h2⟩

/-! ### Code in any such frame -/
variable {ro : Option Nat} {n : Nat}
theorem awops_in {call : Nat → List AV → St → Option (AV × St)} (hS : Sound P call) {ops : Array Oper} {base : Nat} {Q : Exit → Act → World → Prop} {Qa : Env → St → Prop} {df : List Deferred} {rest : List Nat} (hnd : ro = none ∨ noDefers ops = true) : ∀ (os : List Oper) (k : Nat) (l : List AOper) (env : Env) (s : St) (ρ : Ren) (a : Act) (w : World),
    (∀ j o, os[j]? = some o → ops[k + j]? = some o) → cregP P ops os = some l → awops call base l Qa env s → EnvR ρ env a.tmps → R s ρ w → Free s ρ → a.defers = df →
    (∀ env' s' ρ' a' w', Qa env' s' → Step s s' ρ ρ' w w' → R s' ρ' w' → Free s' ρ' → EnvR ρ' env' a'.tmps → a'.defers = df → wpOpsIn (fenceAt ro) n P ops Q rest a' w') → wpOpsIn (fenceAt ro) n P ops Q (List.range' k os.length ++ rest) a w
  | [], k, l, env, s, ρ, a, w, _, hl, h, hE, hR, hf, hd, hQ => by
    simp only [cregP] at hl
    injection hl with hl; subst hl
    simp only [awops] at h
    exact hQ env s ρ a w h (Step.refl _ _ _) hR hf hE hd
  | o :: os, k, l, env, s, ρ, a, w, hix, hl, h, hE, hR, hf, hd, hQ => by
    simp only [cregP] at hl
    split at hl
    · rename_i g l' hg hl'
      injection hl with hl; subst hl
      have ho : ops[k]? = some o := by simpa using hix 0 o (by simp)
      simp only [List.length_cons, List.range'_succ, List.cons_append, wpOpsIn, ho]
      have hix' : ∀ j o', os[j]? = some o' → ops[k + 1 + j]? = some o' := fun j o' hj => by have := hix (j + 1) o' (by simpa using hj); simpa [Nat.add_assoc, Nat.add_comm 1] using this
      have hnd' := hnd.imp id fun q => noDefers_at q ho
      simp only [awops] at h
      split at h
      · rename_i hwt
        rw [wanted_rel hE hg hwt, if_pos rfl]
        have hgo : ∀ v s1 ρ' w' c, awops call base l' Qa (putE env o.dst v) s1 → Step s s1 ρ ρ' w w' → R s1 ρ' w' → VR ρ' v c → wpOpsIn (fenceAt ro) n P ops Q (List.range' (k + 1) os.length ++ rest) (a.put o.dst c) w' := by
          intro v s1 ρ' w' c hrest hst hr hv
          refine awops_in (df := df) hS hnd os (k + 1) l' _ s1 ρ' _ w' hix' hl' hrest ((hE.step hf hst).put hv o.dst) hr (hf.step hst) ?_ ?_
          · cases hdst : o.dst <;> simpa [Act.put] using hd
          · intro env2 s2 ρ2 a2 w2 hq2 hst2 hr2 hf2 hE2 hd2
            exact hQ env2 s2 ρ2 a2 w2 hq2 (hst.trans hst2) hr2 hf2 hE2 hd2
        split at h
        · rename_i x hopx
          exact oper_in hnd' (next_wp hE hR hopx h fun v s1 w' c hrest hst hr hv => hgo v s1 ρ w' c hrest hst hr hv)
        · split at h
          · rename_i v s1 hop
            exact oper_in hnd' (aop_wp hS hE hR hf hop fun ρ' w' c hst hr hv => hgo v s1 ρ' w' c h hst hr hv)
          · exact h.elim
      · rename_i hwt
        rw [wanted_rel hE hg hwt, if_neg (by simp)]
        refine ⟨fun _ _ => trivial, awops_in (df := df) hS hnd os (k + 1) l' _ s ρ _ w hix' hl' h (hE.put (by simp [VR]) o.dst) hR hf ?_ hQ⟩
        cases hdst : o.dst <;> simpa [Act.put] using hd
      · exact h.elim
    · cases hl
theorem regd_in {call : Nat → List AV → St → Option (AV × St)} (hS : Sound P call) (hm : P.follows .mixedOrders = true) {id : Nat} {ops : Array Oper} {l : List AOper} {k m : Nat} {env env' : Env} {s s' : St} {a : Act} {w : World} {Q : Exit → Act → World → Prop} {df : List Deferred} (hnd : ro = none ∨ noDefers ops = true)
    (hcreg : cregD P (ancs ops) ops ops.toList 0 0 = some (l, m)) (hdraw : drawOk (ancs ops) ops l k = true) (h : aops call s.next l env (s.reserve k) = some (env', s')) (hE : EnvR ρ env a.tmps) (hR : R s ρ w) (hf : Free s ρ) (hd : a.defers = df)
    (hQ : ∀ ρ' a' w', Step s s' ρ ρ' w w' → R s' ρ' w' → Free s' ρ' → EnvR ρ' env' a'.tmps → a'.defers = df → Q .normal a' w') : (Code.region id ops true).wpIn (fenceAt ro) n P Q a w := by
  refine wpIn_mono (Q := fun e a w => e = .normal ∧ Q e a w) (wpIn_region_any hm (any_in hnd ?_ _ _ _ _ (regd_any hS hcreg hdraw h hE hR hf hd fun ρ' a' w' g1 g2 g3 g4 g5 => ⟨rfl, hQ ρ' a' w' g1 g2 g3 g4 g5⟩))) fun e a w q => q.2
  rintro ⟨_, _, h, _⟩
  cases h

theorem regw_in {call : Nat → List AV → St → Option (AV × St)} (hS : Sound P call) (hm : P.follows .mixedOrders = true) {id : Nat} {ops : Array Oper} {l : List AOper} {chk : List (Nat × Nat)} {env env' : Env} {s s' : St} {a : Act} {w : World} {Q : Exit → Act → World → Prop} {df : List Deferred} (hnd : ro = none ∨ noDefers ops = true)
    (hcreg : cregW P ops = some (l, chk)) (h : aops call s.next l env s = some (env', s')) (hc : chkP chk s env') (hE : EnvR ρ env a.tmps) (hR : R s ρ w) (hf : Free s ρ) (hd : a.defers = df)
    (hQ : ∀ ρ' a' w', Step s s' ρ ρ' w w' → R s' ρ' w' → Free s' ρ' → EnvR ρ' env' a'.tmps → a'.defers = df → Q .normal a' w') : (Code.region id ops true).wpIn (fenceAt ro) n P Q a w := by
  refine wpIn_mono (Q := fun e a w => e = .normal ∧ Q e a w) (wpIn_region_any hm (any_in hnd ?_ _ _ _ _ (regw_any hS hcreg h hc hE hR hf hd fun ρ' a' w' g1 g2 g3 g4 g5 => ⟨rfl, hQ ρ' a' w' g1 g2 g3 g4 g5⟩))) fun e a w q => q.2
  rintro ⟨_, _, h, _⟩
  cases h
theorem awp_in {call : Nat → List AV → St → Option (AV × St)} (hS : Sound P call) (hm : P.follows .mixedOrders = true) {df : List Deferred} : ∀ (c : Code) (Qa : AEx → Env → St → Prop) (env : Env) (s : St) (ρ : Ren) (a : Act) (w : World) (Q : Exit → Act → World → Prop), ro = none ∨ noDefer c = true →
    awp call (ccode P c) Qa env s → EnvR ρ env a.tmps → R s ρ w → Free s ρ → a.defers = df →
    (∀ x env' s' ρ' a' w', Qa x env' s' → Step s s' ρ ρ' w w' → R s' ρ' w' → Free s' ρ' → EnvR ρ' env' a'.tmps → a'.defers = df → Q x.out a' w') → c.wpIn (fenceAt ro) n P Q a w := by
  intro c
  induction c with
  | skip =>
    intro Qa env s ρ a w Q _ h hE hR hf hd hQ
    simp only [ccode, awp] at h
    exact wpIn_skip (hQ .nor env s ρ a w h (.refl _ _ _) hR hf hE hd)
  | exit id =>
    intro Qa env s ρ a w Q _ h hE hR hf hd hQ
    simp only [ccode, awp] at h
    exact wpIn_exit (hQ (.exit id) env s ρ a w h (.refl _ _ _) hR hf hE hd)
  | ret =>
    intro Qa env s ρ a w Q _ h hE hR hf hd hQ
    simp only [ccode, awp] at h
    exact wpIn_ret (hQ .ret env s ρ a w h (.refl _ _ _) hR hf hE hd)
  | seq c d ihc ihd =>
    intro Qa env s ρ a w Q hnd h hE hR hf hd hQ
    simp only [ccode, awp] at h
    have hnd1 : ro = none ∨ noDefer c = true := hnd.imp id fun q => by simp only [noDefer, Bool.and_eq_true] at q; exact q.1
    have hnd2 : ro = none ∨ noDefer d = true := hnd.imp id fun q => by simp only [noDefer, Bool.and_eq_true] at q; exact q.2
    refine wpIn_seq (ihc _ env s ρ a w _ hnd1 h hE hR hf hd fun x env1 s1 ρ1 a1 w1 hx g1 g2 g3 g4 g5 => ?_)
    cases x with
    | nor => exact ihd Qa env1 s1 ρ1 a1 w1 Q hnd2 hx g4 g2 g3 g5 fun y env2 s2 ρ2 a2 w2 hy k1 k2 k3 k4 k5 => hQ y env2 s2 ρ2 a2 w2 hy (g1.trans k1) k2 k3 k4 k5
    | exit id => exact hQ (.exit id) env1 s1 ρ1 a1 w1 hx g1 g2 g3 g4 g5
    | ret => exact hQ .ret env1 s1 ρ1 a1 w1 hx g1 g2 g3 g4 g5
  | cond q c d ihc ihd =>
    intro Qa env s ρ a w Q hnd h hE hR hf hd hQ
    have hnd1 : ro = none ∨ noDefer c = true := hnd.imp id fun q => by simp only [noDefer, Bool.and_eq_true] at q; exact q.1
    have hnd2 : ro = none ∨ noDefer d = true := hnd.imp id fun q => by simp only [noDefer, Bool.and_eq_true] at q; exact q.2
    simp only [ccode] at h
    split at h
    · rename_i hok
      simp only [awp] at h
      have hv := aev_rel hE hok
      split at h
      · rename_i hb
        rw [hb] at hv
        simp only [VR] at hv
        exact wpIn_cond_true hv (ihc Qa env s ρ a w Q hnd1 h hE hR hf hd hQ)
      · rename_i hb
        rw [hb] at hv
        simp only [VR] at hv
        exact wpIn_cond_false hv (ihd Qa env s ρ a w Q hnd2 h hE hR hf hd hQ)
      · exact h.elim
    · simp only [awp] at h
  | block id c ih =>
    intro Qa env s ρ a w Q hnd h hE hR hf hd hQ
    simp only [ccode, awp] at h
    refine wpIn_block (ih _ env s ρ a w _ hnd h hE hR hf hd fun x env1 s1 ρ1 a1 w1 hx g1 g2 g3 g4 g5 => ?_)
    cases x with
    | nor => exact hQ .nor env1 s1 ρ1 a1 w1 hx g1 g2 g3 g4 g5
    | exit i =>
      simp only at hx
      by_cases hi : i = id
      · rw [if_pos hi] at hx
        simp only [AEx.out, Exit.inBlock, if_pos hi]
        exact hQ .nor env1 s1 ρ1 a1 w1 hx g1 g2 g3 g4 g5
      · rw [if_neg hi] at hx
        simp only [AEx.out, Exit.inBlock, if_neg hi]
        exact hQ (.exit i) env1 s1 ρ1 a1 w1 hx g1 g2 g3 g4 g5
    | ret => exact hQ .ret env1 s1 ρ1 a1 w1 hx g1 g2 g3 g4 g5
  | loop c ih =>
    intro Qa env s ρ a w Q hnd h hE hR hf hd hQ
    simp only [ccode, awp] at h
    obtain ⟨m, h⟩ := h
    refine wpIn_loop_rounds m ?_
    induction m generalizing env s ρ a w with
    | zero => exact h.elim
    | succ m ihn =>
      simp only [arounds] at h
      simp only [Code.roundsIn]
      refine ih _ env s ρ a w _ hnd h hE hR hf hd fun x env1 s1 ρ1 a1 w1 hx g1 g2 g3 g4 g5 => ?_
      cases x with
      | nor => exact ihn env1 s1 ρ1 a1 w1 g4 g2 g3 g5 (fun y env2 s2 ρ2 a2 w2 hy k1 k2 k3 k4 k5 => hQ y env2 s2 ρ2 a2 w2 hy (g1.trans k1) k2 k3 k4 k5) hx
      | exit id => exact hQ (.exit id) env1 s1 ρ1 a1 w1 hx g1 g2 g3 g4 g5
      | ret => exact hQ .ret env1 s1 ρ1 a1 w1 hx g1 g2 g3 g4 g5
  | region id ops draw =>
    intro Qa env s ρ a w Q hnd h hE hR hf hd hQ
    cases draw
    · simp only [ccode] at h
      split at h
      · rename_i l hl
        simp only [awp] at h
        refine wpIn_region ?_
        rw [List.range_eq_range']
        have := awops_in (n := n) (Q := Q) (rest := []) hS hnd ops.toList 0 l env s ρ a w (fun j o hj => by simpa using hj) hl h hE hR hf hd fun env' s' ρ' a' w' hq g1 g2 g3 g4 g5 => hQ .nor env' s' ρ' a' w' hq g1 g2 g3 g4 g5
        simpa using this
      · simp only [awp] at h
    · simp only [ccode, cdraw] at h
      split at h
      · rename_i l chk hl
        simp only [awp] at h
        obtain ⟨env1, s1, ho, hck, hq⟩ := h
        exact regw_in hS hm hnd hl ho hck hE hR hf hd fun ρ' a' w' g1 g2 g3 g4 g5 => hQ .nor env1 s1 ρ' a' w' hq g1 g2 g3 g4 g5
      split at h
      · rename_i l k hl
        split at h
        · rename_i hdr
          simp only [awp] at h
          obtain ⟨env1, s1, ho, hq⟩ := h
          exact regd_in hS hm hnd hl hdr ho hE hR hf hd fun ρ' a' w' g1 g2 g3 g4 g5 => hQ .nor env1 s1 ρ' a' w' hq g1 g2 g3 g4 g5
        · simp only [awp] at h
      · simp only [awp] at h
  | _ =>
    intro Qa env s ρ a w Q _ h hE hR hf hd hQ
    simp only [ccode, awp] at h

end Go.AM
end
/-
  Ranges over functions, the second part: code with such statements, what holds behind it, and its soundness. Own work of this project.
-/
section
namespace Go.AM
open Go

/-- An iterator's code: regions in which yield is called stand apart. -/
inductive AY where
  | base (c : AC)
  | seq (a b : AY)
  | cond (c : AO) (a b : AY)
  | block (id : Nat) (c : AY)
  | loop (c : AY)
  | yld (pre : List AOper) (dst : Option Nat) (x : AO) (args : List AO) (post : List AOper)
/-- A function's code. 'rf': the function that is ranged over, yield's parameters, the assignment, the body; the iterators that may come up: number, temporaries, code. -/
inductive AI where
  | base (c : AC)
  | seq (a b : AI)
  | cond (c : AO) (a b : AI)
  | block (id : Nat) (c : AI)
  | loop (c : AI)
  | rf (g : AO) (ps : List Nat) (asg body : AC) (its : List (Nat × Nat × AY))
structure AFnI where
  ntmps : Nat
  results : List AR
  body : AI

def splitY : List AOper → Option (List AOper × Option Nat × AO × List AO × List AOper)
  | [] => none
  | o :: r => match o.op, o.guard with
    | .callv x false args, none => some ([], o.dst, x, args, r)
    | _, _ => (splitY r).map fun (a, d, x, args, b) => (o :: a, d, x, args, b)
variable (P : Program) in
def ccodeY : Code → AY
  | .seq a b => .seq (ccodeY a) (ccodeY b)
  | .cond c a b => if (copd c).ok then .cond (copd c) (ccodeY a) (ccodeY b) else .base .bad
  | .block id c => .block id (ccodeY c)
  | .loop c => .loop (ccodeY c)
  | .region id ops false => match cregP P ops ops.toList with
    | some l => match splitY l with
      | some (a, d, x, args, b) => .yld a d x args b
      | none => .base (ccode P (.region id ops false))
    | none => .base .bad
  | c => .base (ccode P c)
def hasRf : Code → Bool
  | .rangeFunc .. => true
  | .seq a b | .cond _ a b => hasRf a || hasRf b
  | .block _ c | .loop c => hasRf c
  | _ => false
variable (P : Program) (its : List Nat) in
def iters : List (Nat × Nat × AY) := its.filterMap fun f => match P.funcs[f]? with
  | some fn => if callable P f && fn.results.size == 0 then fn.body.map fun c => (f, fn.ntmps, ccodeY P c) else none
  | none => none
variable (P : Program) (its : List Nat) in
def ccodeI : Code → AI
  | .rangeFunc g ps asg body => if (copd g).ok && noDefer asg && noDefer body then .rf (copd g) ps.toList (ccode P asg) (ccode P body) (iters P its) else .base .bad
  | .seq a b => if hasRf a || hasRf b then .seq (ccodeI a) (ccodeI b) else .base (ccode P (.seq a b))
  | .cond c a b => if hasRf a || hasRf b then (if (copd c).ok then .cond (copd c) (ccodeI a) (ccodeI b) else .base .bad) else .base (ccode P (.cond c a b))
  | .block id c => if hasRf c then .block id (ccodeI c) else .base (ccode P (.block id c))
  | .loop c => if hasRf c then .loop (ccodeI c) else .base (ccode P (.loop c))
  | c => .base (ccode P c)
def cfnI (P : Program) (its : List Nat) (fn : Func) : Option AFnI :=
  match fn.body, cres P fn.results.toList with
  | some c, some rs => some { ntmps := fn.ntmps, results := rs, body := ccodeI P its c }
  | _, _ => none

def setPs (env : Env) : List Nat → List AV → Env
  | p :: ps, v :: vs => setPs (env.set p v) ps vs
  | _, _ => env
abbrev YP := Option AEx
def aroundsY (body : YP → (YP → AEx → Env → St → Prop) → Env → St → Prop) (Q : YP → AEx → Env → St → Prop) : Nat → YP → Env → St → Prop
  | 0, _, _, _ => False
  | n + 1, p, env, s => body p (fun p x e t => match x with
    | .nor => aroundsY body Q n p e t
    | x => Q p x e t) env s
/-- What holds behind an iterator's code; 'p': how a round has left the statement, if one has. -/
def awpY (call : Nat → List AV → St → Option (AV × St)) (yv : AV) (Yd : List AV → (YP → AV → St → Prop) → St → Prop) : AY → YP → (YP → AEx → Env → St → Prop) → Env → St → Prop
  | .base c, p, Q, env, s => awp call c (Q p) env s
  | .seq a b, p, Q, env, s => awpY call yv Yd a p (fun p x e t => match x with
    | .nor => awpY call yv Yd b p Q e t
    | x => Q p x e t) env s
  | .cond c a b, p, Q, env, s => match aev env c with
    | .bool true => awpY call yv Yd a p Q env s
    | .bool false => awpY call yv Yd b p Q env s
    | _ => False
  | .block id c, p, Q, env, s => awpY call yv Yd c p (fun p x e t => match x with
    | .exit i => if i = id then Q p .nor e t else Q p (.exit i) e t
    | x => Q p x e t) env s
  | .loop c, p, Q, env, s => ∃ n, aroundsY (awpY call yv Yd c) Q n p env s
  | .yld pre dst x args post, p, Q, env, s => awops call s.next pre (fun e t => aev e x = yv ∧ p = none ∧ Yd (args.map (aev e)) (fun p' v t' => awops call t'.next post (Q p' .nor) (putE e dst v) t') t) env s
/-- A round. -/
def roundY (call : Nat → List AV → St → Option (AV × St)) (ps : List Nat) (asg body : AC) (env : Env) (args : List AV) (K : YP → AV → St → Prop) (t : St) : Prop :=
  args.length = ps.length ∧ awp call asg (fun x e t1 => x = .nor ∧ awp call body (fun x _ t2 => match x with
    | .nor => K none (.bool true) t2
    | x => K (some x) (.bool false) t2) e t1) (setPs env ps args) t
def findI (f : Nat) : List (Nat × Nat × AY) → Option (Nat × AY)
  | [] => none
  | (g, n, y) :: r => if f = g then some (n, y) else findI f r
def awpI (call : Nat → List AV → St → Option (AV × St)) : AI → (AEx → Env → St → Prop) → Env → St → Prop
  | .base c, Q, env, s => awp call c Q env s
  | .seq a b, Q, env, s => awpI call a (fun x e t => match x with
    | .nor => awpI call b Q e t
    | x => Q x e t) env s
  | .cond c a b, Q, env, s => match aev env c with
    | .bool true => awpI call a Q env s
    | .bool false => awpI call b Q env s
    | _ => False
  | .block id c, Q, env, s => awpI call c (fun x e t => match x with
    | .exit i => if i = id then Q .nor e t else Q (.exit i) e t
    | x => Q x e t) env s
  | .loop c, Q, env, s => ∃ n, arounds (awpI call c) Q n env s
  | .rf g ps asg body its, Q, env, s => match aev env g with
    | .fn f caps => match findI f its with
      | some (n, y) => ∀ l, awpY call (.yd l) (roundY call ps asg body env) y none (fun p x _ t => (∀ i, x ≠ .exit i) ∧ match p with
          | none => Q .nor env t
          | some x => Q x env t) ((.yd l :: caps) ++ List.replicate (n - (AV.yd l :: caps).length) .und) s
      | none => False
    | _ => False

variable {P : Program} {ρ : Ren}

/-! ### Blocks that no abstract block stands for -/
def isSys : Obj → Bool
  | .loop _ | .deferred _ => true
  | _ => false
theorem sys_ne {s : St} {w : World} (hR : R s ρ w) {id : Nat} {L : Loc} {b : AB} (hL : ρ id = some L) (hg : s.get id = some b) (hb : b.live = true) {k : Nat} {o : Obj} (ho : w.heap[k]? = some o) (hs : isSys o = true) : L.b ≠ k := by
  rintro rfl
  have h := hR.blk id b L hg hL
  cases b <;> simp [AB.live] at hb <;> simp only [BlkOk] at h
  · obtain ⟨cs, e, fr, h1, _⟩ := h
    rw [ho] at h1; injection h1 with h1; subst h1; cases hs
  · obtain ⟨ces, h1, _⟩ := h
    rw [ho] at h1; injection h1 with h1; subst h1; cases hs
  · obtain ⟨m', h1, _⟩ := h
    rw [ho] at h1; injection h1 with h1; subst h1; cases hs
theorem Step.sys {s s' : St} {ρ' : Ren} {w w' : World} (h : Step s s' ρ ρ' w w') (hR : R s ρ w) {k : Nat} {o : Obj} (ho : w.heap[k]? = some o) (hs : isSys o = true) : w'.heap[k]? = some o := by
  rw [h.frame k (Array.getElem?_eq_some_iff.1 ho).1 fun id L b _ hL hg hb => sys_ne hR hL hg (AB.live_of_owned hb) ho hs]
  exact ho
theorem R.sys {s : St} {w : World} (hR : R s ρ w) {k : Nat} {o : Obj} (ho : w.heap[k]? = some o) (hs : isSys o = true) (o' : Obj) : R s ρ (w.putObj k o') := by
  refine ⟨fun id L hL => by rw [World.putObj_size]; exact hR.bound id L hL, fun id b L hg hL => ?_, hR.inj⟩
  have h := hR.blk id b L hg hL
  cases hb : b.live
  · cases b <;> simp [AB.live] at hb <;> exact trivial
  · exact h.same (World.putObj_heap_other (sys_ne hR hL hg hb ho hs))
theorem putObj_self {w : World} {k : Nat} {o : Obj} (h : w.heap[k]? = some o) : w.putObj k o = w := by
  have : w.heap.setIfInBounds k o = w.heap := by
    apply Array.ext_getElem?
    intro i
    by_cases hi : i = k
    · subst hi
      rw [Array.getElem?_setIfInBounds_self_of_lt (Array.getElem?_eq_some_iff.1 h).1, h]
    · rw [Array.getElem?_setIfInBounds_ne (Ne.symm hi)]
  unfold World.putObj
  rw [this]
theorem putObj_put (w : World) (k : Nat) (a b : Obj) : (w.putObj k a).putObj k b = w.putObj k b := by
  unfold World.putObj
  simp
theorem putObj_at {w : World} {k : Nat} {o o' : Obj} (h : w.heap[k]? = some o') : (w.putObj k o).heap[k]? = some o := World.putObj_heap_same (Array.getElem?_eq_some_iff.1 h).1
/-- The same step, told of the world in which the record lies as it lay. -/
theorem Step.reloop {s s' : St} {ρ' : Ren} {G W W' : World} {k : Nat} {o o0 : Obj} (h : Step s s' ρ ρ' W W') (hW : W = G.putObj k o) (hG : G.heap[k]? = some o0) : Step s s' ρ ρ' G (W'.putObj k o0) := by
  subst hW
  have hsz := h.size
  rw [World.putObj_size] at hsz
  have hk : k < W'.heap.size := Nat.lt_of_lt_of_le (Array.getElem?_eq_some_iff.1 hG).1 hsz
  refine ⟨h.next, h.low, h.ren, by rw [World.putObj_size]; exact hsz, h.os, h.tape, h.output, h.drawn, fun b hb H => ?_, h.old, fun id L b h1 h2 h3 h4 => by have := h.new id L b h1 h2 h3 h4; rwa [World.putObj_size] at this, h.unm⟩
  by_cases hbk : b = k
  · subst hbk
    rw [World.putObj_heap_same hk, hG]
  · rw [World.putObj_heap_other hbk, h.frame b (by rw [World.putObj_size]; exact hb) H, World.putObj_heap_other hbk]
/-- A block laid since. -/
theorem Step.putNew {s s' : St} {ρ' : Ren} {w w' : World} (h : Step s s' ρ ρ' w w') {k : Nat} (hk : w.heap.size ≤ k) (o : Obj) : Step s s' ρ ρ' w (w'.putObj k o) :=
  ⟨h.next, h.low, h.ren, by rw [World.putObj_size]; exact h.size, h.os, h.tape, h.output, h.drawn, fun b hb H => by rw [World.putObj_heap_other (by omega)]; exact h.frame b hb H, h.old, h.new, h.unm⟩
theorem lift_loop {s : St} {G W : World} {k : Nat} {o o0 : Obj} (hW : W = G.putObj k o) (hG : G.heap[k]? = some o0) (h0 : isSys o0 = true) (ho : isSys o = true) (hR : R s ρ G) : R s ρ W ∧ ∀ s' ρ' W', Step s s' ρ ρ' W W' → R s' ρ' W' →
    ∃ G', Step s s' ρ ρ' G G' ∧ W' = G'.putObj k o ∧ G'.heap[k]? = some o0 ∧ R s' ρ' G' := by
  have hRW : R s ρ W := by rw [hW]; exact hR.sys hG h0 o
  refine ⟨hRW, fun s' ρ' W' hst hR' => ?_⟩
  have hat : W.heap[k]? = some o := by rw [hW]; exact putObj_at hG
  have hat' := hst.sys hRW hat ho
  exact ⟨W'.putObj k o0, hst.reloop hW hG, by rw [putObj_put, putObj_self hat'], putObj_at hat', hR'.sys hat' ho o0⟩

theorem EnvR.sets : ∀ {ps : List Nat} {vs : List AV} {cs : List Value} {env : Env} {tmps : Array Value}, EnvR ρ env tmps → VRs ρ vs cs → EnvR ρ (setPs env ps vs) ((ps.zip cs).foldl (fun t (x : Nat × Value) => t.setIfInBounds x.1 x.2) tmps)
  | [], vs, cs, env, tmps, h, _ => by
    cases vs <;> simpa [setPs] using h
  | p :: ps, [], cs, env, tmps, h, k => by
    simp only [VRs] at k; subst k
    simpa [setPs] using h
  | p :: ps, v :: vs, cs, env, tmps, h, k => by
    simp only [VRs] at k
    obtain ⟨c, r, rfl, h1, h2⟩ := k
    have h3 : EnvR ρ (putE env (some p) v) (({ tmps := tmps, defers := [] } : Act).put (some p) c).tmps := EnvR.put (a := { tmps := tmps, defers := [] }) h h1 (some p)
    exact EnvR.sets (ps := ps) h3 h2
theorem zip_fold (ps : List Nat) (cs : List Value) (tmps : Array Value) : (ps.toArray.zip cs.toArray).foldl (fun t (x : Nat × Value) => t.setIfInBounds x.1 x.2) tmps = (ps.zip cs).foldl (fun t (x : Nat × Value) => t.setIfInBounds x.1 x.2) tmps := by
  rw [List.zip_toArray, List.foldl_toArray]
end Go.AM
end
/-
  Ranges over functions, the third part: soundness. Own work of this project.
-/
section
namespace Go.AM
open Go

variable {P : Program} {ρ : Ren} {n : Nat}

theorem splitY_spec : ∀ {l pre post : List AOper} {d : Option Nat} {x : AO} {args : List AO}, splitY l = some (pre, d, x, args, post) → ∃ o, l = pre ++ o :: post ∧ o.dst = d ∧ o.op = .callv x false args ∧ o.guard = none
  | [], _, _, _, _, _, h => by simp [splitY] at h
  | o :: r, pre, post, d, x, args, h => by
    unfold splitY at h
    split at h
    · rename_i x' args' h1 h2
      simp only [Option.some.injEq, Prod.mk.injEq] at h
      obtain ⟨rfl, rfl, rfl, rfl, rfl⟩ := h
      exact ⟨o, rfl, rfl, h1, h2⟩
    · obtain ⟨⟨a, d', x', args', b⟩, h1, h2⟩ := Option.map_eq_some_iff.1 h
      simp only [Prod.mk.injEq] at h2
      obtain ⟨rfl, rfl, rfl, rfl, rfl⟩ := h2
      obtain ⟨o', rfl, h3⟩ := splitY_spec h1
      exact ⟨o', rfl, h3⟩
theorem cregP_split {ops : Array Oper} : ∀ {pre post : List AOper} {ao : AOper} {os : List Oper}, cregP P ops os = some (pre ++ ao :: post) → ∃ os1 o os2, os = os1 ++ o :: os2 ∧ cregP P ops os1 = some pre ∧ cregP P ops os2 = some post ∧ guardOf ops o = some ao.guard ∧ ao.op = cop P false o.op ∧ ao.dst = o.dst
  | pre, post, ao, [], h => by
    simp only [cregP] at h
    injection h with h
    cases pre <;> cases h
  | pre, post, ao, o :: os, h => by
    simp only [cregP] at h
    split at h
    · rename_i g l' hg hl
      injection h with h
      cases pre with
      | nil =>
        simp only [List.nil_append] at h
        obtain ⟨h1, h2⟩ := List.cons.inj h
        subst h1; subst h2
        exact ⟨[], o, os, rfl, rfl, hl, hg, rfl, rfl⟩
      | cons p pre =>
        simp only [List.cons_append] at h
        obtain ⟨h1, h2⟩ := List.cons.inj h
        subst h1; subst h2
        obtain ⟨os1, o', os2, rfl, e1, e2, e3⟩ := cregP_split hl
        refine ⟨o :: os1, o', os2, rfl, ?_, e2, e3⟩
        simp only [cregP, hg, e1]
    · cases h

theorem exec_yield {o : Oper} {a : Act} {c : Call} (hop : o.op = .call c) {x : Operand} (hc : c.callee = .value x) {l : Nat} (hx : a.eval x = .func (.yield l) #[] #[]) (w : World) :
    (execOp a.eval o).run P w = (Instr.yield l (c.args.toList.map a.eval).toArray).run P w := by
  obtain ⟨callee, args, argTypes⟩ := c
  simp only at hc
  subst hc
  have : (args.map a.eval) = (args.toList.map a.eval).toArray := by apply Array.ext'; simp
  simp [execOp, hop, resolve, hx, Deferred.ofValue, invoke, this]
theorem callv_of {op : Op} {x : AO} {args : List AO} (h : cop P false op = .callv x false args) : ∃ c x0, op = .call c ∧ c.callee = .value x0 ∧ x = copd x0 ∧ args = c.args.toList.map copd ∧ (copd x0).ok = true ∧ ∀ y ∈ c.args.toList, (copd y).ok = true := by
  obtain ⟨hok, hc⟩ := cop_ok (P := P) (cl := false) (op := op) (by intro e; rw [e] at h; cases h)
  rw [hc] at h
  cases hop : op with
  | call c =>
    rw [hop] at h hok
    simp only [cop0] at h
    have hargs : ∀ x ∈ c.args.toList, (copd x).ok = true := fun x hx => hok x (by simp [Op.operands, Call.operands]; exact .inr (by simpa using hx))
    cases hcal : c.callee with
    | value x0 =>
      have hx : (copd x0).ok = true := hok x0 (by simp [Op.operands, Call.operands, hcal])
      refine ⟨c, x0, rfl, hcal, ?_⟩
      unfold ccall at h
      rw [hcal] at h
      cases x0 with
      | func f => simp only at h; split at h <;> cases h
      | _ => simp only at h; injection h with h1 h2 h3; exact ⟨h1.symm, h3.symm, hx, hargs⟩
    | invoke r m => unfold ccall at h; rw [hcal] at h; cases h
    | builtin b =>
      exfalso
      unfold ccall at h
      rw [hcal] at h
      simp only at h
      revert h
      repeat' split
      all_goals simp
  | makeFunc fn first caps =>
    rw [hop] at h
    exfalso
    revert h
    cases fn <;> simp only [cop0] <;> (try split) <;> simp
  | _ =>
    rw [hop] at h
    exfalso
    revert h
    simp only [cop0]
    repeat' split
    all_goals simp

/-! ### An iterator's code -/
def AEx.code : AEx → Code
  | .nor => .skip
  | .exit id => .exit id
  | .ret => .ret
/-- The loop's record. -/
def objL (fnid : FuncId) (tmps0 : Array Value) (ps : Array Tmp) (asg body : Code) (D : Nat) : YP → Obj
  | none => .loop { state := .ready, pending := none, fn := fnid, tmps := tmps0, params := ps, assign := asg, body := body, defers := D }
  | some x => .loop { state := .done, pending := some x.code, fn := fnid, tmps := tmps0, params := ps, assign := asg, body := body, defers := D }
theorem objL_sys (fnid : FuncId) (tmps0 : Array Value) (ps : Array Tmp) (asg body : Code) (D : Nat) (p : YP) : isSys (objL fnid tmps0 ps asg body D p) = true := by cases p <;> rfl

section
variable {call : Nat → List AV → St → Option (AV × St)} {fnid : FuncId} {tmps0 : Array Value} {ps : Array Tmp} {asg body : Code} {k D : Nat} {env0 : Env}
theorem base_in (hS : Sound P call) (hm : P.follows .mixedOrders = true) (c : Code) (p : YP) (Qa : YP → AEx → Env → St → Prop) (env : Env) (s : St) (ρ : Ren) (a : Act) (G W : World) (Q : Exit → Act → World → Prop)
    (h : awp call (ccode P c) (Qa p) env s) (hE : EnvR ρ env a.tmps) (hR : R s ρ G) (hf : Free s ρ) (hd : a.defers = []) (hG : G.heap[k]? = some (objL fnid tmps0 ps asg body D none)) (hW : W = G.putObj k (objL fnid tmps0 ps asg body D p))
    (hQ : ∀ p' x env' s' ρ' a' G' W', Qa p' x env' s' → Step s s' ρ ρ' G G' → R s' ρ' G' → Free s' ρ' → EnvR ρ' env' a'.tmps → a'.defers = [] → G'.heap[k]? = some (objL fnid tmps0 ps asg body D none) → W' = G'.putObj k (objL fnid tmps0 ps asg body D p') → Q x.out a' W') :
    c.wpIn (fenceAt none) n P Q a W := by
  obtain ⟨hRW, hl⟩ := lift_loop hW hG (objL_sys ..) (objL_sys ..) hR
  refine awp_in hS hm (df := []) c (Qa p) env s ρ a W Q (.inl rfl) h hE hRW hf hd fun x env' s' ρ' a' W' hq g1 g2 g3 g4 g5 => ?_
  obtain ⟨G', e1, e2, e3, e4⟩ := hl s' ρ' W' g1 g2
  exact hQ p x env' s' ρ' a' G' W' hq e1 e4 g3 g4 g5 e3 e2

theorem yld_in (hS : Sound P call) (hm : P.follows .mixedOrders = true) (hna : noDefer asg = true) (hnb : noDefer body = true) {id : Nat} {ops : Array Oper} {l pre post : List AOper} {d : Option Nat} {x : AO} {args : List AO} (hl : cregP P ops ops.toList = some l) (hs : splitY l = some (pre, d, x, args, post))
    (p : YP) (Qa : YP → AEx → Env → St → Prop) (env : Env) (s : St) (ρ : Ren) (a : Act) (G W : World) (Q : Exit → Act → World → Prop)
    (h : awpY call (.yd k) (roundY call ps.toList (ccode P asg) (ccode P body) env0) (.yld pre d x args post) p Qa env s) (hE : EnvR ρ env a.tmps) (hE0 : EnvR ρ env0 tmps0) (hR : R s ρ G) (hf : Free s ρ) (hd : a.defers = []) (hG : G.heap[k]? = some (objL fnid tmps0 ps asg body D none)) (hW : W = G.putObj k (objL fnid tmps0 ps asg body D p))
    (hQ : ∀ p' x env' s' ρ' a' G' W', Qa p' x env' s' → Step s s' ρ ρ' G G' → R s' ρ' G' → Free s' ρ' → EnvR ρ' env' a'.tmps → a'.defers = [] → G'.heap[k]? = some (objL fnid tmps0 ps asg body D none) → W' = G'.putObj k (objL fnid tmps0 ps asg body D p') → Q x.out a' W') :
    (Code.region id ops false).wpIn (fenceAt none) n P Q a W := by
  obtain ⟨ao, rfl, hod, hoo, hog⟩ := splitY_spec hs
  obtain ⟨os1, o, os2, hos, hc1, hc2, hg, hop, hdst⟩ := cregP_split hl
  rw [hoo] at hop
  rw [hod] at hdst
  subst hdst
  obtain ⟨hRW, hlift⟩ := lift_loop hW hG (objL_sys ..) (objL_sys ..) hR
  simp only [awpY] at h
  refine wpIn_region ?_
  have hsz : ops.size = os1.length + (os2.length + 1) := by
    rw [← Array.length_toList, hos, List.length_append, List.length_cons]
  have hrg : List.range ops.size = List.range' 0 os1.length ++ (os1.length :: List.range' (os1.length + 1) os2.length) := by
    rw [List.range_eq_range', hsz, ← List.range'_append_1]
    simp [List.range'_succ]
  have hat : ∀ j, ops[j]? = (os1 ++ o :: os2)[j]? := fun j => by rw [← hos, Array.getElem?_toList]
  rw [hrg]
  refine awops_in hS (df := []) (.inl rfl) os1 0 pre env s ρ a W (fun j o' hj => by rw [hat, Nat.zero_add, List.getElem?_append_left (List.getElem?_eq_some_iff.1 hj).1]; exact hj) hc1 h hE hRW hf hd fun e t ρ1 a1 W1 hq g1 g2 g3 g4 g5 => ?_
  obtain ⟨hx, rfl, hround⟩ := hq
  obtain ⟨G1, e1, e2, e3, e4⟩ := hlift t ρ1 W1 g1 g2
  rw [putObj_self e3] at e2
  subst e2
  have ho : ops[os1.length]? = some o := by rw [hat]; simp
  simp only [wpOpsIn, ho]
  have hwt : wanted ⟨o.dst, .bad, ao.guard, none, false⟩ e = some true := by simp [wanted, hog]
  rw [wanted_rel g4 hg hwt, if_pos rfl]
  obtain ⟨cc, x0, hcall, hcal, rfl, rfl, hxok, haok⟩ := callv_of hop.symm
  have hxv := aev_rel g4 hxok
  rw [hx] at hxv
  simp only [VR] at hxv
  have hargs := VRs_map g4 cc.args.toList haok
  obtain ⟨hlen, hasg⟩ := hround
  refine ⟨fun _ _ => trivial, ?_⟩
  have hsem : o.semAt (fenceAt none).round a1.eval = execOp a1.eval o := rfl
  have hsize : (cc.args.toList.map a1.eval).toArray.size = ps.size := by
    have hlen' := hlen
    simp at hlen' ⊢
    exact hlen'
  have hst1 : Step s t ρ ρ1 G W1 := e1
  rw [hsem, exec_yield hcall hcal hxv, run_yield e3 hsize, Oper.uponIn_round]
  refine ⟨fun q => by simp [fenceAt, Fence.wide] at q, ?_⟩
  refine roundIn_of_wpIn (F := fenceAt none) trivial ?_
  have hE1 := (hE0.step hf hst1).sets hargs (ps := ps.toList)
  rw [← zip_fold] at hE1
  refine awp_in (ro := some k) hS hm (df := []) asg _ _ t ρ1 { tmps := _, defers := [] } W1 _ (.inr hna) hasg hE1 g2 g3 rfl fun x2 e2 t2 ρ2 a2 W2 hq2 k1 k2 k3 k4 k5 => ?_
  obtain ⟨rfl, hq2⟩ := hq2
  have h2 := k1.sys g2 e3 (objL_sys ..)
  refine ⟨_, run_beginRound h2 rfl, ?_⟩
  refine awp_in (ro := some k) hS hm (df := []) body _ e2 t2 ρ2 a2 _ _ (.inr hnb) hq2 k4 (k2.sys h2 (objL_sys ..) _) k3 k5 fun x3 e3' t3 ρ3 a3 W3 hq3 j1 j2 j3 j4 j5 => ?_
  have hb3 := j1.sys (k2.sys h2 (objL_sys ..) _) (putObj_at h2) rfl
  have hst3 : Step t t3 ρ1 ρ3 W1 (W3.putObj k (objL fnid tmps0 ps asg body D none)) := k1.trans (j1.reloop rfl h2)
  have fin : ∀ (p' : YP) (v : AV) (cv : Value), VR ρ3 v cv → awops call t3.next post (Qa p' .nor) (putE e o.dst v) t3 → wpOpsIn (fenceAt none) n P ops Q (List.range' (os1.length + 1) os2.length) (a1.put o.dst cv) (W3.putObj k (objL fnid tmps0 ps asg body D p')) := by
    intro p' v cv hv hpost
    obtain ⟨hR4, hlift4⟩ := lift_loop (G := W3.putObj k (objL fnid tmps0 ps asg body D none)) (o := objL fnid tmps0 ps asg body D p') (o0 := objL fnid tmps0 ps asg body D none) rfl (putObj_at hb3) (objL_sys ..) (objL_sys ..) (j2.sys hb3 rfl _)
    rw [putObj_put] at hR4 hlift4
    have := awops_in (n := n) (Q := Q) hS (df := []) (rest := []) (ro := none) (ops := ops) (.inl rfl) os2 (os1.length + 1) post (putE e o.dst v) t3 ρ3 (a1.put o.dst cv) (W3.putObj k (objL fnid tmps0 ps asg body D p')) (fun j o' hj => by rw [hat, Nat.add_assoc, List.getElem?_append_right (by omega), show os1.length + (1 + j) - os1.length = j + 1 by omega, List.getElem?_cons_succ]; exact hj) hc2 hpost ((g4.step g3 hst3).put hv o.dst) hR4 j3 (by cases hdst : o.dst <;> simpa [Act.put] using g5) fun env' s' ρ' a' w' hq q1 q2 q3 q4 q5 => by
        obtain ⟨G4, f1, f2, f3, f4⟩ := hlift4 s' ρ' w' q1 q2
        exact hQ p' .nor env' s' ρ' a' G4 w' hq ((hst1.trans hst3).trans f1) f4 q3 q4 q5 f3 f2
    simpa using this
  cases x3 with
  | nor => exact ⟨_, _, run_endRound none hb3, fin none (.bool true) (.bool true) (by simp [VR]) hq3⟩
  | exit i => exact ⟨_, _, run_endRound (some (.exit i)) hb3, fin (some (.exit i)) (.bool false) (.bool false) (by simp [VR]) hq3⟩
  | ret => exact ⟨_, _, run_endRound (some .ret) hb3, fin (some .ret) (.bool false) (.bool false) (by simp [VR]) hq3⟩

theorem awpY_in (hS : Sound P call) (hm : P.follows .mixedOrders = true) (hna : noDefer asg = true) (hnb : noDefer body = true) : ∀ (c : Code) (p : YP) (Qa : YP → AEx → Env → St → Prop) (env : Env) (s : St) (ρ : Ren) (a : Act) (G W : World) (Q : Exit → Act → World → Prop),
    awpY call (.yd k) (roundY call ps.toList (ccode P asg) (ccode P body) env0) (ccodeY P c) p Qa env s → EnvR ρ env a.tmps → EnvR ρ env0 tmps0 → R s ρ G → Free s ρ → a.defers = [] → G.heap[k]? = some (objL fnid tmps0 ps asg body D none) → W = G.putObj k (objL fnid tmps0 ps asg body D p) →
    (∀ p' x env' s' ρ' a' G' W', Qa p' x env' s' → Step s s' ρ ρ' G G' → R s' ρ' G' → Free s' ρ' → EnvR ρ' env' a'.tmps → a'.defers = [] → G'.heap[k]? = some (objL fnid tmps0 ps asg body D none) → W' = G'.putObj k (objL fnid tmps0 ps asg body D p') → Q x.out a' W') →
    c.wpIn (fenceAt none) n P Q a W := by
  intro c
  induction c with
  | seq c d ihc ihd =>
    intro p Qa env s ρ a G W Q h hE hE0 hR hf hd hG hW hQ
    simp only [ccodeY, awpY] at h
    refine wpIn_seq (ihc p _ env s ρ a G W _ h hE hE0 hR hf hd hG hW fun p1 x env1 s1 ρ1 a1 G1 W1 hx g1 g2 g3 g4 g5 g6 g7 => ?_)
    cases x with
    | nor => exact ihd p1 Qa env1 s1 ρ1 a1 G1 W1 Q hx g4 (hE0.step hf g1) g2 g3 g5 g6 g7 fun p2 y env2 s2 ρ2 a2 G2 W2 hy k1 k2 k3 k4 k5 k6 k7 => hQ p2 y env2 s2 ρ2 a2 G2 W2 hy (g1.trans k1) k2 k3 k4 k5 k6 k7
    | exit id => exact hQ p1 (.exit id) env1 s1 ρ1 a1 G1 W1 hx g1 g2 g3 g4 g5 g6 g7
    | ret => exact hQ p1 .ret env1 s1 ρ1 a1 G1 W1 hx g1 g2 g3 g4 g5 g6 g7
  | cond q c d ihc ihd =>
    intro p Qa env s ρ a G W Q h hE hE0 hR hf hd hG hW hQ
    simp only [ccodeY] at h
    split at h
    · rename_i hok
      simp only [awpY] at h
      have hv := aev_rel hE hok
      split at h
      · rename_i hb
        rw [hb] at hv
        simp only [VR] at hv
        exact wpIn_cond_true hv (ihc p Qa env s ρ a G W Q h hE hE0 hR hf hd hG hW hQ)
      · rename_i hb
        rw [hb] at hv
        simp only [VR] at hv
        exact wpIn_cond_false hv (ihd p Qa env s ρ a G W Q h hE hE0 hR hf hd hG hW hQ)
      · exact h.elim
    · simp only [awpY, awp] at h
  | block id c ih =>
    intro p Qa env s ρ a G W Q h hE hE0 hR hf hd hG hW hQ
    simp only [ccodeY, awpY] at h
    refine wpIn_block (ih p _ env s ρ a G W _ h hE hE0 hR hf hd hG hW fun p1 x env1 s1 ρ1 a1 G1 W1 hx g1 g2 g3 g4 g5 g6 g7 => ?_)
    cases x with
    | nor => exact hQ p1 .nor env1 s1 ρ1 a1 G1 W1 hx g1 g2 g3 g4 g5 g6 g7
    | exit i =>
      simp only at hx
      by_cases hi : i = id
      · rw [if_pos hi] at hx
        simp only [AEx.out, Exit.inBlock, if_pos hi]
        exact hQ p1 .nor env1 s1 ρ1 a1 G1 W1 hx g1 g2 g3 g4 g5 g6 g7
      · rw [if_neg hi] at hx
        simp only [AEx.out, Exit.inBlock, if_neg hi]
        exact hQ p1 (.exit i) env1 s1 ρ1 a1 G1 W1 hx g1 g2 g3 g4 g5 g6 g7
    | ret => exact hQ p1 .ret env1 s1 ρ1 a1 G1 W1 hx g1 g2 g3 g4 g5 g6 g7
  | loop c ih =>
    intro p Qa env s ρ a G W Q h hE hE0 hR hf hd hG hW hQ
    simp only [ccodeY, awpY] at h
    obtain ⟨m, h⟩ := h
    refine wpIn_loop_rounds m ?_
    induction m generalizing p env s ρ a G W with
    | zero => exact h.elim
    | succ m ihn =>
      simp only [aroundsY] at h
      simp only [Code.roundsIn]
      refine ih p _ env s ρ a G W _ h hE hE0 hR hf hd hG hW fun p1 x env1 s1 ρ1 a1 G1 W1 hx g1 g2 g3 g4 g5 g6 g7 => ?_
      cases x with
      | nor => exact ihn p1 env1 s1 ρ1 a1 G1 W1 g4 (hE0.step hf g1) g2 g3 g5 g6 g7 (fun p2 y env2 s2 ρ2 a2 G2 W2 hy k1 k2 k3 k4 k5 k6 k7 => hQ p2 y env2 s2 ρ2 a2 G2 W2 hy (g1.trans k1) k2 k3 k4 k5 k6 k7) hx
      | exit id => exact hQ p1 (.exit id) env1 s1 ρ1 a1 G1 W1 hx g1 g2 g3 g4 g5 g6 g7
      | ret => exact hQ p1 .ret env1 s1 ρ1 a1 G1 W1 hx g1 g2 g3 g4 g5 g6 g7
  | region id ops draw =>
    intro p Qa env s ρ a G W Q h hE hE0 hR hf hd hG hW hQ
    cases draw
    · simp only [ccodeY] at h
      split at h
      · rename_i l hl
        split at h
        · rename_i pre d x args post hs
          exact yld_in hS hm hna hnb hl hs p Qa env s ρ a G W Q h hE hE0 hR hf hd hG hW hQ
        · simp only [awpY] at h
          exact base_in hS hm _ p Qa env s ρ a G W Q h hE hR hf hd hG hW hQ
      · simp only [awpY, awp] at h
    · simp only [ccodeY, awpY] at h
      exact base_in hS hm _ p Qa env s ρ a G W Q h hE hR hf hd hG hW hQ
  | _ =>
    intro p Qa env s ρ a G W Q h hE hE0 hR hf hd hG hW hQ
    simp only [ccodeY, awpY] at h
    exact base_in hS hm _ p Qa env s ρ a G W Q h hE hR hf hd hG hW hQ
end

/-! ### Functions -/
def markD (D : Nat) : Deferred := { target := .collected D, args := #[] }
def DefOk (w0 w : World) (ds : List Deferred) : Prop := ∃ Ds : List Nat, ds = Ds.map markD ∧ Ds.Nodup ∧ ∀ D ∈ Ds, w0.heap.size ≤ D ∧ w.heap[D]? = some (.deferred (some []))
theorem DefOk.step {w0 w w' : World} {s s' : St} {ρ' : Ren} {ds : List Deferred} (h : DefOk w0 w ds) (hR : R s ρ w) (hst : Step s s' ρ ρ' w w') : DefOk w0 w' ds := by
  obtain ⟨Ds, rfl, h2, h3⟩ := h
  exact ⟨Ds, rfl, h2, fun D hD => ⟨(h3 D hD).1, hst.sys hR (h3 D hD).2 rfl⟩⟩
theorem findI_spec {f : Nat} : ∀ {l : List (Nat × Nat × AY)} {n : Nat} {y : AY}, findI f l = some (n, y) → (f, n, y) ∈ l
  | [], _, _, h => by cases h
  | (g, m, z) :: r, n, y, h => by
    unfold findI at h
    split at h
    · rename_i e
      injection h with h
      obtain ⟨rfl, rfl⟩ := Prod.mk.inj h
      rw [e]
      exact List.mem_cons_self
    · exact List.mem_cons_of_mem _ (findI_spec h)
theorem iters_spec {its : List Nat} {f m : Nat} {y : AY} (h : (f, m, y) ∈ iters P its) : ∃ fn c, P.funcs[f]? = some fn ∧ callable P f = true ∧ fn.results = #[] ∧ fn.body = some c ∧ m = fn.ntmps ∧ y = ccodeY P c := by
  unfold iters at h
  obtain ⟨g, _, hg⟩ := List.mem_filterMap.1 h
  split at hg
  · rename_i fn hfn
    split at hg
    · rename_i hc
      simp only [Bool.and_eq_true, beq_iff_eq] at hc
      obtain ⟨c, hb, e⟩ := Option.map_eq_some_iff.1 hg
      simp only [Prod.mk.injEq] at e
      obtain ⟨rfl, rfl, rfl⟩ := e
      exact ⟨fn, c, hfn, hc.1, Array.eq_empty_of_size_eq_zero hc.2, hb, rfl, rfl⟩
    · cases hg
  · cases hg
theorem enters_of_callable {f : Nat} (hcal : callable P f = true) (args : Array Value) (w : World) : (callFunc f args).run P w = .ok (.enter f args) w := by
  unfold callable at hcal
  cases hfn : P.funcs[f]? with
  | none => simp [hfn] at hcal
  | some fn =>
    simp only [hfn, Bool.and_eq_true, bne_iff_ne, ne_eq] at hcal
    cases hbd : fn.body with
    | none => simp [hbd] at hcal
    | some b => simp [callFunc, hfn, hcal.2, hbd]
theorem results_no {fn : Func} (h : fn.results = #[]) (tmps : Array Value) (w : World) : ∃ v, (results fn tmps).run P w = .ok v w := by
  unfold results
  rw [h]
  simp

theorem rf_in {call : Nat → List AV → St → Option (AV × St)} (hS : Sound P call) (hm : P.follows .mixedOrders = true) {its : List Nat} {w0 : World} {g : Operand} {ps : Array Tmp} {asg body : Code} (hg : (copd g).ok = true) (hna : noDefer asg = true) (hnb : noDefer body = true)
    (Qa : AEx → Env → St → Prop) (env : Env) (s : St) (ρ : Ren) (a : Act) (w : World) (Q : Exit → Act → World → Prop)
    (h : awpI call (.rf (copd g) ps.toList (ccode P asg) (ccode P body) (iters P its)) Qa env s) (hE : EnvR ρ env a.tmps) (hR : R s ρ w) (hf : Free s ρ) (hd : DefOk w0 w a.defers) (hsz : w0.heap.size ≤ w.heap.size)
    (hQ : ∀ x env' s' ρ' a' w', Qa x env' s' → Step s s' ρ ρ' w w' → R s' ρ' w' → Free s' ρ' → EnvR ρ' env' a'.tmps → DefOk w0 w' a'.defers → Q x.out a' w') : (Code.rangeFunc g ps asg body).wpIn (fenceAt none) n P Q a w := by
  simp only [awpI] at h
  have hgv := aev_rel hE hg
  split at h
  · rename_i f caps hav
    rw [hav] at hgv
    simp only [VR] at hgv
    obtain ⟨lb, hval, hcaps⟩ := hgv
    split at h
    · rename_i m y hfi
      obtain ⟨fn, c, hfn, hcal, hres, hbd, rfl, rfl⟩ := iters_spec (findI_spec hfi)
      refine wpIn_rangeFunc ?_
      intro fnid _
      have h := h (w.heap.size + 1)
      obtain ⟨W1, hW1⟩ : ∃ W1, (w.alloc (.deferred (some []))).alloc (objL fnid a.tmps ps asg body w.heap.size none) = W1 := ⟨_, rfl⟩
      have hL1 : W1.heap[w.heap.size + 1]? = some (objL fnid a.tmps ps asg body w.heap.size none) := by
        rw [← hW1]; have := World.alloc_heap_new (w.alloc (.deferred (some []))) (objL fnid a.tmps ps asg body w.heap.size none); rwa [World.size_alloc] at this
      have hD1 : W1.heap[w.heap.size]? = some (.deferred (some [])) := by
        rw [← hW1]
        show ((w.heap.push _).push _)[w.heap.size]? = _
        rw [Array.getElem?_push_lt (by simp)]
        simp
      have hcl : Clean w W1 := by rw [← hW1]; exact (clean_pushW w _).trans (clean_pushW _ _)
      have hst1 : Step s s ρ ρ w W1 := hcl.step s ρ
      have hR1 : R s ρ W1 := hR.clean hcl
      refine ⟨w.heap.size + 1, [markD w.heap.size], W1, { target := .fn (.func f) lb.toArray, args := #[.func (.yield (w.heap.size + 1)) #[] #[]] }, W1, f, #[.func (.yield (w.heap.size + 1)) #[] #[]] ++ lb.toArray, W1, ?_, ?_, fun _ _ => trivial, ?_, fun q => by simp [fenceAt, Fence.wide] at q, ?_⟩
      · rw [← hW1]; exact run_enterLoop_outer _ _ _ _ _
      · simp only [resolve, hval]
        simp [Deferred.ofValue, Act.eval]
      · simp [invoke, enters_of_callable hcal]
      · refine callsIn_of_wp (F := fenceAt none) hfn hbd trivial ?_
        have hen := env_start (ρ := ρ) (args := .yd (w.heap.size + 1) :: caps) (cargs := .func (.yield (w.heap.size + 1)) #[] #[] :: lb) (VRs_cons.2 ⟨by simp [VR], hcaps⟩) fn.ntmps
        have hcons : (Value.func (.yield (w.heap.size + 1)) #[] #[] :: lb).toArray = #[Value.func (.yield (w.heap.size + 1)) #[] #[]] ++ lb.toArray := by simp
        rw [hcons] at hen
        refine awpY_in (k := w.heap.size + 1) (D := w.heap.size) (fnid := fnid) (tmps0 := a.tmps) (ps := ps) hS hm hna hnb c none _ _ s ρ { tmps := _, defers := [] } W1 W1 _ h hen hE hR1 hf rfl hL1 (putObj_self hL1).symm fun p x env' s' ρ' a' G' W' hq g1 g2 g3 g4 g5 g6 g7 => ?_
        obtain ⟨hx, hq⟩ := hq
        obtain ⟨v, hv⟩ := results_no (P := P) hres a'.tmps W'
        have hrp : rangePost (fenceAt none) n P (w.heap.size + 1) Q { a with defers := [markD w.heap.size] ++ a.defers } (.returned v) W' := by
          have hat : W'.heap[w.heap.size + 1]? = some (objL fnid a.tmps ps asg body w.heap.size p) := by rw [g7]; exact putObj_at g6
          have hstW : ∀ o, Step s s' ρ ρ' w (W'.putObj (w.heap.size + 1) o) := fun o => by
            rw [g7, putObj_put]
            exact (hst1.trans g1).putNew (by omega) o
          have hRW : ∀ o, R s' ρ' (W'.putObj (w.heap.size + 1) o) := fun o => by
            rw [g7, putObj_put]
            exact g2.sys g6 (objL_sys ..) o
          have hDW : ∀ o, DefOk w0 (W'.putObj (w.heap.size + 1) o) ([markD w.heap.size] ++ a.defers) := fun o => by
            obtain ⟨Ds, e1, e2, e3⟩ := hd.step hR (hstW o)
            refine ⟨w.heap.size :: Ds, by rw [e1]; rfl, List.nodup_cons.2 ⟨fun hmem => ?_, e2⟩, fun D hD => ?_⟩
            · obtain ⟨Ds', e1', e2', e3'⟩ := hd
              have : Ds' = Ds := by
                have hinj : Function.Injective markD := fun i j e => by simpa [markD] using e
                exact (List.map_inj_right (fun _ _ e => hinj e)).1 (e1'.symm.trans e1)
              subst this
              have := (Array.getElem?_eq_some_iff.1 (e3' _ hmem).2).1
              omega
            · rcases List.mem_cons.1 hD with rfl | hD
              · refine ⟨hsz, ?_⟩
                rw [g7, putObj_put, World.putObj_heap_other (by omega)]
                exact g1.sys hR1 hD1 rfl
              · exact e3 D hD
          cases p with
          | none =>
            refine ⟨_, _, run_endLoop hat (by simp), ?_⟩
            exact hQ .nor env s' ρ' _ _ hq (hstW _) (hRW _) g3 (hE.step hf (hst1.trans g1)) (hDW _)
          | some z =>
            cases z with
            | nor =>
              refine ⟨_, _, run_endLoop hat (by simp), ?_⟩
              exact wpIn_skip (hQ .nor env s' ρ' _ _ hq (hstW _) (hRW _) g3 (hE.step hf (hst1.trans g1)) (hDW _))
            | exit i =>
              refine ⟨_, _, run_endLoop hat (by simp), ?_⟩
              exact wpIn_exit (hQ (.exit i) env s' ρ' _ _ hq (hstW _) (hRW _) g3 (hE.step hf (hst1.trans g1)) (hDW _))
            | ret =>
              refine ⟨_, _, run_endLoop hat (by simp), ?_⟩
              exact wpIn_ret (hQ .ret env s' ρ' _ _ hq (hstW _) (hRW _) g3 (hE.step hf (hst1.trans g1)) (hDW _))
        cases x with
        | nor => exact ⟨g5, v, hv, hrp⟩
        | ret => exact ⟨g5, v, hv, hrp⟩
        | exit i => exact absurd rfl (hx i)
    · exact h.elim
  · exact h.elim
end Go.AM
end
/-
  Ranges over functions, the fourth part: whole functions. Own work of this project.
-/
section
namespace Go.AM
open Go

variable {P : Program} {ρ : Ren} {n : Nat}

theorem awpI_base {call : Nat → List AV → St → Option (AV × St)} (hS : Sound P call) (hm : P.follows .mixedOrders = true) {w0 : World} (c : Code) (Qa : AEx → Env → St → Prop) (env : Env) (s : St) (ρ : Ren) (a : Act) (w : World) (Q : Exit → Act → World → Prop)
    (h : awp call (ccode P c) Qa env s) (hE : EnvR ρ env a.tmps) (hR : R s ρ w) (hf : Free s ρ) (hd : DefOk w0 w a.defers)
    (hQ : ∀ x env' s' ρ' a' w', Qa x env' s' → Step s s' ρ ρ' w w' → R s' ρ' w' → Free s' ρ' → EnvR ρ' env' a'.tmps → DefOk w0 w' a'.defers → Q x.out a' w') : c.wpIn (fenceAt none) n P Q a w :=
  awp_in hS hm (df := a.defers) c Qa env s ρ a w Q (.inl rfl) h hE hR hf rfl fun x env' s' ρ' a' w' hq g1 g2 g3 g4 g5 => hQ x env' s' ρ' a' w' hq g1 g2 g3 g4 (by rw [g5]; exact hd.step hR g1)
theorem awpI_in {call : Nat → List AV → St → Option (AV × St)} (hS : Sound P call) (hm : P.follows .mixedOrders = true) {its : List Nat} {w0 : World} : ∀ (c : Code) (Qa : AEx → Env → St → Prop) (env : Env) (s : St) (ρ : Ren) (a : Act) (w : World) (Q : Exit → Act → World → Prop),
    awpI call (ccodeI P its c) Qa env s → EnvR ρ env a.tmps → R s ρ w → Free s ρ → DefOk w0 w a.defers → w0.heap.size ≤ w.heap.size →
    (∀ x env' s' ρ' a' w', Qa x env' s' → Step s s' ρ ρ' w w' → R s' ρ' w' → Free s' ρ' → EnvR ρ' env' a'.tmps → DefOk w0 w' a'.defers → Q x.out a' w') → c.wpIn (fenceAt none) n P Q a w := by
  intro c
  induction c with
  | seq c d ihc ihd =>
    intro Qa env s ρ a w Q h hE hR hf hd hsz hQ
    simp only [ccodeI] at h
    split at h
    · simp only [awpI] at h
      refine wpIn_seq (ihc _ env s ρ a w _ h hE hR hf hd hsz fun x env1 s1 ρ1 a1 w1 hx g1 g2 g3 g4 g5 => ?_)
      cases x with
      | nor => exact ihd Qa env1 s1 ρ1 a1 w1 Q hx g4 g2 g3 g5 (Nat.le_trans hsz g1.size) fun y env2 s2 ρ2 a2 w2 hy k1 k2 k3 k4 k5 => hQ y env2 s2 ρ2 a2 w2 hy (g1.trans k1) k2 k3 k4 k5
      | exit id => exact hQ (.exit id) env1 s1 ρ1 a1 w1 hx g1 g2 g3 g4 g5
      | ret => exact hQ .ret env1 s1 ρ1 a1 w1 hx g1 g2 g3 g4 g5
    · simp only [awpI] at h
      exact awpI_base hS hm _ Qa env s ρ a w Q h hE hR hf hd hQ
  | cond q c d ihc ihd =>
    intro Qa env s ρ a w Q h hE hR hf hd hsz hQ
    simp only [ccodeI] at h
    split at h
    · split at h
      · rename_i hok
        simp only [awpI] at h
        have hv := aev_rel hE hok
        split at h
        · rename_i hb
          rw [hb] at hv
          simp only [VR] at hv
          exact wpIn_cond_true hv (ihc Qa env s ρ a w Q h hE hR hf hd hsz hQ)
        · rename_i hb
          rw [hb] at hv
          simp only [VR] at hv
          exact wpIn_cond_false hv (ihd Qa env s ρ a w Q h hE hR hf hd hsz hQ)
        · exact h.elim
      · simp only [awpI, awp] at h
    · simp only [awpI] at h
      exact awpI_base hS hm _ Qa env s ρ a w Q h hE hR hf hd hQ
  | block id c ih =>
    intro Qa env s ρ a w Q h hE hR hf hd hsz hQ
    simp only [ccodeI] at h
    split at h
    · simp only [awpI] at h
      refine wpIn_block (ih _ env s ρ a w _ h hE hR hf hd hsz fun x env1 s1 ρ1 a1 w1 hx g1 g2 g3 g4 g5 => ?_)
      cases x with
      | nor => exact hQ .nor env1 s1 ρ1 a1 w1 hx g1 g2 g3 g4 g5
      | exit i =>
        simp only at hx
        by_cases hi : i = id
        · rw [if_pos hi] at hx
          simp only [AEx.out, Exit.inBlock, if_pos hi]
          exact hQ .nor env1 s1 ρ1 a1 w1 hx g1 g2 g3 g4 g5
        · rw [if_neg hi] at hx
          simp only [AEx.out, Exit.inBlock, if_neg hi]
          exact hQ (.exit i) env1 s1 ρ1 a1 w1 hx g1 g2 g3 g4 g5
      | ret => exact hQ .ret env1 s1 ρ1 a1 w1 hx g1 g2 g3 g4 g5
    · simp only [awpI] at h
      exact awpI_base hS hm _ Qa env s ρ a w Q h hE hR hf hd hQ
  | loop c ih =>
    intro Qa env s ρ a w Q h hE hR hf hd hsz hQ
    simp only [ccodeI] at h
    split at h
    · simp only [awpI] at h
      obtain ⟨m, h⟩ := h
      refine wpIn_loop_rounds m ?_
      induction m generalizing env s ρ a w with
      | zero => exact h.elim
      | succ m ihn =>
        simp only [arounds] at h
        simp only [Code.roundsIn]
        refine ih _ env s ρ a w _ h hE hR hf hd hsz fun x env1 s1 ρ1 a1 w1 hx g1 g2 g3 g4 g5 => ?_
        cases x with
        | nor => exact ihn env1 s1 ρ1 a1 w1 g4 g2 g3 g5 (Nat.le_trans hsz g1.size) (fun y env2 s2 ρ2 a2 w2 hy k1 k2 k3 k4 k5 => hQ y env2 s2 ρ2 a2 w2 hy (g1.trans k1) k2 k3 k4 k5) hx
        | exit id => exact hQ (.exit id) env1 s1 ρ1 a1 w1 hx g1 g2 g3 g4 g5
        | ret => exact hQ .ret env1 s1 ρ1 a1 w1 hx g1 g2 g3 g4 g5
    · simp only [awpI] at h
      exact awpI_base hS hm _ Qa env s ρ a w Q h hE hR hf hd hQ
  | rangeFunc g ps asg body _ _ =>
    intro Qa env s ρ a w Q h hE hR hf hd hsz hQ
    simp only [ccodeI] at h
    split at h
    · rename_i hc
      simp only [Bool.and_eq_true] at hc
      exact rf_in hS hm hc.1.1 hc.1.2 hc.2 Qa env s ρ a w Q h hE hR hf hd hsz hQ
    · simp only [awpI, awp] at h
  | _ =>
    intro Qa env s ρ a w Q h hE hR hf hd hsz hQ
    simp only [ccodeI, awpI] at h
    exact awpI_base hS hm _ Qa env s ρ a w Q h hE hR hf hd hQ

/-- The way out: the marks are taken, the results read. -/
theorem leaves_in {fn : Func} {tmps : Array Value} {Rp : Ending → World → Prop} {w0 : World} {s s' : St} {ρ' : Ren} (hfin : ∀ w, Step s s' ρ ρ' w0 w → R s' ρ' w → ∃ v, (results fn tmps).run P w = .ok v w ∧ Rp (.returned v) w) : ∀ (Ds : List Nat) (w : World), Ds.Nodup → (∀ D ∈ Ds, w0.heap.size ≤ D ∧ w.heap[D]? = some (.deferred (some []))) → Step s s' ρ ρ' w0 w → R s' ρ' w →
    LeavesInM (fenceAt none) n P fn tmps Rp (Ds.map markD) .returning w
  | [], w, _, _, hst, hr => hfin w hst hr
  | D :: Ds, w, hnd, hD, hst, hr => by
    obtain ⟨h1, h2⟩ := List.nodup_cons.1 hnd
    obtain ⟨h3, h4⟩ := hD D List.mem_cons_self
    refine ⟨by simp, .inl ⟨D, _, rfl, run_takeDeferred h4, leaves_in hfin Ds _ h2 (fun E hE => ⟨(hD E (List.mem_cons_of_mem _ hE)).1, ?_⟩) (hst.putNew h3 _) (hr.sys h4 rfl _)⟩⟩
    have hne : E ≠ D := fun e => h1 (by rw [← e]; exact hE)
    rw [World.putObj_heap_other hne]
    exact (hD E (List.mem_cons_of_mem _ hE)).2

/-- A contract out of the code. -/
theorem con_soundI {call : Nat → List AV → St → Option (AV × St)} (hS : Sound P call) (hm : P.follows .mixedOrders = true) {its : List Nat} {g : Nat} {fn : Func} {afn : AFnI} (hf : P.funcs[g]? = some fn) (hcal : callable P g = true) (hc : cfnI P its fn = some afn)
    {c : List AV → St → Option (AV × St)}
    (h : ∀ args s r s', c args s = some (r, s') → (Grow s s' ∧ Keeps s s') ∧ awpI call afn.body (fun x env t => (∀ i, x ≠ .exit i) ∧ ∃ f, aresults env t afn.results = some (r.ren f) ∧ Emb f s s' t) (args ++ List.replicate (afn.ntmps - args.length) .und) s) :
    SoundAt P g c := by
  intro args s r s' hcall
  obtain ⟨hg, ha⟩ := h args s r s' hcall
  unfold cfnI at hc
  split at hc
  · rename_i cd rs hb hr
    injection hc with hc; subst hc
    refine ⟨hcal, hg, fun ρ w cargs hfree hR hargs => ?_⟩
    refine (callsIn_wide (n := 0)).1 (callsIn_of_wp_marks hf hb trivial ?_)
    refine awpI_in (w0 := w) hS hm cd _ _ s ρ { tmps := _, defers := [] } w _ ha (env_start hargs fn.ntmps) hR hfree ⟨[], rfl, List.nodup_nil, fun D hD => by simp at hD⟩ (Nat.le_refl _) fun x env t ρ' a' w' hq g1 g2 g3 g4 g5 => ?_
    obtain ⟨hx, f, hres, he⟩ := hq
    obtain ⟨Ds, d1, d2, d3⟩ := g5
    have hout : LeavesInM (fenceAt none) 0 P fn a'.tmps (fun e w' => ∃ ρ' v, e = .returned v ∧ VR ρ' r v ∧ Step s s' ρ ρ' w w' ∧ R s' ρ' w') a'.defers .returning w' := by
      rw [d1]
      refine leaves_in (fun w2 k1 k2 => ?_) Ds w' d2 d3 g1 g2
      obtain ⟨cv, h1, h2⟩ := results_run g4 k2 hr hres
      obtain ⟨q1, q2⟩ := he.sound hR hfree k1 k2
      exact ⟨cv, h2, _, cv, rfl, VR.ren r cv h1, q1, q2⟩
    cases x with
    | nor => exact hout
    | ret => exact hout
    | exit i => exact absurd rfl (hx i)
  · cases hc
end Go.AM
end
/-
  Ranges over functions: rules for stepping. Own work of this project.
-/
section
namespace Go.AM
open Go

variable {call : Nat → List AV → St → Option (AV × St)} {env : Env} {s t : St}

/-! ### Less is asked -/
theorem aroundsY_mono {body : YP → (YP → AEx → Env → St → Prop) → Env → St → Prop} (hb : ∀ (p : YP) (Q Q' : YP → AEx → Env → St → Prop), (∀ p x e t, Q p x e t → Q' p x e t) → ∀ e t, body p Q e t → body p Q' e t) {Q Q' : YP → AEx → Env → St → Prop} (h : ∀ p x e t, Q p x e t → Q' p x e t) : ∀ (n : Nat) {p : YP} {e : Env} {t : St}, aroundsY body Q n p e t → aroundsY body Q' n p e t
  | 0, _, _, _, k => k.elim
  | n + 1, p, e, t, k => hb _ _ _ (fun p x e t q => by
      cases x with
      | nor => exact aroundsY_mono hb h n q
      | _ => exact h _ _ e t q) _ _ k
theorem awpY_mono {yv : AV} {Yd : List AV → (YP → AV → St → Prop) → St → Prop} (hy : ∀ args K K' t, (∀ p v t, K p v t → K' p v t) → Yd args K t → Yd args K' t) : ∀ (c : AY) {p : YP} {Q Q' : YP → AEx → Env → St → Prop}, (∀ p x e t, Q p x e t → Q' p x e t) → ∀ {e : Env} {t : St}, awpY call yv Yd c p Q e t → awpY call yv Yd c p Q' e t
  | .base c, p, Q, Q', h, e, t, k => awp_mono c (h p) k
  | .seq a b, p, Q, Q', h, e, t, k => awpY_mono hy a (fun p x e t q => by
      cases x with
      | nor => exact awpY_mono hy b h q
      | _ => exact h _ _ e t q) k
  | .cond c a b, p, Q, Q', h, e, t, k => by
    simp only [awpY] at k ⊢
    split at k
    · exact awpY_mono hy a h k
    · exact awpY_mono hy b h k
    · exact k.elim
  | .block i c, p, Q, Q', h, e, t, k => awpY_mono hy c (fun p x e t q => by
      cases x with
      | exit j =>
        simp only at q ⊢
        split at q
        · rename_i hj; rw [if_pos hj]; exact h _ _ e t q
        · rename_i hj; rw [if_neg hj]; exact h _ _ e t q
      | _ => exact h _ _ e t q) k
  | .loop c, p, Q, Q', h, e, t, k => by
    simp only [awpY] at k ⊢
    obtain ⟨n, k⟩ := k
    exact ⟨n, aroundsY_mono (body := awpY call yv Yd c) (fun p Q Q' h e t k => awpY_mono hy c h k) h n k⟩
  | .yld pre d x args post, p, Q, Q', h, e, t, k => by
    simp only [awpY] at k ⊢
    exact awops_mono (fun e t q => ⟨q.1, q.2.1, hy _ _ _ _ (fun p v t q => awops_mono (fun e t q => h _ _ e t q) post _ _ q) q.2.2⟩) pre _ _ k
theorem roundY_mono {ps : List Nat} {asg body : AC} {env : Env} (args : List AV) (K K' : YP → AV → St → Prop) (t : St) (h : ∀ p v t, K p v t → K' p v t) (k : roundY call ps asg body env args K t) : roundY call ps asg body env args K' t :=
  ⟨k.1, awp_mono asg (fun x e t q => ⟨q.1, awp_mono body (fun x e t q => by
    cases x with
    | nor => exact h _ _ t q
    | _ => exact h _ _ t q) q.2⟩) k.2⟩
theorem awpI_mono : ∀ (c : AI) {Q Q' : AEx → Env → St → Prop}, (∀ x e t, Q x e t → Q' x e t) → ∀ {e : Env} {t : St}, awpI call c Q e t → awpI call c Q' e t
  | .base c, Q, Q', h, e, t, k => awp_mono c h k
  | .seq a b, Q, Q', h, e, t, k => awpI_mono a (fun x e t q => by
      cases x with
      | nor => exact awpI_mono b h q
      | _ => exact h _ e t q) k
  | .cond c a b, Q, Q', h, e, t, k => by
    simp only [awpI] at k ⊢
    split at k
    · exact awpI_mono a h k
    · exact awpI_mono b h k
    · exact k.elim
  | .block i c, Q, Q', h, e, t, k => awpI_mono c (fun x e t q => by
      cases x with
      | exit j =>
        simp only at q ⊢
        split at q
        · rename_i hj; rw [if_pos hj]; exact h _ e t q
        · rename_i hj; rw [if_neg hj]; exact h _ e t q
      | _ => exact h _ e t q) k
  | .loop c, Q, Q', h, e, t, k => by
    simp only [awpI] at k ⊢
    obtain ⟨n, k⟩ := k
    exact ⟨n, arounds_mono (b := awpI call c) (fun h _ _ k => awpI_mono c h k) h n n (Nat.le_refl n) k⟩
  | .rf g ps asg body its, Q, Q', h, e, t, k => by
    simp only [awpI] at k ⊢
    split at k
    · split at k
      · intro l
        refine awpY_mono roundY_mono _ (fun p x _ t q => ⟨q.1, ?_⟩) (k l)
        have q := q.2
        cases p with
        | none => exact h _ _ t q
        | some x => exact h _ _ t q
      · exact k.elim
    · exact k.elim

/-! ### Rules -/
section
variable {Q : AEx → Env → St → Prop}
theorem wi_base (c : AC) : awpI call (.base c) Q env s = awp call c Q env s := nrfl rfl
theorem wi_seq (a b : AI) : awpI call (.seq a b) Q env s = awpI call a (fun x e t => match x with
    | .nor => awpI call b Q e t
    | x => Q x e t) env s := nrfl rfl
theorem wi_block (i : Nat) (c : AI) : awpI call (.block i c) Q env s = awpI call c (fun x e t => match x with
    | .exit j => if j = i then Q .nor e t else Q (.exit j) e t
    | x => Q x e t) env s := nrfl rfl
theorem wi_cond (c : AO) (a b : AI) : awpI call (.cond c a b) Q env s = cstep (aev env c) (awpI call a Q env s) (awpI call b Q env s) := by
  simp only [awpI, cstep] <;> (generalize aev env c = v; cases v <;> first | rfl | (rename_i b; cases b <;> rfl))
def lwpI (call : Nat → List AV → St → Option (AV × St)) (c : AI) (env : Env) (s : St) [h : HQ] : Prop := awpI call (.loop c) h.q env s
theorem wi_loop (c : AI) : awpI call (.loop c) Q env s = @lwpI call c env s ⟨Q⟩ := nrfl rfl
def rfwp (call : Nat → List AV → St → Option (AV × St)) (g : AO) (ps : List Nat) (asg body : AC) (its : List (Nat × Nat × AY)) (env : Env) (s : St) [h : HQ] : Prop := awpI call (.rf g ps asg body its) h.q env s
theorem wi_rf (g : AO) (ps : List Nat) (asg body : AC) (its : List (Nat × Nat × AY)) : awpI call (.rf g ps asg body its) Q env s = @rfwp call g ps asg body its env s ⟨Q⟩ := nrfl rfl
theorem rf_start {g : AO} {ps : List Nat} {asg body : AC} {its : List (Nat × Nat × AY)} {f n : Nat} {caps : List AV} {y : AY} (hg : aev env g = .fn f caps) (hf : findI f its = some (n, y))
    (h : ∀ l, awpY call (.yd l) (roundY call ps asg body env) y none (fun p x _ t => (∀ i, x ≠ .exit i) ∧ match p with
          | none => Q .nor env t
          | some x => Q x env t) ((.yd l :: caps) ++ List.replicate (n - (AV.yd l :: caps).length) .und) s) : @rfwp call g ps asg body its env s ⟨Q⟩ := by
  show awpI call (.rf g ps asg body its) Q env s
  simp only [awpI]
  rw [hg]
  simp only
  rw [hf]
  exact h
end

section
variable {yv : AV} {Yd : List AV → (YP → AV → St → Prop) → St → Prop} {p : YP} {Q : YP → AEx → Env → St → Prop}
theorem wy_base (c : AC) : awpY call yv Yd (.base c) p Q env s = awp call c (Q p) env s := nrfl rfl
theorem wy_seq (a b : AY) : awpY call yv Yd (.seq a b) p Q env s = awpY call yv Yd a p (fun p x e t => match x with
    | .nor => awpY call yv Yd b p Q e t
    | x => Q p x e t) env s := nrfl rfl
theorem wy_block (i : Nat) (c : AY) : awpY call yv Yd (.block i c) p Q env s = awpY call yv Yd c p (fun p x e t => match x with
    | .exit j => if j = i then Q p .nor e t else Q p (.exit j) e t
    | x => Q p x e t) env s := nrfl rfl
theorem wy_cond (c : AO) (a b : AY) : awpY call yv Yd (.cond c a b) p Q env s = cstep (aev env c) (awpY call yv Yd a p Q env s) (awpY call yv Yd b p Q env s) := by
  simp only [awpY, cstep] <;> (generalize aev env c = v; cases v <;> first | rfl | (rename_i b; cases b <;> rfl))
class HY where
  q : YP → AEx → Env → St → Prop
def lwpY (call : Nat → List AV → St → Option (AV × St)) (yv : AV) (Yd : List AV → (YP → AV → St → Prop) → St → Prop) (c : AY) (p : YP) (env : Env) (s : St) [h : HY] : Prop := awpY call yv Yd (.loop c) p h.q env s
theorem wy_loop (c : AY) : awpY call yv Yd (.loop c) p Q env s = @lwpY call yv Yd c p env s ⟨Q⟩ := nrfl rfl
class HK2 where
  k : YP → AV → St → Prop
def ystep (Yd : List AV → (YP → AV → St → Prop) → St → Prop) (args : List AV) (t : St) [h : HK2] : Prop := Yd args h.k t
theorem wy_yld (pre : List AOper) (d : Option Nat) (x : AO) (args : List AO) (post : List AOper) : awpY call yv Yd (.yld pre d x args post) p Q env s = awops call s.next pre (fun e t => aev e x = yv ∧ p = none ∧ @ystep Yd (args.map (aev e)) t ⟨fun p' v t' => awops call t'.next post (Q p' .nor) (putE e d v) t'⟩) env s := nrfl rfl
theorem lwpY_inv (hy : ∀ args K K' t, (∀ p v t, K p v t → K' p v t) → Yd args K t → Yd args K' t) {c : AY} (I : Nat → Env → St → Prop) {n : Nat} (h : I n env s)
    (step : ∀ n e t, I n e t → awpY call yv Yd c none (fun p x e' t' => match x with
      | .nor => p = none ∧ ∃ m, m < n ∧ I m e' t'
      | x => Q p x e' t') e t) : @lwpY call yv Yd c none env s ⟨Q⟩ := by
  refine ⟨n + 1, ?_⟩
  induction n using Nat.strongRecOn generalizing env s with
  | _ n ih =>
    have up : ∀ (k m : Nat) {p : YP} {e : Env} {t : St}, m ≤ k → aroundsY (awpY call yv Yd c) Q m p e t → aroundsY (awpY call yv Yd c) Q k p e t := by
      intro k
      induction k with
      | zero => intro m p e t hm q; obtain rfl : m = 0 := by omega
                exact q
      | succ k ihk =>
        intro m p e t hm q
        cases m with
        | zero => exact q.elim
        | succ m =>
          exact awpY_mono hy c (fun p x e t q => by
            cases x with
            | nor => exact ihk m (by omega) q
            | _ => exact q) q
    exact awpY_mono hy c (fun p x e t q => by
      cases x with
      | nor =>
        obtain ⟨rfl, m, hm, q⟩ := q
        exact up n (m + 1) hm (ih m hm q)
      | _ => exact q) (step n env s h)
end
end Go.AM
end
/-
  Contracts of functions that range over functions. Own work of this project.
-/
section
namespace Go.AM
open Go

variable {β : Type}
end Go.AM
end
/-
  Functions that range over functions, as the abstract machine runs them. Printed by a program of this project.
-/
section
set_option maxRecDepth 100000
namespace Go.AM
open Go Go.Proofs

/- slices.Chunk[[]byte,byte]$1 -/
def y39 : AY :=
  .seq (.base (.reg [oO 4 (.mv (.c (.int .i64 0)))]))
 (.block 0 (.loop (.seq (.seq (.base (.reg [oO 6 (.mv (.t 4)),
 oO 7 (.load1 (.t 1)),
 oO 8 (.len .sl (.t 7)),
 oO 9 (.bin .lss .no (.t 6) (.t 8))]))
 (.cond (.t 9) (.base (.skip))
 (.base (.exit 0))))
 (.seq (.block 1 (.seq (.base (.regd 0 [oO 13 (.load1 (.t 2)),
 oO 14 (.load1 (.t 1)),
 oO 15 (.mv (.t 4)),
 oO 16 (.slc 1 (.t 14) (some (.t 15)) none none),
 oO 17 (.len .sl (.t 16)),
 oO 18 (.mm false [(.t 13), (.t 17)]),
 oO 5 (.mv (.t 18))]))
 (.seq (.yld [oO 19 (.mv (.t 0)),
 oO 20 (.load1 (.t 1)),
 oO 21 (.mv (.t 4)),
 oO 22 (.mv (.t 4)),
 oO 23 (.mv (.t 5)),
 oO 24 (.bin .add .no (.t 22) (.t 23)),
 oO 25 (.mv (.t 4)),
 oO 26 (.mv (.t 5)),
 oO 27 (.bin .add .no (.t 25) (.t 26)),
 oO 28 (.slc 1 (.t 20) (some (.t 21)) (some (.t 24)) (some (.t 27)))] (some 29) (.t 19) [(.t 28)] [oO 30 (.un .not (.t 29))])
 (.cond (.t 30) (.base (.ret))
 (.base (.skip))))))
 (.base (.reg [oO 10 (.mv (.t 4)),
 oO 11 (.load1 (.t 2)),
 oO 12 (.bin .add .no (.t 10) (.t 11)),
 oO 4 (.mv (.t 12))]))))))
/- (*redpencil/disk.Disk).Split -/
def ai20 : AFnI := ⟨44, [.t 6, .t 7],
  .seq (.base (.reg [oO 4 (.box 1 (.t 1)),
 oO 6 (.mv (.c .nils)),
 oO 7 (.mv (.c (.int .i64 0)))]))
 (.seq (.base (.reg [oO 13 (.mv (.t 0)),
 oO 14 (.load1 (.t 4)),
 oO 15 (.call 35 false [(.t 13), (.t 14)]),
 oO 12 (.mv (.t 15)),
 oO 16 (.ext (.t 12) 0),
 oO 17 (.ext (.t 12) 1),
 oO 8 (.mv (.t 16)),
 oO 9 (.mv (.t 17))]))
 (.seq (.base (.seq (.reg [oO 18 (.mv (.t 9)),
 oO 19 (.bin .neq .no (.t 18) (.c (.int .i64 0)))])
 (.cond (.t 19) (.seq (.reg [oO 20 (.mv (.t 9)),
 oO 6 (.mv (.c .nils)),
 oO 7 (.mv (.t 20))])
 (.ret))
 (.skip))))
 (.seq (.base (.seq (.reg [oO 21 (.mv (.t 2)),
 oO 22 (.len .sl (.t 21)),
 oO 23 (.mv (.t 8)),
 oO 24 (.len .sl (.t 23)),
 oO 25 (.bin .gtr .no (.t 22) (.t 24))])
 (.cond (.t 25) (.seq (.reg [oO 6 (.mv (.c .nils)),
 oO 7 (.mv (.c (.int .i64 3)))])
 (.ret))
 (.skip))))
 (.seq (.base (.reg [oO 10 (.alloc [.nils])]))
 (.seq (.seq (.base (.regd 0 [oO 26 (.mv (.t 2)),
 ⟨(some 27), .call 36 false [(.t 26)], none, none, true⟩,
 oO 28 (.mv (.t 0)),
 oO 29 (.nchk (.t 28)),
 oO 30 (.fad 0 (.t 29)),
 oO 31 (.load1 (.t 30)),
 oO 32 (.call 37 false [(.t 27), (.t 31)])]))
 (.block 0 (.rf (.t 32) [33] (.reg [oO 11 (.mv (.t 33))])
 (.block 1 (.reg [oO 34 (.load1 (.t 10)),
 oO 35 (.load1 (.t 4)),
 oO 36 (.load1 (.t 10)),
 oO 37 (.len .sl (.t 36)),
 oO 38 (.bin .add .no (.t 35) (.t 37)),
 oO 39 (.mv (.t 11)),
 oO 40 (.build [(.int .i64 0), .nils] [(0, 1, (.t 38)), (1, 1, (.t 39))]),
 oO 41 (.bsl [(.int .i64 0), .nils] 1 2 [(0, (.t 40))]),
 oO 42 (.app 2 32 [(.int .i64 0), .nils] (.t 34) (.t 41)),
 ⟨none, .store 1 (.t 10) (.t 42), none, none, false⟩])) [(39, 31, y39)])))
 (.base (.seq (.reg [oO 43 (.load1 (.t 10)),
 oO 6 (.mv (.t 43)),
 oO 7 (.mv (.c (.int .i64 0)))])
 (.ret))))))))⟩
theorem ci20 : cfnI Try.prog [39] Try.f20 = some ai20 := by kernel_rfl
theorem ki20 : callable Try.prog 20 = true := by kernel_rfl

end Go.AM
end
/-
  Split: the contract of a function that ranges over a function. Own work of this project; in part printed by a program of it.
-/
section
set_option maxRecDepth 100000
set_option maxHeartbeats 8000000
namespace Go.AM
open Go Go.Proofs

variable {s t u : St}

theorem emb_two {s t : St} (h : Keep s t) {cs1 : List AV} {cs2 : Nat → List AV} {j1 j2 : Nat} (hne : j1 ≠ j2) (g1 : s.next ≤ j1) (g2 : s.next ≤ j2) (h1 : t.get j1 = some (.row cs1 true)) (hp : cs1.all AV.plain = true) (h2 : t.get j2 = some (.row (cs2 j1) true)) (hr : ∀ f : Nat → Nat, f s.next = j1 → AV.rens f (cs2 s.next) = cs2 j1) :
    ∃ f : Nat → Nat, f s.next = j1 ∧ f (s.next + 1) = j2 ∧ Emb f s ((s.lowed.push (.row cs1 true)).push (.row (cs2 s.next) true)) t := by
  have hn := h.next
  have hlow := h.low
  have hl1 := St.get_lt h1
  have hl2 := St.get_lt h2
  have e1 : ((s.lowed.push (.row cs1 true)).push (.row (cs2 s.next) true)).next = s.next + 2 := rfl
  have e2 : ∀ id, ((s.lowed.push (.row cs1 true)).push (.row (cs2 s.next) true)).get id = if id = s.next + 1 then some (.row (cs2 s.next) true) else if id = s.next then some (.row cs1 true) else s.get id := fun id => by
    rw [St.get_push, St.get_push]
    rfl
  obtain ⟨f, hf⟩ : ∃ f : Nat → Nat, ∀ id, f id = if id < s.next then id else if id = s.next then j1 else if id = s.next + 1 then j2 else t.next + id := ⟨_, fun _ => rfl⟩
  have fo : ∀ id, id < s.next → f id = id := fun id h => by rw [hf, if_pos h]
  have f0 : f s.next = j1 := by rw [hf, if_neg (by omega), if_pos rfl]
  have f1 : f (s.next + 1) = j2 := by rw [hf, if_neg (by omega), if_neg (by omega), if_pos rfl]
  have fb : ∀ id, s.next + 2 ≤ id → f id = t.next + id := fun id h => by rw [hf, if_neg (by omega), if_neg (by omega), if_neg (by omega)]
  refine ⟨f, f0, f1, ⟨by omega, hlow, fo, fun id hid => ?_, fun i k a b e => ?_, fun id b hb => ?_, fun id a b => ?_⟩⟩
  · rw [e1] at hid
    rw [fb id hid]
    omega
  · rw [e1] at a b
    have cases3 : ∀ x, x < s.next + 2 → x < s.next ∨ x = s.next ∨ x = s.next + 1 := fun x hx => by omega
    rcases cases3 i a with q | q | q <;> rcases cases3 k b with r | r | r
    · rw [fo i q, fo k r] at e; exact e
    · rw [fo i q, r, f0] at e; omega
    · rw [fo i q, r, f1] at e; omega
    · rw [fo k r, q, f0] at e; omega
    · omega
    · rw [q, r, f0, f1] at e; exact absurd e hne
    · rw [fo k r, q, f1] at e; omega
    · rw [q, r, f0, f1] at e; exact absurd e.symm hne
    · omega
  · rw [e2] at hb
    split at hb
    · rename_i hid
      subst hid
      injection hb with hb
      subst hb
      refine .inr (.inl ?_)
      rw [f1, h2, AB.ren, hr f f0]
    · split at hb
      · rename_i hid
        subst hid
        injection hb with hb
        subst hb
        refine .inr (.inl ?_)
        rw [f0, h1, AB.ren, plains_rens _ hp]
      · have hid := St.get_lt hb
        exact .inr (.inr ⟨hid, hb, h.blk hb⟩)
  · rw [e2, if_neg (by omega), if_neg (by omega)]
/-! ### The block writes of a split -/
def bwC (b : Int) (z n j k : Nat) : List AV := [.int .i64 (b + k), .sl j (k * z) (min z (n - k * z)) (some (min z (n - k * z))) 1]
def bwL (b : Int) (z n i j : Nat) : List AV := ((List.range i).map (bwC b z n j)).flatten
theorem bwL_succ (b : Int) (z n i j : Nat) : bwL b z n (i + 1) j = bwL b z n i j ++ bwC b z n j i := by
  unfold bwL
  rw [List.range_succ, List.map_append, List.flatten_append]
  simp
theorem bwL_len (b : Int) (z n i j : Nat) : (bwL b z n i j).length = i * 2 := by
  induction i with
  | zero => rfl
  | succ i ih => rw [bwL_succ, List.length_append, ih]; simp [bwC]; omega
theorem bwL_ren (b : Int) (z n i j0 j : Nat) (f : Nat → Nat) (hf : f j0 = j) : AV.rens f (bwL b z n i j0) = bwL b z n i j := by
  rw [rens_map]
  induction i with
  | zero => rfl
  | succ i ih =>
    rw [bwL_succ, bwL_succ, List.map_append, ih]
    simp [bwC, AV.ren, hf]
/-- The slice of the block writes made so far. -/
def BwR (s t : St) (lv : AV) (b : Int) (z n i j : Nat) : Prop := (i = 0 ∧ lv = .nils) ∨ ∃ j2, 0 < i ∧ lv = .sl j2 0 i none 2 ∧ s.next ≤ j2 ∧ t.get j2 = some (.row (bwL b z n i j) true)
theorem BwR.mono {lv : AV} {b : Int} {z n i j : Nat} (h : BwR s t lv b z n i j) (k : ∀ id b, t.get id = some b → u.get id = some b) : BwR s u lv b z n i j :=
  h.imp id fun ⟨j2, h0, e, h1, h2⟩ => ⟨j2, h0, e, h1, k _ _ h2⟩
theorem BwR.len {lv : AV} {b : Int} {z n i j : Nat} (h : BwR s t lv b z n i j) : lenV lv = some (.int .i64 (i : Int)) := by
  rcases h with ⟨rfl, rfl⟩ | ⟨j2, _, rfl, _⟩ <;> rfl
theorem BwR.one {lv : AV} {b : Int} {z n i j : Nat} (h : BwR s t lv b z n i j) : lv.cells = [lv] ∧ lv.one = true := by
  rcases h with ⟨rfl, rfl⟩ | ⟨j2, _, rfl, _⟩ <;> exact ⟨rfl, rfl⟩
/-- One more. -/
theorem BwR.app {lv : AV} {b : Int} {z n i j : Nat} (h : BwR s t lv b z n i j) (hs : s.next ≤ t.next) (hi : i ≤ 4000000) : ∃ lv' t', appV (t.push (.row (bwC b z n j i) true)) 2 32 lv (.sl t.next 0 1 (some 1) 2) = some (lv', t') ∧ BwR s t' lv' b z n (i + 1) j ∧ t.next ≤ t'.next ∧ (∀ id bl, t.get id = some bl → (∀ c, lv ≠ .sl id 0 i c 2) → t'.get id = some bl) ∧ (∀ M, Keep M t → M.next ≤ s.next → Keep M t') := by
  have hg : (t.push (.row (bwC b z n j i) true)).get t.next = some (.row (bwC b z n j i) true) := St.get_push_new _ _
  have hs1 : shown (t.push (.row (bwC b z n j i) true)) 2 (.sl t.next 0 1 (some 1) 2) = some (bwC b z n j i) := by
    simp only [shown, hg, if_true]
    rfl
  have hs2 : lenOf (.sl t.next 0 1 (some 1) 2) = some 1 := rfl
  simp only [appV, hs1, hs2]
  rcases h with ⟨rfl, rfl⟩ | ⟨j2, h0, rfl, h1, h2⟩
  · simp only [aappend]
    rw [if_neg (by omega), if_pos (by unfold roomBytes; omega)]
    refine ⟨_, _, rfl, .inr ⟨_, by omega, by rw [Nat.zero_add], ?_, ?_⟩, ?_, fun id bl hb _ => get_push_some _ (get_push_some _ hb), fun M hM _ => (hM.push _).push _⟩
    · simp; omega
    · rw [St.get_push_new, bwL_succ]
      rfl
    · simp
      omega
  · have hp := get_push_some (.row (bwC b z n j i) true) h2
    have hlt := St.get_lt hp
    simp only [aappend, hp, if_true]
    rw [if_neg (by omega), if_pos ⟨by rw [bwL_len]; simp, by unfold roomBytes; omega⟩]
    have e : (bwL b z n i j).take (i * 2) = bwL b z n i j := by rw [← bwL_len b z n i j]; simp
    refine ⟨_, _, rfl, .inr ⟨_, by omega, rfl, ?_, ?_⟩, ?_, fun id bl hb hne => ?_, fun M hM hMs => ?_⟩
    · simp; omega
    · refine (St.get_push_new ((t.push (.row (bwC b z n j i) true)).put j2 .dead) _).trans ?_
      rw [bwL_succ, List.drop_zero, e]
    · simp; omega
    · refine get_push_some _ ?_
      have : id ≠ j2 := fun q => hne none (by rw [q])
      rw [St.get_put_ne _ _ hlt this]
      exact get_push_some _ hb
    · exact ((hM.push _).put .dead (by omega) hlt).push _
def chunksN (z n : Nat) : Nat := (n + z - 1) / z
def cSplit : Con := fun xs s => match xs with
  | [.nilp, .int .i64 _, _] => some (.tup [.nils, .int .i64 1], s.lowed)
  | [.ptr id 0, .int .i64 b, v] => match s.get id with
    | some (.row [.int .i64 zi, dv] _) =>
      if zi = 0 then some (.tup [.nils, .int .i64 1], s.lowed)
      else match read byC s dv, read byC s v with
        | some l, some d =>
          if 0 < zi ∧ l.length ≤ 4000000 ∧ d.length ≤ 4000000 then
            if b < 0 ∨ ((l.length / zi.toNat : Nat) : Int) ≤ b then some (.tup [.nils, .int .i64 3], s.lowed)
            else if l.length - b.toNat * zi.toNat < d.length then some (.tup [.nils, .int .i64 3], s.lowed)
            else if d.length = 0 then some (.tup [.nils, .int .i64 0], s.lowed)
            else some (.tup [.sl (s.next + 1) 0 (chunksN zi.toNat d.length) none 2, .int .i64 0], (s.lowed.push (.row (byC.cells d) true)).push (.row (bwL b zi.toNat d.length (chunksN zi.toNat d.length) s.next) true))
          else none
        | _, _ => none
    | _ => none
  | _ => none

end Go.AM
end
/-
  Split walked through. Own work of this project; in part printed by a program of it.
-/
section
set_option maxRecDepth 100000
set_option maxHeartbeats 8000000
namespace Go.AM
open Go Go.Proofs

variable {s t u : St}

theorem rf_gen {call : Nat → List AV → St → Option (AV × St)} {g : AO} {ps : List Nat} {asg body : AC} {its : List (Nat × Nat × AY)} {env : Env} {Q : AEx → Env → St → Prop} (P : Env → Prop) (h : P env) (k : ∀ e, P e → @rfwp call g ps asg body its e s ⟨Q⟩) : @rfwp call g ps asg body its env s ⟨Q⟩ := k env h
theorem ystep_round {call : Nat → List AV → St → Option (AV × St)} {ps : List Nat} {asg body : AC} {env : Env} {args : List AV} {K : YP → AV → St → Prop} (h1 : args.length = ps.length) (h2 : awp call asg (fun x e t1 => x = .nor ∧ awp call body (fun x _ t2 => match x with
    | .nor => K none (.bool true) t2
    | x => K (some x) (.bool false) t2) e t1) (setPs env ps args) t) : @ystep (roundY call ps asg body env) args t ⟨K⟩ := ⟨h1, h2⟩
theorem putE_pE (env : Env) (d : Option Nat) (v : AV) : putE env d v = pE env d v := by unfold pE; rfl
def slc4V (sz : Nat) (x lo hi m : AV) : Option AV := apure [] (.slc sz (.c x) (some (.c lo)) (some (.c hi)) (some (.c m)))
theorem ap_slc4 {env : Env} (sz : Nat) (x lo hi m : AO) : apure env (.slc sz x (some lo) (some hi) (some m)) = slc4V sz (aev env x) (aev env lo) (aev env hi) (aev env m) := nrfl rfl
theorem slc_b {j n o : Nat} {cap : Option Nat} (hc : ∀ c, cap = some c → c = n) (ho : o ≤ n) : ∃ cap', slcV 1 (.sl j 0 n cap 1) (some (.int .i64 (o : Int))) none = some (.sl j o (n - o) cap' 1) := by
  cases cap with
  | none => exact ⟨none, by simp [slcV, optNat, asNatIn, ho]⟩
  | some c =>
    obtain rfl := hc c rfl
    exact ⟨some (c - o), by simp [slcV, optNat, asNatIn, ho]⟩
theorem asNat_ok {x m : Nat} (h : x ≤ m) : asNatIn (.int .i64 (x : Int)) m = some x := by simp [asNatIn, h]
theorem slc4_b {j n o m : Nat} {cap : Option Nat} (hc : ∀ c, cap = some c → c = n) (ho : o + m ≤ n) : slc4V 1 (.sl j 0 n cap 1) (.int .i64 (o : Int)) (.int .i64 ((o + m : Nat) : Int)) (.int .i64 ((o + m : Nat) : Int)) = some (.sl j o m (some m) 1) := by
  have h1 := asNat_ok ho
  have h2 := asNat_ok (Nat.le_refl (o + m))
  have h3 := asNat_ok (show o ≤ o + m by omega)
  have e1 : 0 + o * 1 = o := by omega
  have e2 : o + m - o = m := by omega
  cases cap with
  | none => simp only [slc4V, apure, aev, optNat, Option.map_some, h1, h2, h3, if_true, Option.isNone_some, Bool.false_eq_true, if_false, e1, e2]
  | some c =>
    obtain rfl := hc c rfl
    simp only [slc4V, apure, aev, optNat, Option.map_some, h1, h2, h3, if_true, Option.isNone_some, Option.isSome_some, Bool.and_false, Bool.true_and, Bool.false_eq_true, if_false, e1, e2]
theorem fstep_bw0 {x : AV} (hx : x.cells = [x] ∧ x.one = true) (z w : AV) (K : List AV → Option (List AV)) : fstep [z, w] 0 1 x K = K [x, w] := by simp [fstep, hx.1, hx.2, setAt]
theorem fstep_bw1 {x : AV} (hx : x.cells = [x] ∧ x.one = true) (z w : AV) (K : List AV → Option (List AV)) : fstep [z, w] 1 1 x K = K [z, x] := by simp [fstep, hx.1, hx.2, setAt]
theorem row1_sto {id : Nat} {v x : AV} (h : t.get id = some (.row [v] true)) (hx : x.cells = [x] ∧ x.one = true) : sto t 1 (.ptr id 0) x = some (.und, t.put id (.row [x] true)) := by
  simp [sto, h, hx.1, hx.2, setAt]
theorem chunks_lt {z n i : Nat} (hz : 0 < z) : i < chunksN z n ↔ i * z < n := by
  unfold chunksN
  rw [← Nat.succ_le_iff, Nat.le_div_iff_mul_le hz, Nat.succ_mul]
  omega
theorem BwR.ne {lv : AV} {b : Int} {z n i j : Nat} (h : BwR s t lv b z n i j) {id : Nat} {cs : List AV} {own : Bool} (hg : t.get id = some (.row cs own)) (hc : cs.length = 1 ∨ cs.all AV.plain = true) : ∀ c, lv ≠ .sl id 0 i c 2 := by
  rintro c rfl
  rcases h with ⟨_, h⟩ | ⟨j2, h0, h, h1, h2⟩
  · cases h
  · injection h with h
    subst h
    rw [hg] at h2
    injection h2 with h2
    injection h2 with h2 _
    subst h2
    rcases hc with hc | hc
    · rw [bwL_len] at hc; omega
    · obtain ⟨i', rfl⟩ : ∃ i', i = i' + 1 := ⟨i - 1, by omega⟩
      rw [bwL_succ, List.all_append] at hc
      simp [bwC, AV.plain] at hc
theorem BwR.put {lv : AV} {b : Int} {z n i j : Nat} (h : BwR s t lv b z n i j) {id : Nat} {x : AV} {own : Bool} (hg : t.get id = some (.row [x] own)) (bl : AB) : BwR s (t.put id bl) lv b z n i j := by
  rcases h with h | ⟨j2, h0, rfl, h1, h2⟩
  · exact .inl h
  · refine .inr ⟨j2, h0, rfl, h1, ?_⟩
    have hne : j2 ≠ id := by
      rintro rfl
      rw [h2] at hg
      injection hg with hg
      injection hg with hg _
      have := bwL_len b z n i j
      rw [hg] at this
      simp at this
      omega
    rw [St.get_put_ne _ _ (St.get_lt hg) hne]
    exact h2
theorem a_Split_nil {s : St} (b : Int) (v : AV) : ∀ env : Env, elen env = ai20.ntmps → (∀ i x_, [.nilp, .int .i64 b, v][i]? = some x_ → E env i = x_) → awpI (tb [(35, R_from), (36, R_BClone), (37, R_Chunk)]) ai20.body (fun x e t => (∀ i, x ≠ .exit i) ∧ aresults e t ai20.results = some (.tup [.nils, .int .i64 1]) ∧ Keep s t) env s := by
  intro env hlen ha
  have h0 : E env 0 = _ := ha 0 _ rfl
  have h1 : E env 1 = _ := ha 1 _ rfl
  have h2 : E env 2 = _ := ha 2 _ rfl
  have hlen : elen env = _ := hlen
  simp only [ai20] at hlen
  unfold ai20
  try dsimp only [oO, oG]
  have hbx : boxV 1 (.int .i64 b) = some (fun id => .ptr id 0, .row [.int .i64 b] true) := rfl
  have hK1 : Keep s (s.push (.row [.int .i64 b] true)) := (Keep.refl s).push _
  obtain ⟨l1, l2⟩ := row1_lod (St.get_push_new s (.row [.int .i64 b] true))
  have n10 : ((1 : Int) = 0) = False := eq_false (by decide)
  have n30 : ((3 : Int) = 0) = False := eq_false (by decide)
  have n00 : ((0 : Int) = 0) = True := eq_true rfl
  have q := q_from_nil false (s := s.push (.row [.int .i64 b] true)) b
  simp (config := {contextual := true, maxDischargeDepth := 12}) only [tb_at, h0, h1, h2, hlen, hbx, l1, l2, n10, n30, n00, q, ↓bD, bU, forall_const, bS, implies_true, isNx, eq_self, ↓wp_cond, ↓wp_loop, ↓reduceIte, reduceCtorEq, Nat.reduceEqDiff, Nat.reduceLT, Nat.reduceAdd, Nat.reduceMul, bT, ↓sg_bsl, ↓st_callf, bX, ar_b2s, bin_mulE, ap_mkfn, ↓wi_seq, ↓wi_base, ↓wi_block, ↓wi_cond, ↓wi_loop, ↓wi_rf, ↓wy_seq, ↓wy_base, ↓wy_block, ↓wy_cond, ↓wy_loop, ↓wy_yld]
  all_goals first | exact hK1 | exact hK1.trans hKf | skip
theorem a_Split_zero {s : St} {id : Nat} {dv : AV} {own : Bool} (hb : s.get id = some (.row [.int .i64 0, dv] own)) (b : Int) (v : AV) : ∀ env : Env, elen env = ai20.ntmps → (∀ i x_, [.ptr id 0, .int .i64 b, v][i]? = some x_ → E env i = x_) → awpI (tb [(35, R_from), (36, R_BClone), (37, R_Chunk)]) ai20.body (fun x e t => (∀ i, x ≠ .exit i) ∧ aresults e t ai20.results = some (.tup [.nils, .int .i64 1]) ∧ Keep s t) env s := by
  intro env hlen ha
  have h0 : E env 0 = _ := ha 0 _ rfl
  have h1 : E env 1 = _ := ha 1 _ rfl
  have h2 : E env 2 = _ := ha 2 _ rfl
  have hlen : elen env = _ := hlen
  simp only [ai20] at hlen
  unfold ai20
  try dsimp only [oO, oG]
  have hbx : boxV 1 (.int .i64 b) = some (fun id => .ptr id 0, .row [.int .i64 b] true) := rfl
  have hK1 : Keep s (s.push (.row [.int .i64 b] true)) := (Keep.refl s).push _
  obtain ⟨l1, l2⟩ := row1_lod (St.get_push_new s (.row [.int .i64 b] true))
  have n10 : ((1 : Int) = 0) = False := eq_false (by decide)
  have n30 : ((3 : Int) = 0) = False := eq_false (by decide)
  have n00 : ((0 : Int) = 0) = True := eq_true rfl
  have q := q_from_zero false (get_push_some (.row [.int .i64 b] true) hb) b
  simp (config := {contextual := true, maxDischargeDepth := 12}) only [tb_at, h0, h1, h2, hlen, hbx, l1, l2, n10, n30, n00, q, ↓bD, bU, forall_const, bS, implies_true, isNx, eq_self, ↓wp_cond, ↓wp_loop, ↓reduceIte, reduceCtorEq, Nat.reduceEqDiff, Nat.reduceLT, Nat.reduceAdd, Nat.reduceMul, bT, ↓sg_bsl, ↓st_callf, bX, ar_b2s, bin_mulE, ap_mkfn, ↓wi_seq, ↓wi_base, ↓wi_block, ↓wi_cond, ↓wi_loop, ↓wi_rf, ↓wy_seq, ↓wy_base, ↓wy_block, ↓wy_cond, ↓wy_loop, ↓wy_yld]
  all_goals first | exact hK1 | exact hK1.trans hKf | skip
theorem a_Split_bad {s : St} {id z : Nat} {dv : AV} {own : Bool} {l : List UInt8} (hb : s.get id = some (.row [.int .i64 (z : Int), dv] own)) (hz : 0 < z) (hr : read byC s dv = some l) (hl : l.length ≤ 4000000) (b : Int) {v : AV} {d : List UInt8} (hd : read byC s v = some d) (hdl : d.length ≤ 4000000) (hbad : b < 0 ∨ ((l.length / z : Nat) : Int) ≤ b) : ∀ env : Env, elen env = ai20.ntmps → (∀ i x_, [.ptr id 0, .int .i64 b, v][i]? = some x_ → E env i = x_) → awpI (tb [(35, R_from), (36, R_BClone), (37, R_Chunk)]) ai20.body (fun x e t => (∀ i, x ≠ .exit i) ∧ aresults e t ai20.results = some (.tup [.nils, .int .i64 3]) ∧ Keep s t) env s := by
  intro env hlen ha
  have h0 : E env 0 = _ := ha 0 _ rfl
  have h1 : E env 1 = _ := ha 1 _ rfl
  have h2 : E env 2 = _ := ha 2 _ rfl
  have hlen : elen env = _ := hlen
  simp only [ai20] at hlen
  unfold ai20
  try dsimp only [oO, oG]
  have hbx : boxV 1 (.int .i64 b) = some (fun id => .ptr id 0, .row [.int .i64 b] true) := rfl
  have hK1 : Keep s (s.push (.row [.int .i64 b] true)) := (Keep.refl s).push _
  obtain ⟨l1, l2⟩ := row1_lod (St.get_push_new s (.row [.int .i64 b] true))
  have n10 : ((1 : Int) = 0) = False := eq_false (by decide)
  have n30 : ((3 : Int) = 0) = False := eq_false (by decide)
  have n00 : ((0 : Int) = 0) = True := eq_true rfl
  have q := q_from_bad false (get_push_some (.row [.int .i64 b] true) hb) hz (hK1.read hr) hl b hbad
  simp (config := {contextual := true, maxDischargeDepth := 12}) only [tb_at, h0, h1, h2, hlen, hbx, l1, l2, n10, n30, n00, q, ↓bD, bU, forall_const, bS, implies_true, isNx, eq_self, ↓wp_cond, ↓wp_loop, ↓reduceIte, reduceCtorEq, Nat.reduceEqDiff, Nat.reduceLT, Nat.reduceAdd, Nat.reduceMul, bT, ↓sg_bsl, ↓st_callf, bX, ar_b2s, bin_mulE, ap_mkfn, ↓wi_seq, ↓wi_base, ↓wi_block, ↓wi_cond, ↓wi_loop, ↓wi_rf, ↓wy_seq, ↓wy_base, ↓wy_block, ↓wy_cond, ↓wy_loop, ↓wy_yld]
  all_goals first | exact hK1 | exact hK1.trans hKf | skip
theorem a_Split_long {s : St} {id z : Nat} {dv : AV} {own : Bool} {l : List UInt8} (hb : s.get id = some (.row [.int .i64 (z : Int), dv] own)) (hz : 0 < z) (hr : read byC s dv = some l) (hl : l.length ≤ 4000000) {k : Nat} (hk : k < l.length / z) {v : AV} {d : List UInt8} (hd : read byC s v = some d) (hdl : d.length ≤ 4000000) (hlong : l.length - k * z < d.length) : ∀ env : Env, elen env = ai20.ntmps → (∀ i x_, [.ptr id 0, .int .i64 (k : Int), v][i]? = some x_ → E env i = x_) → awpI (tb [(35, R_from), (36, R_BClone), (37, R_Chunk)]) ai20.body (fun x e t => (∀ i, x ≠ .exit i) ∧ aresults e t ai20.results = some (.tup [.nils, .int .i64 3]) ∧ Keep s t) env s := by
  intro env hlen ha
  have h0 : E env 0 = _ := ha 0 _ rfl
  have h1 : E env 1 = _ := ha 1 _ rfl
  have h2 : E env 2 = _ := ha 2 _ rfl
  have hlen : elen env = _ := hlen
  simp only [ai20] at hlen
  unfold ai20
  try dsimp only [oO, oG]
  have hbx : boxV 1 (.int .i64 (k : Int)) = some (fun id => .ptr id 0, .row [.int .i64 (k : Int)] true) := rfl
  have hK1 : Keep s (s.push (.row [.int .i64 (k : Int)] true)) := (Keep.refl s).push _
  obtain ⟨l1, l2⟩ := row1_lod (St.get_push_new s (.row [.int .i64 (k : Int)] true))
  have n10 : ((1 : Int) = 0) = False := eq_false (by decide)
  have n30 : ((3 : Int) = 0) = False := eq_false (by decide)
  have n00 : ((0 : Int) = 0) = True := eq_true rfl
  obtain ⟨w1, t1, q, hr1, hKf⟩ := q_from_ok (get_push_some (.row [.int .i64 (k : Int)] true) hb) hz (hK1.read hr) hl hk
  have hkz : k * z ≤ l.length := Nat.le_trans (Nat.mul_le_mul_right z (Nat.le_of_lt hk)) (Nat.div_mul_le_self _ _)
  have hL1 := lenV_read hr1
  rw [List.length_drop] at hL1
  have hLd := lenV_read hd
  have hz1 := eq_true (show ((l.length - k * z : Nat) : Int) < (d.length : Int) by omega)
  simp (config := {contextual := true, maxDischargeDepth := 12}) only [tb_at, h0, h1, h2, hlen, hbx, l1, l2, n10, n30, n00, q, hL1, hLd, hz1, ↓bD, bU, forall_const, bS, implies_true, isNx, eq_self, ↓wp_cond, ↓wp_loop, ↓reduceIte, reduceCtorEq, Nat.reduceEqDiff, Nat.reduceLT, Nat.reduceAdd, Nat.reduceMul, bT, ↓sg_bsl, ↓st_callf, bX, ar_b2s, bin_mulE, ap_mkfn, ↓wi_seq, ↓wi_base, ↓wi_block, ↓wi_cond, ↓wi_loop, ↓wi_rf, ↓wy_seq, ↓wy_base, ↓wy_block, ↓wy_cond, ↓wy_loop, ↓wy_yld]
  all_goals first | exact hK1 | exact hK1.trans hKf | skip
theorem a_Split_ok {s : St} {id z : Nat} {dv : AV} {own : Bool} {l : List UInt8} (hb : s.get id = some (.row [.int .i64 (z : Int), dv] own)) (hz : 0 < z) (hr : read byC s dv = some l) (hl : l.length ≤ 4000000) {k : Nat} (hk : k < l.length / z) {v : AV} {d : List UInt8} (hd : read byC s v = some d) (hdl : d.length ≤ 4000000) (hfit : d.length ≤ l.length - k * z) : ∀ env : Env, elen env = ai20.ntmps → (∀ i x_, [.ptr id 0, .int .i64 (k : Int), v][i]? = some x_ → E env i = x_) → awpI (tb [(35, R_from), (36, R_BClone), (37, R_Chunk)]) ai20.body (fun x e t => (∀ i, x ≠ .exit i) ∧ Keep s t ∧ ∃ lv, aresults e t ai20.results = some (.tup [lv, .int .i64 0]) ∧ ((d = [] ∧ lv = .nils) ∨ ∃ j1 j2, 0 < chunksN z d.length ∧ lv = .sl j2 0 (chunksN z d.length) none 2 ∧ j1 ≠ j2 ∧ s.next ≤ j1 ∧ s.next ≤ j2 ∧ t.get j1 = some (.row (byC.cells d) true) ∧ t.get j2 = some (.row (bwL (k : Int) z d.length (chunksN z d.length) j1) true))) env s := by
  intro env hlen ha
  have h0 : E env 0 = _ := ha 0 _ rfl
  have h1 : E env 1 = _ := ha 1 _ rfl
  have h2 : E env 2 = _ := ha 2 _ rfl
  have hlen : elen env = _ := hlen
  simp only [ai20] at hlen
  unfold ai20
  try dsimp only [oO, oG]
  have hbx : boxV 1 (.int .i64 (k : Int)) = some (fun id => .ptr id 0, .row [.int .i64 (k : Int)] true) := rfl
  have hK1 : Keep s (s.push (.row [.int .i64 (k : Int)] true)) := (Keep.refl s).push _
  obtain ⟨l1, l2⟩ := row1_lod (St.get_push_new s (.row [.int .i64 (k : Int)] true))
  have n10 : ((1 : Int) = 0) = False := eq_false (by decide)
  have n30 : ((3 : Int) = 0) = False := eq_false (by decide)
  have n00 : ((0 : Int) = 0) = True := eq_true rfl
  obtain ⟨w1, t1, q, hr1, hKf⟩ := q_from_ok (get_push_some (.row [.int .i64 (k : Int)] true) hb) hz (hK1.read hr) hl hk
  have hkz : k * z ≤ l.length := Nat.le_trans (Nat.mul_le_mul_right z (Nat.le_of_lt hk)) (Nat.div_mul_le_self _ _)
  have hL1 := lenV_read hr1
  rw [List.length_drop] at hL1
  have hLd := lenV_read hd
  have hz1 := eq_false (show ¬ ((l.length - k * z : Nat) : Int) < (d.length : Int) by omega)
  have hK2 := hK1.trans hKf
  have hK3 : Keep s (t1.push (.row [.nils] true)) := hK2.push _
  obtain ⟨w, t2, q2, hN, hKc⟩ := q_BCloneF (hK3.read hd) hdl
  have hK4 := hK3.trans hKc
  obtain ⟨m0, m1, mlt⟩ := row2_lod (hK4.blk hb)
  obtain ⟨p1, p2, t3, q3, g1, g2, hp1, hp2, hKh⟩ := q_Chunk (s := t2) (v := w) (z := z) (by rcases hN with ⟨rfl, _⟩ | ⟨j, c, rfl, _⟩ <;> exact ⟨rfl, rfl⟩) hz
  have hK5 := hK4.trans hKh
  simp (config := {contextual := true, maxDischargeDepth := 12}) only [tb_at, h0, h1, h2, hlen, hbx, l1, l2, n10, n30, n00, q, hL1, hLd, hz1, q2, q3, m0, m1, mlt, nchkV_ptr, reserve0, ↓bD, bU, forall_const, bS, implies_true, isNx, eq_self, ↓wp_cond, ↓wp_loop, ↓reduceIte, reduceCtorEq, Nat.reduceEqDiff, Nat.reduceLT, Nat.reduceAdd, Nat.reduceMul, bT, ↓sg_bsl, ↓st_callf, bX, ar_b2s, bin_mulE, ap_mkfn, ↓wi_seq, ↓wi_base, ↓wi_block, ↓wi_cond, ↓wi_loop, ↓wi_rf, ↓wy_seq, ↓wy_base, ↓wy_block, ↓wy_cond, ↓wy_loop, ↓wy_yld]
  refine rf_gen (fun e => elen e = 44 ∧ E e 4 = .ptr s.next 0 ∧ E e 10 = .ptr t1.next 0 ∧ E e 32 = .fn 39 [.ptr p1 0, .ptr p2 0]) ⟨(by simp only [bE, Nat.reduceEqDiff, bN, Nat.reduceLT, hlen]; try rfl), (by simp only [bE, Nat.reduceEqDiff, bN, Nat.reduceLT, hlen]; try rfl), (by simp only [bE, Nat.reduceEqDiff, bN, Nat.reduceLT, hlen]; try rfl), (by simp only [bE, Nat.reduceEqDiff, bN, Nat.reduceLT, hlen]; try rfl)⟩ ?_
  clear h0 h1 h2 ha
  rintro e0 ⟨he0, x4, x10, x32⟩
  refine rf_start (f := 39) (n := 31) (caps := [.ptr p1 0, .ptr p2 0]) (y := y39) (by rw [aev_t]; exact x32) rfl fun yl => ?_
  refine start_env (args := [.yd yl, .ptr p1 0, .ptr p2 0]) (n := 31) (p := fun env1 => awpY _ _ _ y39 none _ env1 t3) (by simp) fun env1 hl1 ha1 => ?_
  have a0 : E env1 0 = _ := ha1 0 _ rfl
  have a1 : E env1 1 = _ := ha1 1 _ rfl
  have a2 : E env1 2 = _ := ha1 2 _ rfl
  unfold y39
  try dsimp only [oO, oG]
  simp (config := {contextual := true, maxDischargeDepth := 12}) only [tb_at, a0, a1, a2, hl1, ↓bD, bU, forall_const, bS, implies_true, isNx, eq_self, ↓wp_cond, ↓wp_loop, ↓reduceIte, reduceCtorEq, Nat.reduceEqDiff, Nat.reduceLT, Nat.reduceAdd, Nat.reduceMul, bT, ↓sg_bsl, ↓st_callf, bX, ar_b2s, bin_mulE, ap_mkfn, ↓wi_seq, ↓wi_base, ↓wi_block, ↓wi_cond, ↓wi_loop, ↓wi_rf, ↓wy_seq, ↓wy_base, ↓wy_block, ↓wy_cond, ↓wy_loop, ↓wy_yld]
  obtain ⟨j1, hj1⟩ : ∃ j1, d = [] ∨ ∃ cap, w = .sl j1 0 d.length cap 1 ∧ (t1.push (.row [.nils] true)).next ≤ j1 ∧ t2.get j1 = some (.row (byC.cells d) true) ∧ ∀ c, cap = some c → c = d.length := by
    rcases hN with ⟨_, h⟩ | ⟨j, cap, h⟩
    · exact ⟨0, .inl h⟩
    · exact ⟨j, .inr ⟨cap, h⟩⟩
  have hLw := lenV_read hN.read
  have hlb3 : t3.get t1.next = some (.row [.nils] true) := hKh.blk (hKc.blk (St.get_push_new t1 _))
  have hbb3 : t3.get s.next = some (.row [.int .i64 (k : Int)] true) := hKh.blk (hKc.blk (get_push_some _ (hKf.blk (St.get_push_new s _))))
  obtain ⟨I, hI⟩ : ∃ I : Nat → Env → St → Prop, ∀ n e t, I n e t = (∃ i lv, n + i = chunksN z d.length ∧ elen e = 31 ∧ E e 0 = .yd yl ∧ E e 1 = .ptr p1 0 ∧ E e 2 = .ptr p2 0 ∧ E e 4 = .int .i64 ((i * z : Nat) : Int) ∧ Keep s t ∧ t.get t1.next = some (.row [lv] true) ∧ BwR s t lv (k : Int) z d.length i j1 ∧ t.get p1 = some (.row [w] true) ∧ t.get p2 = some (.row [.int .i64 (z : Int)] true) ∧ t.get s.next = some (.row [.int .i64 (k : Int)] true) ∧ (d = [] ∨ t.get j1 = some (.row (byC.cells d) true))) := ⟨fun n e t => (∃ i lv, n + i = chunksN z d.length ∧ elen e = 31 ∧ E e 0 = .yd yl ∧ E e 1 = .ptr p1 0 ∧ E e 2 = .ptr p2 0 ∧ E e 4 = .int .i64 ((i * z : Nat) : Int) ∧ Keep s t ∧ t.get t1.next = some (.row [lv] true) ∧ BwR s t lv (k : Int) z d.length i j1 ∧ t.get p1 = some (.row [w] true) ∧ t.get p2 = some (.row [.int .i64 (z : Int)] true) ∧ t.get s.next = some (.row [.int .i64 (k : Int)] true) ∧ (d = [] ∨ t.get j1 = some (.row (byC.cells d) true))), fun _ _ _ => rfl⟩
  refine lwpY_inv roundY_mono I (n := chunksN z d.length) ?_ ?_
  · rw [hI]
    exact ⟨0, .nils, by omega, (by simp only [bE, Nat.reduceEqDiff, bN, Nat.reduceLT, hl1, a0, a1, a2]; try rfl), (by simp only [bE, Nat.reduceEqDiff, bN, Nat.reduceLT, hl1, a0, a1, a2]; try rfl), (by simp only [bE, Nat.reduceEqDiff, bN, Nat.reduceLT, hl1, a0, a1, a2]; try rfl), (by simp only [bE, Nat.reduceEqDiff, bN, Nat.reduceLT, hl1, a0, a1, a2]; try rfl), by simp only [bE, Nat.reduceEqDiff, bN, Nat.reduceLT, hl1]; rw [Nat.zero_mul]; rfl, hK5, hlb3, .inl ⟨rfl, rfl⟩, g1, g2, hbb3, hj1.imp (fun q => q) fun ⟨_, _, _, h, _⟩ => hKh.blk h⟩
  clear a0 a1 a2 hl1 ha1 hlb3 hbb3
  intro n e t hi
  rw [hI] at hi
  obtain ⟨i, lv, hni, he, e0_, e1_, e2_, e4_, hKt, glb, hB, gp1, gp2, gbb, gj⟩ := hi
  have hch := chunks_lt (z := z) (n := d.length) (i := i) hz
  obtain ⟨b1_, b2_⟩ := row1_lod gp1
  obtain ⟨c1_, c2_⟩ := row1_lod gp2
  obtain ⟨f1_, f2_⟩ := row1_lod glb
  obtain ⟨k1_, k2_⟩ := row1_lod gbb
  by_cases hlt : i * z < d.length
  rotate_left
  · have hz2 := eq_false (show ¬ ((i * z : Nat) : Int) < (d.length : Int) by omega)
    simp (config := {contextual := true, maxDischargeDepth := 12}) only [tb_at, he, e0_, e1_, e2_, e4_, b1_, b2_, hLw, hz2, he0, x4, x10, f1_, f2_, ↓bD, bU, forall_const, bS, implies_true, isNx, eq_self, ↓wp_cond, ↓wp_loop, ↓reduceIte, reduceCtorEq, Nat.reduceEqDiff, Nat.reduceLT, Nat.reduceAdd, Nat.reduceMul, bT, ↓sg_bsl, ↓st_callf, bX, ar_b2s, bin_mulE, ap_mkfn, ↓wi_seq, ↓wi_base, ↓wi_block, ↓wi_cond, ↓wi_loop, ↓wi_rf, ↓wy_seq, ↓wy_base, ↓wy_block, ↓wy_cond, ↓wy_loop, ↓wy_yld]
    have hi : i = chunksN z d.length := by
      have : ¬ i < chunksN z d.length := fun q => hlt (hch.1 q)
      omega
    refine ⟨hKt, lv, rfl, ?_⟩
    rcases hB with ⟨h0, hl'⟩ | ⟨j2, h0, hl', h1, h2⟩
    · refine .inl ⟨?_, hl'⟩
      subst h0
      have : d.length = 0 := by omega
      simpa using this
    · have hdn : d ≠ [] := by
        rintro rfl
        have := (chunks_lt (z := z) (n := ([] : List UInt8).length) (i := 0) hz).1 (by omega)
        simp at this
      have gj' := gj.resolve_left hdn
      obtain ⟨cap, hw, hjn, _, _⟩ := hj1.resolve_left hdn
      have hne := BwR.ne (s := s) (.inr ⟨j2, h0, hl', h1, h2⟩ : BwR s t lv (k : Int) z d.length i j1) gj' (.inr (cells_plain byC d)) none
      refine .inr ⟨j1, j2, by omega, by rw [hl', hi], fun q => hne (by rw [hl', q]), ?_, h1, gj', by rw [← hi]; exact h2⟩
      have := hK3.next
      omega
  have hdn : d ≠ [] := by rintro rfl; simp at hlt
  have gj' := gj.resolve_left hdn
  obtain ⟨cap, hw, hjn, _, hcap⟩ := hj1.resolve_left hdn
  have hz2 := eq_true (show ((i * z : Nat) : Int) < (d.length : Int) by omega)
  have hzl : z ≤ l.length := by
    have h1 : 1 * z ≤ (l.length / z) * z := Nat.mul_le_mul_right z (by omega)
    have h2 := Nat.div_mul_le_self l.length z
    omega
  obtain ⟨cap', sl1⟩ := slc_b (j := j1) hcap (Nat.le_of_lt hlt)
  have sl2 := slc4_b (j := j1) (m := (min z (d.length - i * z) : Nat)) hcap (show i * z + (min z (d.length - i * z) : Nat) ≤ d.length by omega)
  rw [← hw] at sl1 sl2
  have hLs : lenV (.sl j1 (i * z) (d.length - i * z) cap' 1) = some (.int .i64 ((d.length - i * z : Nat) : Int)) := rfl
  have hmin : min (z : Int) ((d.length - i * z : Nat) : Int) = ((min z (d.length - i * z) : Nat) : Int) := by omega
  have hw1 : IntKind.i64.wrap (((i * z : Nat) : Int) + ((min z (d.length - i * z) : Nat) : Int)) = ((i * z + (min z (d.length - i * z) : Nat) : Nat) : Int) := by
    rw [← Int.natCast_add]
    exact wrapI (by omega) (by omega)
  have hw2 : IntKind.i64.wrap (((i * z : Nat) : Int) + (z : Int)) = (((i + 1) * z : Nat) : Int) := by
    rw [← Int.natCast_add, Nat.succ_mul]
    exact wrapI (by omega) (by omega)
  simp (config := {contextual := true, maxDischargeDepth := 12}) only [tb_at, he, e0_, e1_, e2_, e4_, b1_, b2_, c1_, c2_, hLw, hz2, sl1, sl2, hLs, hmin, mmV_min, hw1, reserve0, ap_slc4, ↓bD, bU, forall_const, bS, implies_true, isNx, eq_self, ↓wp_cond, ↓wp_loop, ↓reduceIte, reduceCtorEq, Nat.reduceEqDiff, Nat.reduceLT, Nat.reduceAdd, Nat.reduceMul, bT, ↓sg_bsl, ↓st_callf, bX, ar_b2s, bin_mulE, ap_mkfn, ↓wi_seq, ↓wi_base, ↓wi_block, ↓wi_cond, ↓wi_loop, ↓wi_rf, ↓wy_seq, ↓wy_base, ↓wy_block, ↓wy_cond, ↓wy_loop, ↓wy_yld]
  refine ystep_round rfl ?_
  have hset : ∀ v, setPs e0 [33] [v] = pE e0 (some 33) v := fun v => by unfold pE; rfl
  simp only [hset]
  have hic : i ≤ 4000000 := by
    have : i * 1 ≤ i * z := Nat.mul_le_mul_left i hz
    omega
  obtain ⟨lv', t', hap, hB', hnx, hold, hkp⟩ := hB.app hKt.next hic
  have hBl := hB.len
  have hkl : k ≤ 4000000 := by
    have : k * 1 ≤ k * z := Nat.mul_le_mul_left k hz
    omega
  have hw3 : IntKind.i64.wrap ((k : Int) + (i : Int)) = (k : Int) + (i : Int) := wrapI (by omega) (by omega)
  have fs0 := fstep_bw0 (x := .int .i64 ((k : Int) + (i : Int))) ⟨rfl, rfl⟩ (.int .i64 0) .nils
  have fs1 := fstep_bw1 (x := .sl j1 (i * z) (min z (d.length - i * z) : Nat) (some (min z (d.length - i * z) : Nat)) 1) ⟨rfl, rfl⟩ (.int .i64 ((k : Int) + (i : Int))) .nils
  have fs2 : ∀ K : List AV → Option (List AV), fstep [.int .i64 0, .nils] 0 2 (.agg [.int .i64 ((k : Int) + (i : Int)), .sl j1 (i * z) (min z (d.length - i * z) : Nat) (some (min z (d.length - i * z) : Nat)) 1]) K = K (bwC (k : Int) z d.length j1 i) := fun K => by simp [fstep, AV.cells, AV.one, setAt, bwC]
  have hbs : bslV [.int .i64 0, .nils] 1 2 [(0, .agg [.int .i64 ((k : Int) + (i : Int)), .sl j1 (i * z) (min z (d.length - i * z) : Nat) (some (min z (d.length - i * z) : Nat)) 1])] = some (fun id => .sl id 0 1 (some 1) 2, .row (bwC (k : Int) z d.length j1 i) true) := by
    simp [bslV, fillP, aev, AV.cells, AV.one, setAt, bwC]
  have hsb : s.next < t1.next := by
    have := hKf.next
    simp at this
    omega
  have ht13 := (hKc.trans hKh).next
  have hpres : ∀ (id : Nat) (cs : List AV), t.get id = some (.row cs true) → (cs.length = 1 ∨ cs.all AV.plain = true) → t'.get id = some (.row cs true) := fun id cs hg hc => hold id _ hg (hB.ne hg hc)
  have glb' := hpres _ _ glb (.inl rfl)
  have hst := row1_sto glb' (x := lv') hB'.one
  have hltb := St.get_lt glb'
  have hput : ∀ (id : Nat) (bl : AB), t'.get id = some bl → id ≠ t1.next → (t'.put t1.next (.row [lv'] true)).get id = some bl := fun id bl hg hne => by rw [St.get_put_ne _ _ hltb hne]; exact hg
  have hkcn := hKc.next
  simp at hkcn hjn
  have gp1' := hput _ _ (hpres _ _ gp1 (.inl rfl)) (by omega)
  have gp2' := hput _ _ (hpres _ _ gp2 (.inl rfl)) (by omega)
  have gbb' := hput _ _ (hpres _ _ gbb (.inl rfl)) (by omega)
  have gj2 := hput _ _ (hpres _ _ gj' (.inr (cells_plain byC d))) (by omega)
  obtain ⟨c1b, c2b⟩ := row1_lod gp2'
  have hKt' : Keep s (t'.put t1.next (.row [lv'] true)) := (hkp s hKt (Nat.le_refl _)).put _ hK2.next hltb
  simp (config := {contextual := true, maxDischargeDepth := 12}) only [tb_at, he0, x4, x10, he, e0_, e1_, e2_, e4_, f1_, f2_, k1_, k2_, hBl, hw3, fs0, fs1, fs2, hbs, hap, hst, hltb, c1b, c2b, hw2, putE_pE, ap_build, fillP_nil, fillP_cons, notV_bool, Bool.not_true, reserve0, ↓bD, bU, forall_const, bS, implies_true, isNx, eq_self, ↓wp_cond, ↓wp_loop, ↓reduceIte, reduceCtorEq, Nat.reduceEqDiff, Nat.reduceLT, Nat.reduceAdd, Nat.reduceMul, bT, ↓sg_bsl, ↓st_callf, bX, ar_b2s, bin_mulE, ap_mkfn, ↓wi_seq, ↓wi_base, ↓wi_block, ↓wi_cond, ↓wi_loop, ↓wi_rf, ↓wy_seq, ↓wy_base, ↓wy_block, ↓wy_cond, ↓wy_loop, ↓wy_yld]
  have hcn := hch.2 hlt
  refine ⟨n - 1, by omega, ?_⟩
  rw [hI]
  exact ⟨i + 1, lv', by omega, (by simp only [bE, Nat.reduceEqDiff, bN, Nat.reduceLT, he, e0_, e1_, e2_, e4_]; try rfl), (by simp only [bE, Nat.reduceEqDiff, bN, Nat.reduceLT, he, e0_, e1_, e2_, e4_]; try rfl), (by simp only [bE, Nat.reduceEqDiff, bN, Nat.reduceLT, he, e0_, e1_, e2_, e4_]; try rfl), (by simp only [bE, Nat.reduceEqDiff, bN, Nat.reduceLT, he, e0_, e1_, e2_, e4_]; try rfl), (by simp only [bE, Nat.reduceEqDiff, bN, Nat.reduceLT, he, e0_, e1_, e2_, e4_]; try rfl), hKt', St.get_put_same glb', hB'.put glb' _, gp1', gp2', gbb', .inr gj2⟩

theorem split_keep {args : List AV} {r : AV} (hg : r.ground = true) (hl : args.length ≤ ai20.ntmps) (h : ∀ env : Env, elen env = ai20.ntmps → (∀ i x_, args[i]? = some x_ → E env i = x_) → awpI (tb [(35, R_from), (36, R_BClone), (37, R_Chunk)]) ai20.body (fun x e t => (∀ i, x ≠ .exit i) ∧ aresults e t ai20.results = some r ∧ Keep s t) env s) :
    (Grow s s.lowed ∧ Keeps s s.lowed) ∧ awpI (tb [(35, R_from), (36, R_BClone), (37, R_Chunk)]) ai20.body (fun x env t => (∀ i, x ≠ .exit i) ∧ ∃ f, aresults env t ai20.results = some (r.ren f) ∧ Emb f s s.lowed t) (args ++ List.replicate (ai20.ntmps - args.length) .und) s :=
  ⟨gk_lowed s, start_env hl fun env h1 h2 => awpI_mono _ (fun x e t q => by
    obtain ⟨q1, q2, q3⟩ := q
    obtain ⟨f, _, hf⟩ := emb_keep q3
    exact ⟨q1, f, by rw [q2, ground_ren f hg], hf⟩) (h env h1 h2)⟩
theorem s_Split : SoundAt Try.prog 20 cSplit :=
  con_soundI (tb_sound (l := [(35, R_from), (36, R_BClone), (37, R_Chunk)]) (by simpa using ⟨s_from, s_BClone, s_Chunk⟩)) mixed Try.func20 ki20 ci20 fun args s r s' h => by
    have hn : ∀ x y z : AV, [x, y, z].length ≤ ai20.ntmps := fun _ _ _ => by simp [ai20]
    unfold cSplit at h
    split at h
    · injection h with h
      obtain ⟨rfl, rfl⟩ := Prod.mk.inj h
      exact split_keep rfl (hn _ _ _) (a_Split_nil _ _)
    · split at h
      · rename_i hb
        split at h
        · rename_i h0
          subst h0
          injection h with h
          obtain ⟨rfl, rfl⟩ := Prod.mk.inj h
          exact split_keep rfl (hn _ _ _) (a_Split_zero hb _ _)
        · split at h
          · rename_i l d hr hd
            split at h
            · rename_i hc
              obtain ⟨hz, hl, hdl⟩ := hc
              rename_i b v _ zi _ _ _ _ _
              obtain ⟨z, rfl⟩ : ∃ z : Nat, zi = (z : Int) := ⟨zi.toNat, by omega⟩
              rw [Int.toNat_natCast] at h
              have hz' : 0 < z := by omega
              split at h
              · rename_i hbad
                injection h with h
                obtain ⟨rfl, rfl⟩ := Prod.mk.inj h
                exact split_keep rfl (hn _ _ _) (a_Split_bad hb hz' hr hl _ hd hdl hbad)
              · rename_i hbad
                obtain ⟨k, rfl⟩ : ∃ k : Nat, b = (k : Int) := ⟨b.toNat, by omega⟩
                rw [Int.toNat_natCast] at h
                have hk : k < l.length / z := by
                  generalize l.length / z = q at hbad
                  omega
                split at h
                · rename_i hlong
                  injection h with h
                  obtain ⟨rfl, rfl⟩ := Prod.mk.inj h
                  exact split_keep rfl (hn _ _ _) (a_Split_long hb hz' hr hl hk hd hdl hlong)
                · rename_i hfit
                  split at h
                  · rename_i hd0
                    injection h with h
                    obtain ⟨rfl, rfl⟩ := Prod.mk.inj h
                    refine split_keep rfl (hn _ _ _) fun env e1 e2 => awpI_mono _ (fun x e t q => ?_) (a_Split_ok hb hz' hr hl hk hd hdl (by omega) env e1 e2)
                    obtain ⟨q1, q2, lv, q3, q4⟩ := q
                    rcases q4 with ⟨_, rfl⟩ | ⟨j1, j2, q5, _⟩
                    · exact ⟨q1, q3, q2⟩
                    · have := (chunks_lt (z := z) (n := d.length) (i := 0) hz').1 q5
                      omega
                  · rename_i hd0
                    injection h with h
                    obtain ⟨rfl, rfl⟩ := Prod.mk.inj h
                    refine ⟨gk_push (gk_push (gk_lowed s) _) _, start_env (hn _ _ _) fun env e1 e2 => awpI_mono _ (fun x e t q => ?_) (a_Split_ok hb hz' hr hl hk hd hdl (by omega) env e1 e2)⟩
                    obtain ⟨q1, q2, lv, q3, q4⟩ := q
                    rcases q4 with ⟨rfl, _⟩ | ⟨j1, j2, q5, rfl, q6, q7, q8, q9, q10⟩
                    · simp at hd0
                    · obtain ⟨f, f0, f1, hE⟩ := emb_two q2 (cs2 := fun j => bwL (k : Int) z d.length (chunksN z d.length) j) q6 q7 q8 q9 (cells_plain byC d) q10 (fun f hf => bwL_ren _ _ _ _ _ _ f hf)
                      exact ⟨q1, f, by rw [q3]; simp [AV.ren, AV.rens, f1], hE⟩
            · cases h
          · cases h
      · cases h
    · cases h

end Go.AM
end
/-
  What a closed run by the kernel shows. Own work of this project.
-/
section
namespace Go.AM
open Go

def isTrue : Option (AV × St) → Bool
  | some (.bool true, _) => true
  | _ => false
theorem isTrue_ex {o : Option (AV × St)} (h : isTrue o = true) : ∃ s, o = some (.bool true, s) := by
  unfold isTrue at h
  split at h
  · exact ⟨_, rfl⟩
  · cases h
end Go.AM
end
/-
  The chapter's examples: 'known' answers true. Own work of this project; in part printed by a program of it.
-/
section
set_option maxRecDepth 100000
set_option maxHeartbeats 4000000
namespace Go.AM
open Go Go.Proofs

def tabK : Nat → AFun
  | 10 => .code a10
  | 29 => .code a29
  | 15 => .code a15
  | 25 => .code a25
  | 26 => .code a26
  | 13 => .code a13
  | 14 => .code a14
  | 31 => .code a31
  | 32 => .code a32
  | 27 => .code a27
  | 38 => .code a38
  | 35 => .code a35
  | 19 => .code a19
  | 8 => .code a8
  | 36 => .code a36
  | 20 => .con (cSplit)
  | _ => .no
theorem tabK_ok : ∀ f, FunOk Try.prog f (tabK f) := by
  intro f
  unfold tabK
  split
  · exact ⟨k10, _, Try.func10, c10⟩
  · exact ⟨k29, _, Try.func29, c29⟩
  · exact ⟨k15, _, Try.func15, c15⟩
  · exact ⟨k25, _, Try.func25, c25⟩
  · exact ⟨k26, _, Try.func26, c26⟩
  · exact ⟨k13, _, Try.func13, c13⟩
  · exact ⟨k14, _, Try.func14, c14⟩
  · exact ⟨k31, _, Try.func31, c31⟩
  · exact ⟨k32, _, Try.func32, c32⟩
  · exact ⟨k27, _, Try.func27, c27⟩
  · exact ⟨k38, _, Try.func38, c38⟩
  · exact ⟨k35, _, Try.func35, c35⟩
  · exact ⟨k19, _, Try.func19, c19⟩
  · exact ⟨k8, _, Try.func8, c8⟩
  · exact ⟨k36, _, Try.func36, c36⟩
  · exact s_Split
  · trivial
theorem known_run : isTrue (acalls tabK 1000 12 10 [] St.empty) = true := by kernel_rfl
theorem s_known : SoundAt Try.prog 10 (closed [] (.bool true)) := by
  obtain ⟨s, hs⟩ := isTrue_ex known_run
  exact closed_sound (acalls_sound mixed tabK_ok 12 _) hs rfl
end Go.AM
end
/-
  The row's last part: a call that leaves what was there alone, and answers true. Own work of this project.
-/
section
namespace Go.AM
open Go Go.ChangeShapes Go.WideShapes Go.ChangeAt Go.RowKit

variable {H : Type} {enc : TypeId × Value → H} {P : Program}

theorem Clean.below {W W' : World} (h : Clean W W') : Below W.heap.size W W' := ⟨h.os, h.tape, h.output, h.size, h.block⟩
theorem Clean.frozen {W W' : World} (h : Clean W W') {a : Addr} (ha : a.block < W.heap.size) : W'.frozen? a = W.frozen? a := h.below.frozen ha

theorem trodAll_clean (hl : laidOutB P = true) {W W' : World} (hc : Clean W W') (sp : Nat → Bool) : ∀ {ts : List TypeId} {vs : List Value} {ds : List (DataW H)} {ps : List MemPlace}, (∀ t ∈ ts, P.readableRec t = true ∧ t < P.types.size) →
    DataW.TrodAll enc P W 0 (fun _ => true) true ts vs ds ps → (∀ p ∈ ps, sp p.block = true) → DataW.TrodAll enc P W' 0 sp true ts vs ds ps
  | [], vs, ds, ps, _, h, _ => by
    obtain ⟨rfl, rfl, rfl⟩ := trodAll_nil h
    rfl
  | t :: ts, vs, ds, ps, hr, h, hs => by
    obtain ⟨v, vs1, d, ds1, a, b, rfl, rfl, rfl, h1, h2⟩ := trodAll_cons h
    have hlt := DataW.TrodAll.lt h
    refine ⟨a, b, ?_, trodAll_clean hl hc sp (fun t ht => hr t (by simp [ht])) h2 fun p hp => hs p (by simp [hp]), rfl⟩
    exact WideElems.Trod_stays hl (hr t (by simp)).1 (hr t (by simp)).2 h1 (fun x hx => hc.below.same (hlt x (by simp [hx]))) fun x hx => hs x (by simp [hx])

theorem post_of_clean {f : Func} {s : ChangeSpec} {apart fresh handsOn again : Bool} {W W' : World} {args : Array Value} {ds gs : List (DataW H)} {before : List MemPlace} {tb : TypeId} (hl : laidOutB P = true)
    (hread : ∀ t ∈ f.params.toList, P.readableRec t = true ∧ t < P.types.size) (hW : DataW.Whole enc P f.params.toList s.vars apart W args.toList ds gs before) (hv : s.vars = [])
    (hres : (s.fn H (ds ++ gs)).results = [.lit (.bool true)]) (hargs : (s.fn H (ds ++ gs)).args = ds) (hvars : (s.fn H (ds ++ gs)).vars = []) (hrt : f.resultTypes = #[tb]) (hb : P.underlying tb = some .bool) (hc : Clean W W') :
    s.post enc P f apart fresh handsOn again W args (.bool true) W' := by
  have hlt : ∀ p ∈ before, p.block < W.heap.size := hW.lt
  have hW0 := hW
  obtain ⟨pa, pv, hA, hV, rfl, hz, hn⟩ := hW
  have hpv : pv = [] := by
    rw [hv] at hV
    cases gs with
    | nil => exact hV
    | cons g gs => exact hV.elim
  subst hpv
  simp only [List.append_nil] at hW0 hlt hz hn
  have hR : ∀ (b : Nat) (sp : Nat → Bool) (hd : Bool), DataW.TrodAll enc P W' b sp hd [tb] [.bool true] [.lit (.bool true)] [] := fun b sp hd => trodAll_mk1 (shut_bool hb true)
  have hrl : (Value.bool true).resultList f.resultTypes.size = [.bool true] := by simp [hrt, Value.resultList]
  refine ⟨ds, gs, pa, [], pa, [], hW0, ?_, ?_, ?_, ?_, fun _ => ⟨fun j t r h1 h2 => ?_, ?_⟩⟩
  · rw [hrl, hres, hrt]
    exact hR _ _ _
  · rw [hargs]
    exact trodAll_clean hl hc _ hread hA fun p hp => by simpa using hlt p hp
  · rw [hvars, hv]
    rfl
  · exact hc.below.frame _
  · rw [hrl] at h2
    rw [hrt] at h1
    cases j with
    | zero =>
      simp at h1 h2
      subst h1; subst h2
      simp [Value.okWide, hb, Cell.okWide, Cell.ok]
    | succ j => simp at h1
  · refine ⟨[.lit (.bool true)] ++ ds, [], pa, ⟨[] ++ pa, [], ?_, ?_, by simp, ?_, ?_⟩, fun p hp _ => hp⟩
    · rw [hrl, hrt]
      exact trodAll_append (trodAll_clean hl hc _ hread hA fun _ _ => rfl) (hR _ _ _)
    · rw [hv]
      rfl
    · intro b off hp
      rw [hc.frozen (hlt _ hp)]
      exact hz b off hp
    · intro ha
      simpa using hn ha

end Go.AM
end
/-
  From a row's reading of an argument to the abstract machine's memory. Own work of this project.
-/
section
namespace Go.AM
open Go Go.ChangeShapes Go.WideShapes Go.ChangeAt Go.RowKit Go.Deep

/-- The kinds of plain cells. -/
inductive CK where
  | b | i (k : IntKind) | s
def CK.ok : CK → AV → Prop
  | .b, v => ∃ x, v = .bool x
  | .i k, v => ∃ n, v = .int k n ∧ (Lit.int k n).wf = true
  | .s, v => ∃ x, v = .str x
def CKs : List CK → List AV → Prop
  | [], vs => vs = []
  | k :: ks, vs => ∃ v r, vs = v :: r ∧ k.ok v ∧ CKs ks r
theorem CKs.append : ∀ {ks ks' : List CK} {vs vs' : List AV}, CKs ks vs → CKs ks' vs' → CKs (ks ++ ks') (vs ++ vs')
  | [], ks', vs, vs', h, h' => by simp only [CKs] at h; subst h; exact h'
  | k :: ks, ks', vs, vs', h, h' => by
    simp only [CKs] at h
    obtain ⟨v, r, rfl, h1, h2⟩ := h
    exact ⟨v, r ++ vs', rfl, h1, CKs.append h2 h'⟩
theorem CKs.len : ∀ {ks : List CK} {vs : List AV}, CKs ks vs → vs.length = ks.length
  | [], vs, h => by simp only [CKs] at h; subst h; rfl
  | k :: ks, vs, h => by
    simp only [CKs] at h
    obtain ⟨v, r, rfl, h1, h2⟩ := h
    simp [CKs.len h2]
theorem CK.ok_one {k : CK} {v : AV} (h : k.ok v) : v.one = true := by
  cases k <;> simp only [CK.ok] at h
  · obtain ⟨x, rfl⟩ := h; rfl
  · obtain ⟨x, rfl, _⟩ := h; rfl
  · obtain ⟨x, rfl⟩ := h; rfl
theorem CKs.one : ∀ {ks : List CK} {vs : List AV}, CKs ks vs → vs.all AV.one = true
  | [], vs, h => by simp only [CKs] at h; subst h; rfl
  | k :: ks, vs, h => by
    simp only [CKs] at h
    obtain ⟨v, r, rfl, h1, h2⟩ := h
    simp [CK.ok_one h1, CKs.one h2]

variable (P : Program)
variable {P}
variable {H : Type} {enc : TypeId × Value → H} {w : World} {base : Nat} {spare : Nat → Bool} {held : Bool}
theorem cell_some {a : Addr} {v : Value} (h : w.cell? a = some v) : ∃ cells el fr, w.heap[a.block]? = some (.cells cells el fr) ∧ a.spot = none := by
  unfold World.cell? at h
  split at h
  · rename_i c el fr hh
    split at h
    · cases h
    · rename_i hs
      exact ⟨c, el, fr, hh, by simpa using hs⟩
  · cases h
theorem addr_block (a : Addr) (i : Nat) : (a.add i).block = a.block := by unfold Addr.add; split <;> rfl
theorem addr_spot (a : Addr) (i : Nat) (h : (a.add i).spot = none) (h0 : i = 0 ∨ True) : i = 0 → a.spot = none := by
  intro hi
  subst hi
  unfold Addr.add at h
  simpa using h

/-- Cells, each kind in its turn, again and again. -/
def Rows (ks : List CK) (rows : List (List AV)) : Prop := ∀ r ∈ rows, CKs ks r
end Go.AM
end
/-
  Arguments with slices in slices and in structs, opened into the abstract machine's memory. Own work of this project.
-/
section
set_option maxRecDepth 100000
namespace Go.AM
open Go Go.ChangeShapes Go.WideShapes Go.ChangeAt Go.RowKit Go.Deep

/-- Some block of cells is there. -/
def HasCellsD (W : World) : Prop := ∃ (b : Nat) (cs : Array Value) (e : TypeId) (fr : Nat × Nat), W.heap[b]? = some (Obj.cells cs e fr)
theorem dummyD {W : World} (h : HasCellsD W) : ∃ L : Loc, L.b < W.heap.size ∧ ∀ ρ, BlkOk ρ L W (.row [] false) := by
  obtain ⟨b, cs, e, fr, hb⟩ := h
  refine ⟨⟨b, 0, cs.size⟩, (Array.getElem?_eq_some_iff.1 hb).1, fun ρ => ?_⟩
  simp only [BlkOk]
  exact ⟨cs, e, fr, hb, rfl, by simp, fun i v h => by simp at h, by simp, rfl⟩

section
variable (P : Program)
/-- What the memory shows at cells of a type. -/
def RdF (ok : TypeId → List AV → Prop) : List Field → List AV → Prop
  | [], vs => vs = []
  | f :: r, vs => ∃ a b, vs = a ++ b ∧ ok f.type a ∧ RdF ok r b
def RdT (s : St) : Nat → TypeId → List AV → Prop
  | 0, _, _ => False
  | d + 1, t, vs => match P.underlying t with
    | some .bool => ∃ x, vs = [.bool x]
    | some (.int k) => ∃ n, vs = [.int k n] ∧ (Lit.int k n).wf = true
    | some .string => ∃ x, vs = [.str x]
    | some (.struct fs) => RdF (RdT s d) fs.toList vs
    | some (.slice e) => vs = [.nils] ∨ ∃ (id n cap : Nat) (rows : List (List AV)), vs = [.sl id 0 n (some cap) (P.cellsOf e)] ∧ n ≤ cap ∧ cap ≤ maxLen ∧ rows.length = cap ∧ s.get id = some (.row rows.flatten false) ∧ ∀ r ∈ rows, RdT s d e r ∧ r.length = P.cellsOf e
    | _ => False
def okF (ok : TypeId → Bool) : List Field → Nat → Nat → Bool
  | [], at_, sz => decide (sz = at_)
  | f :: r, at_, sz => decide (f.offset = at_) && ok f.type && okF ok r (at_ + P.cellsOf f.type) sz
def okT : Nat → TypeId → Bool
  | 0, _ => false
  | d + 1, t => match P.underlying t with
    | some .bool | some (.int _) | some .string => true
    | some (.struct fs) => okF P (okT d) fs.toList 0 (P.cellsOf t)
    | some (.slice e) => decide (P.cellsOf e ≠ 0) && okT d e
    | _ => false
end

variable {P : Program} {H : Type} {enc : TypeId × Value → H} {W : World} {base : Nat} {held : Bool}
/-- Cells, and the blocks that they reach, numbered from 'start' on. -/
structure Opn (W : World) (Q : St → List AV → Prop) (start : Nat) (cs : List Value) (vs : List AV) (bl : List (AB × Loc)) : Prop where
  lt : ∀ p ∈ bl, p.2.b < W.heap.size
  own : ∀ p ∈ bl, p.1.owned = false
  vr : ∀ ρ : Ren, (∀ i p, bl[i]? = some p → ρ (start + i) = some p.2) → VRs ρ vs cs ∧ ∀ p ∈ bl, BlkOk ρ p.2 W p.1
  rd : ∀ s : St, (∀ i p, bl[i]? = some p → s.get (start + i) = some p.1) → Q s vs
  one : vs.all AV.one = true
  len : vs.length = cs.length
theorem Opn.plain {Q : St → List AV → Prop} {start : Nat} {cs : List Value} {vs : List AV} (h : ∀ ρ, VRs ρ vs cs) (hq : ∀ s, Q s vs) (ho : vs.all AV.one = true) (hl : vs.length = cs.length) : Opn W Q start cs vs [] :=
  ⟨by simp, by simp, fun ρ _ => ⟨h ρ, by simp⟩, fun s _ => hq s, ho, hl⟩
theorem Opn.app {Q1 Q2 : St → List AV → Prop} {start : Nat} {c1 c2 : List Value} {v1 v2 : List AV} {b1 b2 : List (AB × Loc)} (h : Opn W Q1 start c1 v1 b1) (k : Opn W Q2 (start + b1.length) c2 v2 b2) :
    Opn W (fun s _ => Q1 s v1 ∧ Q2 s v2) start (c1 ++ c2) (v1 ++ v2) (b1 ++ b2) := by
  have e1 : ∀ {i : Nat} {p}, b1[i]? = some p → (b1 ++ b2)[i]? = some p := fun {i p} hp => by
    rw [List.getElem?_append_left (List.getElem?_eq_some_iff.1 hp).1]; exact hp
  have e2 : ∀ {i : Nat} {p}, b2[i]? = some p → (b1 ++ b2)[b1.length + i]? = some p := fun {i p} hp => by
    rw [List.getElem?_append_right (by omega), Nat.add_sub_cancel_left]; exact hp
  refine ⟨fun p hp => ?_, fun p hp => ?_, fun ρ hρ => ?_, fun s hs => ⟨h.rd s fun i p hp => hs i p (e1 hp), k.rd s fun i p hp => ?_⟩, by simp [h.one, k.one], by simp [h.len, k.len]⟩
  · rcases List.mem_append.1 hp with q | q
    · exact h.lt p q
    · exact k.lt p q
  · rcases List.mem_append.1 hp with q | q
    · exact h.own p q
    · exact k.own p q
  · obtain ⟨r1, r2⟩ := h.vr ρ fun i p hp => hρ i p (e1 hp)
    obtain ⟨r3, r4⟩ := k.vr ρ fun i p hp => by have := hρ _ p (e2 hp); rwa [← Nat.add_assoc] at this
    refine ⟨r1.append r3, fun p hp => ?_⟩
    rcases List.mem_append.1 hp with q | q
    · exact r2 p q
    · exact r4 p q
  · have := hs _ p (e2 hp)
    rwa [← Nat.add_assoc] at this
theorem Opn.imp {Q Q' : St → List AV → Prop} {start : Nat} {cs : List Value} {vs : List AV} {bl : List (AB × Loc)} (h : Opn W Q start cs vs bl) (k : ∀ s, Q s vs → Q' s vs) : Opn W Q' start cs vs bl :=
  ⟨h.lt, h.own, h.vr, fun s hs => k s (h.rd s hs), h.one, h.len⟩

/-- A slice's place, its elements as they are read one by one. -/
theorem slice_geo {t e : TypeId} {fuel : Nat} {cs : List Value} {x : DataW H × List MemPlace} (hu : P.underlying t = some (.slice e)) (h0 : P.cellsOf e ≠ 0)
    (h : DataW.trod enc P W base (fun _ => true) held fuel t cs = some x) : cs = [.slice none 0 0] ∨ (∃ a, cs = [.slice (some a) 0 0]) ∨
    ∃ (b off len cap : Nat) (cells : Array Value) (el : TypeId) (fr : Nat × Nat) (n : Nat), cs = [.slice (some ⟨b, off, none⟩) len cap] ∧ 0 < cap ∧ len ≤ cap ∧ cap ≤ maxLen ∧ W.heap[b]? = some (.cells cells el fr) ∧ off + cap * P.cellsOf e ≤ cells.size ∧
      ∀ i, i < cap → ∃ x, DataW.trod enc P W base (fun _ => true) held n e ((cells.toList.drop (off + i * P.cellsOf e)).take (P.cellsOf e)) = some x := by
  rcases open_slice hu h with ⟨rfl, _⟩ | ⟨a, len, cap, m, n, D, Pl, rfl, hb, hl, hm, hmm, _, hx⟩
  · exact .inl rfl
  right
  simp only [if_true] at hmm
  subst hmm
  by_cases hc : m = 0
  · left
    subst hc
    have : len = 0 := by omega
    subst this
    exact ⟨a, rfl⟩
  right
  obtain ⟨cs0, h1, _⟩ := hx 0 (by omega)
  obtain ⟨_, hl0, hat0⟩ := World.cells?_some h1
  have hc0 := hat0 0 (by omega)
  obtain ⟨b, off, spot⟩ := a
  have hsome : ∃ v, cs0[0]? = some v := ⟨cs0[0]'(by omega), by simp⟩
  obtain ⟨v0, hv0⟩ := hsome
  rw [hv0] at hc0
  obtain ⟨cells, el, fr, hh, hsp⟩ := cell_some hc0
  rw [addr_block, addr_block] at hh
  simp only at hh
  have hspot : spot = none := by
    have h2 := addr_spot _ 0 hsp (.inl rfl) rfl
    have h3 := addr_spot _ (0 * P.cellsOf e) h2 (.inr trivial) (by simp)
    exact h3
  subst hspot
  have hat : ∀ i, i < m → off + (i + 1) * P.cellsOf e ≤ cells.size ∧ ∃ x, DataW.trod enc P W base (fun _ => true) held n e ((cells.toList.drop (off + i * P.cellsOf e)).take (P.cellsOf e)) = some x := by
    intro i hi
    obtain ⟨cs', e1, e2⟩ := hx i hi
    obtain ⟨_, hl', hat'⟩ := World.cells?_some e1
    have hget : ∀ j, j < P.cellsOf e → cells[off + i * P.cellsOf e + j]? = cs'[j]? := by
      intro j hj
      have := hat' j hj
      rw [addr_add, addr_add, cell_at hh] at this
      exact this
    have hsz : off + (i + 1) * P.cellsOf e ≤ cells.size := by
      have hj : P.cellsOf e - 1 < P.cellsOf e := by omega
      have := hget _ hj
      rw [List.getElem?_eq_getElem (by omega)] at this
      have hlt := (Array.getElem?_eq_some_iff.1 this).1
      rw [Nat.succ_mul]
      omega
    refine ⟨hsz, (D i, Pl i), ?_⟩
    have : (cells.toList.drop (off + i * P.cellsOf e)).take (P.cellsOf e) = cs' := by
      apply List.ext_getElem?
      intro j
      by_cases hj : j < P.cellsOf e
      · rw [List.getElem?_take_of_lt hj, List.getElem?_drop]
        have := hget j (by omega)
        simpa using this
      · rw [List.getElem?_eq_none (by simp; omega), List.getElem?_eq_none (by omega)]
    rw [this]
    exact e2
  obtain ⟨q2, _⟩ := hat (m - 1) (by omega)
  rw [show m - 1 + 1 = m by omega] at q2
  exact ⟨b, off, len, m, cells, el, fr, n, rfl, by omega, hl, hm, hh, q2, fun i hi => (hat i hi).2⟩

def DeepOk (P : Program) (enc : TypeId × Value → H) (W : World) (base : Nat) (held : Bool) (d : Nat) (t : TypeId) : Prop :=
  ∀ (fuel : Nat) (cs : List Value) (x : DataW H × List MemPlace), DataW.trod enc P W base (fun _ => true) held fuel t cs = some x → ∀ start, ∃ vs bl, Opn W (fun s vs => RdT P s d t vs) start cs vs bl

theorem deep_fields {d : Nat} (IH : ∀ t, okT P d t = true → DeepOk P enc W base held d t) {n : Nat} {cs : List Value} {sz : Nat} (hcs : cs.length = sz) : ∀ (fs : List Field) (at_ : Nat), okF P (okT P d) fs at_ sz = true →
    (∀ f ∈ fs, ∃ x, DataW.trod enc P W base (fun _ => true) held n f.type ((cs.drop f.offset).take (P.cellsOf f.type)) = some x) → ∀ start, ∃ vs bl, Opn W (fun s vs => RdF (RdT P s d) fs vs) start (cs.drop at_) vs bl
  | [], at_, h, _, start => by
    simp only [okF, decide_eq_true_eq] at h
    rw [List.drop_eq_nil_of_le (by omega)]
    exact ⟨[], [], .plain (fun _ => VRs_nil) (fun _ => rfl) rfl rfl⟩
  | f :: r, at_, h, hx, start => by
    simp only [okF, Bool.and_eq_true, decide_eq_true_eq] at h
    obtain ⟨⟨hoff, hok⟩, hr⟩ := h
    obtain ⟨x, hxf⟩ := hx f (by simp)
    obtain ⟨v1, b1, o1⟩ := IH f.type hok n _ x hxf start
    obtain ⟨v2, b2, o2⟩ := deep_fields IH hcs r (at_ + P.cellsOf f.type) hr (fun g hg => hx g (by simp [hg])) (start + b1.length)
    refine ⟨v1 ++ v2, b1 ++ b2, ?_⟩
    have := o1.app o2
    rw [hoff, ← List.drop_drop, List.take_append_drop] at this
    exact this.imp fun s q => ⟨v1, v2, rfl, q⟩
theorem deep_rows {d : Nat} {e : TypeId} {n : Nat} (IH : DeepOk P enc W base held d e) (cells : List Value) (off : Nat) : ∀ (k : Nat), off + k * P.cellsOf e ≤ cells.length →
    (∀ i, i < k → ∃ x, DataW.trod enc P W base (fun _ => true) held n e ((cells.drop (off + i * P.cellsOf e)).take (P.cellsOf e)) = some x) → ∀ start, ∃ (rows : List (List AV)) (bl : List (AB × Loc)), rows.length = k ∧
      Opn W (fun s _ => ∀ r ∈ rows, RdT P s d e r ∧ r.length = P.cellsOf e) start ((cells.drop off).take (k * P.cellsOf e)) rows.flatten bl
  | 0, _, _, start => ⟨[], [], rfl, .plain (fun _ => by simpa using VRs_nil) (fun _ r hr => by simp at hr) rfl (by simp)⟩
  | k + 1, hle, hx, start => by
    obtain ⟨rows, b1, h1, o1⟩ := deep_rows IH cells off k (by rw [Nat.succ_mul] at hle; omega) (fun i hi => hx i (by omega)) start
    obtain ⟨x, hxk⟩ := hx k (by omega)
    obtain ⟨v2, b2, o2⟩ := IH n _ x hxk (start + b1.length)
    refine ⟨rows ++ [v2], b1 ++ b2, by simp [h1], ?_⟩
    have hl2 : v2.length = P.cellsOf e := by
      rw [o2.len, List.length_take, List.length_drop]
      rw [Nat.succ_mul] at hle
      omega
    have := o1.app o2
    rw [List.flatten_append, List.flatten_singleton, Nat.succ_mul, List.take_add, List.drop_drop]
    refine this.imp fun s hq r hr => ?_
    rcases List.mem_append.1 hr with q | q
    · exact hq.1 r q
    · simp at q
      subst q
      exact ⟨hq.2, hl2⟩
theorem VRs.cell {ρ : Ren} {vs : List AV} {cs : List Value} (h : VRs ρ vs cs) {i : Nat} {v : AV} (hi : vs[i]? = some v) : ∃ c, cs[i]? = some c ∧ VR ρ v c := VRs.at_ i h hi
theorem deep_open (hc : HasCellsD W) : ∀ (d : Nat) (t : TypeId), okT P d t = true → DeepOk P enc W base held d t
  | 0, t, h => by simp [okT] at h
  | d + 1, t, h => by
    intro fuel cs x hx start
    simp only [okT] at h
    split at h
    · rename_i hu
      obtain ⟨b, rfl, _⟩ := DataW.trod_bool hu hx
      exact ⟨[.bool b], [], .plain (fun ρ => VRs_cons.2 ⟨by simp [VR], VRs_nil⟩) (fun s => by simp only [RdT, hu]; exact ⟨b, rfl⟩) rfl rfl⟩
    · rename_i k hu
      obtain ⟨b, rfl, _, hw⟩ := DataW.trod_int hu hx
      exact ⟨[.int k b], [], .plain (fun ρ => VRs_cons.2 ⟨by simp [VR], VRs_nil⟩) (fun s => by simp only [RdT, hu]; exact ⟨b, rfl, hw⟩) rfl rfl⟩
    · rename_i hu
      obtain ⟨b, rfl, _⟩ := DataW.trod_string hu hx
      exact ⟨[.str b], [], .plain (fun ρ => VRs_cons.2 ⟨by simp [VR], VRs_nil⟩) (fun s => by simp only [RdT, hu]; exact ⟨b, rfl⟩) rfl rfl⟩
    · rename_i fs hu
      obtain ⟨xs, n, _, _, hl, hxl, hf⟩ := DataW.trod_struct hu hx
      obtain ⟨vs, bl, ho⟩ := deep_fields (fun t hk => deep_open hc d t hk) hl fs.toList 0 h (n := n) (fun f hmem => by
        obtain ⟨i, hi⟩ := List.getElem?_of_mem hmem
        have hi' : fs[i]? = some f := by simpa using hi
        have hlt : i < xs.length := by
          have := (Array.getElem?_eq_some_iff.1 hi').1
          omega
        exact ⟨xs[i], by rw [hf i f hi']; simp [hlt]⟩) start
      rw [List.drop_zero] at ho
      exact ⟨vs, bl, ho.imp fun s q => by simp only [RdT, hu]; exact q⟩
    · rename_i e hu
      simp only [Bool.and_eq_true, decide_eq_true_eq] at h
      obtain ⟨L, hL1, hL2⟩ := dummyD hc
      rcases slice_geo hu h.1 hx with rfl | ⟨a, rfl⟩ | ⟨b, off, len, cap, cells, el, fr, n, rfl, h2, h3, h4, h5, h6, h7⟩
      · exact ⟨[.nils], [], .plain (fun ρ => VRs_cons.2 ⟨by simp [VR], VRs_nil⟩) (fun s => by simp only [RdT, hu]; exact .inl (by trivial)) rfl rfl⟩
      · refine ⟨[.sl start 0 0 (some 0) (P.cellsOf e)], [(.row [] false, L)], ?_, ?_, fun ρ hρ => ⟨VRs_cons.2 ⟨?_, VRs_nil⟩, ?_⟩, fun s hs => ?_, rfl, rfl⟩
        · intro p hp
          simp at hp
          subst hp
          exact hL1
        · intro p hp
          simp at hp
          subst hp
          rfl
        · simp only [VR]
          exact ⟨L, a, 0, hρ 0 _ rfl, rfl, Nat.le_refl _, fun k hk => by injection hk, .inl rfl⟩
        · intro p hp
          simp at hp
          subst hp
          exact hL2 ρ
        · simp only [RdT, hu]
          exact .inr ⟨start, 0, 0, [], rfl, Nat.le_refl _, Nat.zero_le _, rfl, hs 0 _ rfl, fun r hr => by simp at hr⟩
      · have hlt := (Array.getElem?_eq_some_iff.1 h5).1
        obtain ⟨rows, bl, hr1, ho⟩ := deep_rows (deep_open hc d e h.2) cells.toList off cap (by simpa using h6) h7 (start + 1)
        have hfl : rows.flatten.length = cap * P.cellsOf e := by
          rw [ho.len, List.length_take, List.length_drop]
          simp
          omega
        have hup : ∀ {ρ : Ren}, (∀ i p, ((AB.row rows.flatten false, (⟨b, off, cells.size⟩ : Loc)) :: bl)[i]? = some p → ρ (start + i) = some p.2) → ∀ i p, bl[i]? = some p → ρ (start + 1 + i) = some p.2 := fun hρ i p hp => by
          have := hρ (i + 1) p (by simpa using hp)
          rwa [show start + (i + 1) = start + 1 + i by omega] at this
        refine ⟨[.sl start 0 len (some cap) (P.cellsOf e)], (.row rows.flatten false, ⟨b, off, cells.size⟩) :: bl, ?_, ?_, fun ρ hρ => ?_, fun s hs => ?_, rfl, rfl⟩
        · intro p hp
          rcases List.mem_cons.1 hp with rfl | hp
          · exact hlt
          · exact ho.lt p hp
        · intro p hp
          rcases List.mem_cons.1 hp with rfl | hp
          · rfl
          · exact ho.own p hp
        · obtain ⟨r1, r2⟩ := ho.vr ρ (hup hρ)
          refine ⟨VRs_cons.2 ⟨?_, VRs_nil⟩, fun p hp => ?_⟩
          · simp only [VR]
            exact ⟨⟨b, off, cells.size⟩, ⟨b, off, none⟩, cap, hρ 0 _ rfl, rfl, h3, fun k hk => by injection hk, .inr ⟨by simp, by simpa using h6⟩⟩
          · rcases List.mem_cons.1 hp with rfl | hp
            · simp only [BlkOk]
              refine ⟨cells, el, fr, h5, rfl, by rw [hfl]; exact h6, fun i v hi => ?_, by simp, ho.one⟩
              have hi' := (List.getElem?_eq_some_iff.1 hi).1
              obtain ⟨c, hc1, hc2⟩ := r1.cell hi
              refine ⟨c, ?_, hc2⟩
              rw [List.getElem?_take_of_lt (by omega), List.getElem?_drop] at hc1
              simpa using hc1
            · exact r2 p hp
        · simp only [RdT, hu]
          refine .inr ⟨start, len, cap, rows, rfl, h3, h4, hr1, hs 0 _ rfl, ?_⟩
          refine ho.rd s fun i p hp => ?_
          have := hs (i + 1) p (by simpa using hp)
          rwa [show start + (i + 1) = start + 1 + i by omega] at this
    · cases h

/-! ### All arguments of a call -/
def argAV (P : Program) (t : TypeId) (vs : List AV) : AV := match P.underlying t with
  | some (.struct _) => .agg vs
  | _ => vs.headD .und
def RdA (P : Program) (s : St) (d : Nat) (t : TypeId) (v : AV) : Prop := ∃ vs, RdT P s d t vs ∧ v = argAV P t vs
def RdAs (P : Program) (s : St) (d : Nat) : List TypeId → List AV → Prop
  | [], xs => xs = []
  | t :: ts, xs => ∃ v r, xs = v :: r ∧ RdA P s d t v ∧ RdAs P s d ts r
structure OpnA (W : World) (Q : St → List AV → Prop) (start : Nat) (cs : List Value) (vs : List AV) (bl : List (AB × Loc)) : Prop where
  lt : ∀ p ∈ bl, p.2.b < W.heap.size
  own : ∀ p ∈ bl, p.1.owned = false
  vr : ∀ ρ : Ren, (∀ i p, bl[i]? = some p → ρ (start + i) = some p.2) → VRs ρ vs cs ∧ ∀ p ∈ bl, BlkOk ρ p.2 W p.1
  rd : ∀ s : St, (∀ i p, bl[i]? = some p → s.get (start + i) = some p.1) → Q s vs
theorem OpnA.cons {Q1 Q2 : St → List AV → Prop} {start : Nat} {c : Value} {cs : List Value} {v : AV} {vs : List AV} {b1 b2 : List (AB × Loc)} (h : OpnA W Q1 start [c] [v] b1) (k : OpnA W Q2 (start + b1.length) cs vs b2) :
    OpnA W (fun s _ => Q1 s [v] ∧ Q2 s vs) start (c :: cs) (v :: vs) (b1 ++ b2) := by
  have e1 : ∀ {i : Nat} {p}, b1[i]? = some p → (b1 ++ b2)[i]? = some p := fun {i p} hp => by
    rw [List.getElem?_append_left (List.getElem?_eq_some_iff.1 hp).1]; exact hp
  have e2 : ∀ {i : Nat} {p}, b2[i]? = some p → (b1 ++ b2)[b1.length + i]? = some p := fun {i p} hp => by
    rw [List.getElem?_append_right (by omega), Nat.add_sub_cancel_left]; exact hp
  refine ⟨fun p hp => ?_, fun p hp => ?_, fun ρ hρ => ?_, fun s hs => ⟨h.rd s fun i p hp => hs i p (e1 hp), k.rd s fun i p hp => ?_⟩⟩
  · rcases List.mem_append.1 hp with q | q
    · exact h.lt p q
    · exact k.lt p q
  · rcases List.mem_append.1 hp with q | q
    · exact h.own p q
    · exact k.own p q
  · obtain ⟨r1, r2⟩ := h.vr ρ fun i p hp => hρ i p (e1 hp)
    obtain ⟨r3, r4⟩ := k.vr ρ fun i p hp => by have := hρ _ p (e2 hp); rwa [← Nat.add_assoc] at this
    refine ⟨r1.append r3, fun p hp => ?_⟩
    rcases List.mem_append.1 hp with q | q
    · exact r2 p q
    · exact r4 p q
  · have := hs _ p (e2 hp)
    rwa [← Nat.add_assoc] at this
theorem arg_deep (hc : HasCellsD W) {d : Nat} {t : TypeId} (hok : okT P (d + 1) t = true) {v : Value} {x : DataW H} {p : List MemPlace} (h : DataW.Trod enc P W base (fun _ => true) held t v x p) {b0 : Nat} (hval : Value.okWide P W .any b0 t v) (start : Nat) :
    ∃ a bl, OpnA W (fun s _ => RdA P s (d + 1) t a) start [v] [a] bl := by
  obtain ⟨fuel, h⟩ := h
  obtain ⟨vs, bl, ho⟩ := deep_open hc (d + 1) t hok fuel _ _ h start
  have hone : ∀ (hv : v.cells.toList = [v]) (ha : argAV P t vs = vs.headD .und), ∃ a bl, OpnA W (fun s _ => RdA P s (d + 1) t a) start [v] [a] bl := by
    intro hv ha
    have hl := ho.len
    rw [hv] at hl
    match vs, hl with
    | [a], _ =>
      refine ⟨a, bl, ho.lt, ho.own, fun ρ hρ => ?_, fun s hs => ⟨[a], ho.rd s hs, by rw [ha]; rfl⟩⟩
      have := ho.vr ρ hρ
      rw [hv] at this
      exact this
  simp only [okT] at hok
  split at hok
  · rename_i hu
    obtain ⟨b, rfl⟩ := okWide_bool hu hval
    exact hone rfl (by simp [argAV, hu])
  · rename_i k hu
    obtain ⟨b, rfl⟩ := okWide_int hu hval
    exact hone rfl (by simp [argAV, hu])
  · rename_i hu
    obtain ⟨b, rfl⟩ := okWide_string hu hval
    exact hone rfl (by simp [argAV, hu])
  · rename_i fs hu
    obtain ⟨cs, rfl, _⟩ := okWide_struct hu hval
    refine ⟨.agg vs, bl, ho.lt, ho.own, fun ρ hρ => ?_, fun s hs => ⟨vs, ho.rd s hs, by simp [argAV, hu]⟩⟩
    obtain ⟨r1, r2⟩ := ho.vr ρ hρ
    refine ⟨VRs_cons.2 ⟨?_, VRs_nil⟩, r2⟩
    simp only [VR]
    exact ⟨cs.toList, by simp, r1⟩
  · rename_i e hu
    obtain ⟨a, len, cap, rfl⟩ := okWide_slice hu hval
    exact hone rfl (by simp [argAV, hu])
  · cases hok
theorem args_deep (hc : HasCellsD W) {d : Nat} : ∀ {ts : List TypeId} {vs : List Value} {ds : List (DataW H)} {ps : List MemPlace}, (∀ t ∈ ts, okT P (d + 1) t = true) → DataW.TrodAll enc P W base (fun _ => true) held ts vs ds ps →
    (∀ (j : Nat) t v, ts[j]? = some t → vs[j]? = some v → ∃ b0, Value.okWide P W .any b0 t v) → ∀ start, ∃ xs bl, OpnA W (fun s _ => RdAs P s (d + 1) ts xs) start vs xs bl
  | [], vs, ds, ps, _, h, _, start => by
    obtain ⟨rfl, rfl, rfl⟩ := trodAll_nil h
    exact ⟨[], [], by simp, by simp, fun ρ _ => ⟨VRs_nil, by simp⟩, fun s _ => rfl⟩
  | t :: ts, vs, ds, ps, hok, h, hval, start => by
    obtain ⟨v, vs1, x, ds1, a, b, rfl, rfl, rfl, h1, h2⟩ := trodAll_cons h
    obtain ⟨b0, hv⟩ := hval 0 t v rfl rfl
    obtain ⟨av, bl1, o1⟩ := arg_deep hc (hok t (by simp)) h1 hv start
    obtain ⟨xs, bl2, o2⟩ := args_deep hc (fun t' ht => hok t' (by simp [ht])) h2 (fun j t' v' e1 e2 => hval (j + 1) t' v' (by simpa using e1) (by simpa using e2)) (start + bl1.length)
    have := o1.cons o2
    exact ⟨av :: xs, bl1 ++ bl2, this.lt, this.own, this.vr, fun s hs => ⟨av, xs, rfl, this.rd s hs⟩⟩
open Classical in
noncomputable def lawC (P : Program) (d : Nat) (ts : List TypeId) : List AV → St → Option (AV × St) := fun xs s => if RdAs P s d ts xs then some (.bool true, { heap := s.heap, next := s.next, low := min s.low s.next }) else none
theorem deep_call {d : Nat} {ts : List TypeId} {args : List Value} {xs : List AV} {bl : List (AB × Loc)} (ho : OpnA W (fun s _ => RdAs P s d ts xs) 0 args xs bl) {f : Nat} (hs : SoundAt P f (lawC P d ts)) : Calls P f args.toArray W fun e W' => e = .returned (.bool true) ∧ Clean W W' := by
  obtain ⟨s0, hs0⟩ : ∃ s0 : St, s0 = ⟨(bl.map (·.1)).reverse, bl.length, 0⟩ := ⟨_, rfl⟩
  have hnx : s0.next = bl.length := by rw [hs0]
  have hget : ∀ i, s0.get i = (bl[i]?).map (·.1) := by
    intro i
    subst hs0
    unfold St.get
    simp only
    split
    · rename_i h
      rw [List.getElem?_reverse (by simp; omega)]
      simp only [List.length_map, List.getElem?_map]
      rw [show bl.length - 1 - (bl.length - 1 - i) = i by omega]
    · rename_i h
      rw [List.getElem?_eq_none (by omega)]
      rfl
  have hown : ∀ i b, s0.get i = some b → b.owned = false := by
    intro i b h
    rw [hget] at h
    obtain ⟨p, hp, rfl⟩ := Option.map_eq_some_iff.1 h
    exact ho.own p (List.mem_of_getElem? hp)
  obtain ⟨ρ, hρ⟩ : ∃ ρ : Ren, ρ = fun i => (bl[i]?).map (·.2) := ⟨_, rfl⟩
  have hρ1 : ∀ i p, bl[i]? = some p → ρ (0 + i) = some p.2 := fun i p hp => by rw [hρ, Nat.zero_add]; simp [hp]
  obtain ⟨hv, hb⟩ := ho.vr ρ hρ1
  have hR : R s0 ρ W := by
    refine ⟨fun i L h => ?_, fun i b L h1 h2 => ?_, fun i j L M bi bj _ _ _ e3 _ e5 _ => ?_⟩
    · rw [hρ] at h
      obtain ⟨p, hp, rfl⟩ := Option.map_eq_some_iff.1 h
      exact ho.lt p (List.mem_of_getElem? hp)
    · rw [hget] at h1
      rw [hρ] at h2
      obtain ⟨p, hp, rfl⟩ := Option.map_eq_some_iff.1 h1
      simp [hp] at h2
      subst h2
      exact hb p (List.mem_of_getElem? hp)
    · rw [hown i bi e3] at e5; cases e5
  have hrd := ho.rd s0 fun i p hp => by rw [Nat.zero_add, hget, hp]; rfl
  obtain ⟨_, _, h⟩ := hs xs s0 _ _ (by unfold lawC; rw [if_pos hrd])
  have := h ρ W args (fun i hi => by rw [hρ]; simp; omega) hR hv
  refine this.mono fun e W' hp => ?_
  obtain ⟨ρ', v, rfl, hv', hst, _⟩ := hp
  simp only [VR] at hv'
  subst hv'
  exact ⟨rfl, hst.size, hst.os, hst.tape, hst.output, hst.drawn, fun b hb => hst.frame b hb fun id L blk _ _ h1 h2 => by rw [hown id blk h1] at h2; cases h2⟩
theorem trodAll_len : ∀ {ts : List TypeId} {vs : List Value} {ds : List (DataW H)} {ps : List MemPlace}, DataW.TrodAll enc P W base (fun _ => true) held ts vs ds ps → ds.length = ts.length
  | [], vs, ds, ps, h => by
    obtain ⟨rfl, rfl, rfl⟩ := trodAll_nil h
    rfl
  | t :: ts, vs, ds, ps, h => by
    obtain ⟨v, vs1, x, ds1, a, b, rfl, rfl, rfl, h1, h2⟩ := trodAll_cons h
    simp [trodAll_len h2]
end Go.AM
end
/-
  What the arguments of the statements show: numbers, nodes, states, lists of states. Own work of this project.
-/
section
set_option maxRecDepth 100000
namespace Go.AM
open Go Go.Proofs

variable {P : Program} {s : St}
theorem rd_int {d : Nat} {t : TypeId} {k : IntKind} {vs : List AV} (hu : P.underlying t = some (.int k)) (h : RdT P s (d + 1) t vs) : ∃ n, vs = [.int k n] ∧ (Lit.int k n).wf = true := by
  simp only [RdT, hu] at h
  exact h
theorem rda_int {d : Nat} {t : TypeId} {k : IntKind} {v : AV} (hu : P.underlying t = some (.int k)) (h : RdA P s (d + 1) t v) : ∃ n, v = .int k n ∧ (Lit.int k n).wf = true := by
  obtain ⟨vs, h1, rfl⟩ := h
  obtain ⟨n, rfl, hw⟩ := rd_int hu h1
  exact ⟨n, by simp [argAV, hu], hw⟩
theorem lawC_some {d : Nat} {ts : List TypeId} {xs : List AV} {r : AV} {s' : St} (h : lawC P d ts xs s = some (r, s')) : RdAs P s d ts xs ∧ r = .bool true ∧ s' = s.lowed := by
  unfold lawC at h
  split at h
  · rename_i hr
    injection h with h
    obtain ⟨rfl, rfl⟩ := Prod.mk.inj h
    exact ⟨hr, rfl, rfl⟩
  · cases h
theorem rdas_1 {d : Nat} {t : TypeId} {xs : List AV} (h : RdAs P s d [t] xs) : ∃ v, xs = [v] ∧ RdA P s d t v := by
  obtain ⟨v, r, rfl, h1, h2⟩ := h
  simp only [RdAs] at h2
  subst h2
  exact ⟨v, rfl, h1⟩
theorem rdas_2 {d : Nat} {t1 t2 : TypeId} {xs : List AV} (h : RdAs P s d [t1, t2] xs) : ∃ v w, xs = [v, w] ∧ RdA P s d t1 v ∧ RdA P s d t2 w := by
  obtain ⟨v, r, rfl, h1, h2⟩ := h
  obtain ⟨w, rfl, h3⟩ := rdas_1 h2
  exact ⟨v, w, rfl, h1, h3⟩
end Go.AM
end
/-
  Arguments that are structs, field by field. Own work of this project.
-/
section
namespace Go.AM
open Go

variable {s t u : St}
section
variable {P : Program}
end
end Go.AM
end
/-
  What a statement of the disk chapter is given; nil and zero disks. Own work of this project; in part printed by a program of it.
-/
section
set_option maxRecDepth 100000
set_option maxHeartbeats 8000000
namespace Go.AM
open Go Go.Proofs

variable {s t u : St}

theorem getsome {α : Type} {l : List α} {i : Nat} (h : i < l.length) : ∃ x, l[i]? = some x := ⟨_, List.getElem?_eq_getElem h⟩
theorem getlt {α : Type} {l : List α} {i : Nat} {x : α} (h : l[i]? = some x) : i < l.length := (List.getElem?_eq_some_iff.1 h).1
theorem i64_under : Try.prog.underlying 3 = some (.int .i64) := by kernel_rfl
/-- A list of block writes as it is given. -/
def BwAt (s : St) (v : AV) (i : Nat) (x : Int × List UInt8) : Prop := ∃ st id o, iadV 2 v (.int .i64 (i : Int)) = some (.ptr id o) ∧ (∀ t, Keep s t → lod t 2 (.ptr id o) = some (.agg [.int .i64 x.1, st]) ∧ lod1 t (.ptr id o) = some (.int .i64 x.1) ∧ lod1 t (.ptr id (o + 1)) = some st ∧ ltN id t) ∧ read byC s st = some x.2
def BwArg (s : St) (v : AV) (L : List (Int × List UInt8)) : Prop := lenV v = some (.int .i64 (L.length : Int)) ∧ ∀ i x, L[i]? = some x → BwAt s v i x
theorem BwArg.mono {v : AV} {L : List (Int × List UInt8)} (h : BwArg s v L) (hK : Keep s u) : BwArg u v L := ⟨h.1, fun i x hx => by
  obtain ⟨st, id, o, h1, h2, h3⟩ := h.2 i x hx
  exact ⟨st, id, o, h1, fun t k => h2 t (hK.trans k), hK.read h3⟩⟩
end Go.AM
end
/-
  Nil and zero disks: DiskNil. Own work of this project; in part printed by a program of it.
-/
section
set_option maxRecDepth 100000
set_option maxHeartbeats 8000000
namespace Go.AM
open Go Go.Proofs

variable {s t u : St}

theorem q_known (cl : Bool) (s : St) : acall (closed [] (.bool true)) cl [] s = some (.bool true, s) := acall_ro (by simp [closed]) rfl
/-- A disk that is nil or zero. -/
def Zd (s : St) (d : AV) : Prop := d = .nilp ∨ ∃ id dv own, d = .ptr id 0 ∧ s.get id = some (.row [.int .i64 0, dv] own)
theorem Zd.keep {d : AV} (h : Zd s d) (hK : Keep s u) : Zd u d := h.imp id fun ⟨i, dv, own, e, hg⟩ => ⟨i, dv, own, e, hK.blk hg⟩
theorem Zd.low {d : AV} (h : Zd s d) : Zd (lowd s) d := h
theorem BwArg.low {v : AV} {L : List (Int × List UInt8)} (h : BwArg s v L) : BwArg (lowd s) v L := h.mono ⟨Nat.le_refl _, fun _ _ => rfl, Nat.min_le_right _ _⟩
end Go.AM
end
/-
  Disks that are made; a disk and the reference alike. Own work of this project; in part printed by a program of it.
-/
section
set_option maxRecDepth 100000
set_option maxHeartbeats 8000000
namespace Go.AM
open Go Go.Proofs

variable {s t u : St}

theorem zeros_bytes (n : Nat) : zeros [.int .u8 0] n = byC.cells (List.replicate n 0) := by
  unfold zeros Cod.cells
  rw [List.map_replicate]
  rfl
theorem mkslB {n : Nat} (h : n ≤ 4000000) : mkslV [.int .u8 0] 1 (.int .i64 (n : Int)) (.int .i64 (n : Int)) = some (fun id => .sl id 0 n (some n) 1, .row (byC.cells (List.replicate n 0)) true) := by
  simp only [mkslV]
  rw [if_pos ⟨by omega, Int.le_refl _, by unfold roomBytes; omega, by omega⟩, ← zeros_bytes]
  simp
/-- The program's disk: blocks one after the other. -/
structure DkR (t : St) (id j : Nat) (cap : Option Nat) (z : Nat) (l : List UInt8) : Prop where
  box : t.get id = some (.row [.int .i64 (z : Int), .sl j 0 l.length cap 1] true)
  dat : t.get j = some (.row (byC.cells l) true)
  hcap : ∀ c, cap = some c → c = l.length
  pos : 0 < z
  len : l.length ≤ 4000000
theorem DkR.keep {id j z : Nat} {cap : Option Nat} {l : List UInt8} (h : DkR t id j cap z l) (hK : Keep t u) : DkR u id j cap z l := ⟨hK.blk h.box, hK.blk h.dat, h.hcap, h.pos, h.len⟩
theorem keep_low (s : St) : Keep s (lowd s) := ⟨Nat.le_refl _, fun _ _ => rfl, Nat.min_le_right _ _⟩
theorem DkR.low {id j z : Nat} {cap : Option Nat} {l : List UInt8} (h : DkR s id j cap z l) : DkR (lowd s) id j cap z l := h.keep (keep_low s)
theorem DkR.rd {id j z : Nat} {cap : Option Nat} {l : List UInt8} (h : DkR t id j cap z l) : read byC t (.sl j 0 l.length cap 1) = some l :=
  read_of (C := byC) (n := l.length) rfl h.dat (by rw [cells_len]; simp) (by rw [List.drop_zero]; show (byC.cells l).take (l.length * byC.sz) = _; rw [← cells_len]; simp)
theorem slc_b2 {j n o : Nat} {cap : Option Nat} (hc : ∀ c, cap = some c → c = n) (ho : o ≤ n) : ∃ cap', slcV 1 (.sl j 0 n cap 1) (some (.int .i64 (o : Int))) none = some (.sl j o (n - o) cap' 1) ∧ ∀ c, cap' = some c → c = n - o := by
  cases cap with
  | none => exact ⟨none, by simp [slcV, optNat, asNatIn, ho], fun c h => by cases h⟩
  | some c =>
    obtain rfl := hc c rfl
    exact ⟨some (c - o), by simp [slcV, optNat, asNatIn, ho], fun c' h => by injection h with h; exact h.symm⟩
theorem read_part {j o m : Nat} {cap : Option Nat} {l : List UInt8} (h : t.get j = some (.row (byC.cells l) true)) (ho : o + m ≤ l.length) : read byC t (.sl j o m cap 1) = some ((l.drop o).take m) := by
  refine read_of (C := byC) (n := m) (by rw [List.length_take, List.length_drop]; omega) h (by rw [cells_len]; show o + m * 1 ≤ l.length * 1; omega) ?_
  have e1 : l = l.take o ++ ((l.drop o).take m ++ (l.drop o).drop m) := by rw [List.take_append_drop, List.take_append_drop]
  have h1 : (byC.cells (l.take o)).length = o := by rw [cells_len, List.length_take]; show min o l.length * 1 = o; omega
  have h2 : (byC.cells ((l.drop o).take m)).length = m * byC.sz := by rw [cells_len, List.length_take, List.length_drop]; congr 1; omega
  conv => lhs; rw [e1, cells_append, cells_append]
  rw [List.drop_append_of_le_length (by omega), List.drop_of_length_le (by omega), List.nil_append, ← h2, List.take_left']
  rfl
theorem w_from_dk {s : St} {id j z : Nat} {cap : Option Nat} {l : List UInt8} (hd : DkR s id j cap z l) {k : Nat} (hk : k < l.length / z) : ∀ env : Env, elen env = a35.ntmps → (∀ i x_, [.ptr id 0, .int .i64 (k : Int)][i]? = some x_ → E env i = x_) → awp (tb [(38, R_none), (27, R_Blocks)]) a35.body (fun x e t => (∀ i, x ≠ .exit i) ∧ ∃ r, aresults e t a35.results = some r ∧ (∃ cap', r = .tup [.sl j (k * z) (l.length - k * z) cap' 1, .int .i64 0] ∧ ∀ c, cap' = some c → c = l.length - k * z) ∧ Keep s t) env s := by
  intro env hlen ha
  have h0 : E env 0 = _ := ha 0 _ rfl
  have h1 : E env 1 = _ := ha 1 _ rfl
  have hlen : elen env = _ := hlen
  simp only [a35] at hlen
  unfold a35
  try dsimp only [oO, oG]
  have hz := hd.pos
  have q := q_none false hd.box
  rw [decide_eq_false (by omega)] at q
  have hn := lenV_read hd.rd
  have qb := q_Blocks false hd.box hz hn hd.len
  obtain ⟨b0, b1, blt⟩ := row2_lod hd.box
  have hnn := hd.len
  have hkz : k * z ≤ l.length := Nat.le_trans (Nat.mul_le_mul_right z (Nat.le_of_lt hk)) (Nat.div_mul_le_self _ _)
  have z1 := eq_false (show ¬ (k : Int) < 0 by omega)
  have z2 := eq_false (show ¬ ((l.length / z : Nat) : Int) ≤ (k : Int) by omega)
  have hm : IntKind.i64.wrap ((k : Int) * (z : Int)) = ((k * z : Nat) : Int) := by
    rw [← Int.natCast_mul]
    exact wrapI (by omega) (by omega)
  obtain ⟨cap', sl1, hc'⟩ := slc_b2 (j := j) hd.hcap hkz
  simp (config := {contextual := true, maxDischargeDepth := 12}) only [tb_at, h0, h1, hlen, q, qb, z1, z2, b0, b1, blt, nchkV_ptr, hm, sl1, reserve0, ↓bD, bU, forall_const, bS, implies_true, isNx, eq_self, ↓wp_cond, ↓wp_loop, ↓reduceIte, reduceCtorEq, Nat.reduceEqDiff, Nat.reduceLT, Nat.reduceAdd, Nat.reduceMul, bT, ↓sg_bsl, ↓st_callf, bX, ar_b2s, bin_mulE, ap_mkfn, ↓wi_seq, ↓wi_base, ↓wi_block, ↓wi_cond, ↓wi_loop, ↓wi_rf, ↓wy_seq, ↓wy_base, ↓wy_block, ↓wy_cond, ↓wy_loop, ↓wy_yld, q_known]
  all_goals first | exact ⟨_, rfl, ⟨cap', rfl, hc'⟩, .refl s⟩ | exact ⟨_, rfl, cap', rfl, hc'⟩ | skip
theorem q_from_dk {s : St} {id j z : Nat} {cap : Option Nat} {l : List UInt8} (hd : DkR s id j cap z l) {k : Nat} (hk : k < l.length / z) : ∃ cap' t, acall R_from false [.ptr id 0, .int .i64 (k : Int)] s = some (.tup [.sl j (k * z) (l.length - k * z) cap' 1, .int .i64 0], t) ∧ (∀ c, cap' = some c → c = l.length - k * z) ∧ Keep s t := by
  obtain ⟨r, t, h1, ⟨cap', rfl, h2⟩, h3⟩ := run_any n_from (args := [.ptr id 0, .int .i64 (k : Int)]) (Q := fun r t => ∃ cap', r = .tup [.sl j (k * z) (l.length - k * z) cap' 1, .int .i64 0] ∧ ∀ c, cap' = some c → c = l.length - k * z) (by simp [a35]) (fun r t t' hg hn h => h) (fun r t hgr hk h => h) (w_from_dk (s := lowd s) hd.low hk)
  exact ⟨cap', t, h1, h2, h3⟩
noncomputable def R_Read2 : Con := runFn (tb [(35, R_from), (36, R_BClone)]) a19
theorem s_Read2 : SoundAt Try.prog 19 R_Read2 := run_sound (tb_sound (l := [(35, R_from), (36, R_BClone)]) (by simpa using ⟨s_from, s_BClone⟩)) mixed Try.func19 k19 c19
theorem n_Read2 : noNxtC a19.body = true := by kernel_rfl
theorem w_Read2 {s : St} {id j z : Nat} {cap : Option Nat} {l : List UInt8} (hd : DkR s id j cap z l) {k m : Nat} (hk : k < l.length / z) (hm : k * z + m ≤ l.length) : ∀ env : Env, elen env = a19.ntmps → (∀ i x_, [.ptr id 0, .int .i64 (k : Int), .int .i64 (m : Int)][i]? = some x_ → E env i = x_) → awp (tb [(35, R_from), (36, R_BClone)]) a19.body (fun x e t => (∀ i, x ≠ .exit i) ∧ ∃ r, aresults e t a19.results = some r ∧ (∃ v, r = .tup [v, .int .i64 0] ∧ read byC t v = some ((l.drop (k * z)).take m)) ∧ Keep s t) env s := by
  intro env hlen ha
  have h0 : E env 0 = _ := ha 0 _ rfl
  have h1 : E env 1 = _ := ha 1 _ rfl
  have h2 : E env 2 = _ := ha 2 _ rfl
  have hlen : elen env = _ := hlen
  simp only [a19] at hlen
  unfold a19
  try dsimp only [oO, oG]
  obtain ⟨cap', t1, q, hc', hK1⟩ := q_from_dk hd hk
  have hd1 := hd.keep hK1
  have hL : lenV (.sl j (k * z) (l.length - k * z) cap' 1) = some (.int .i64 ((l.length - k * z : Nat) : Int)) := rfl
  have z1 := eq_false (show ¬ (m : Int) < 0 by omega)
  have z2 := eq_false (show ¬ ((l.length - k * z : Nat) : Int) < (m : Int) by omega)
  have n01 : ((0 : Int) = 1) = False := eq_false (by decide)
  have n00 : ((0 : Int) = 0) = True := eq_true rfl
  obtain ⟨cap2, sl1⟩ : ∃ cap2, slcV 1 (.sl j (k * z) (l.length - k * z) cap' 1) none (some (.int .i64 (m : Int))) = some (.sl j (k * z) m cap2 1) := by
    have hm' : m ≤ l.length - k * z := by omega
    cases cap' with
    | none => exact ⟨none, by simp [slcV, optNat, asNatIn, hm']⟩
    | some c =>
      obtain rfl := hc' c rfl
      exact ⟨some (l.length - k * z), by simp [slcV, optNat, asNatIn, hm']⟩
  have hnn := hd.len
  obtain ⟨w, t2, q2, hN, hK2⟩ := q_BClone (read_part (cap := cap2) hd1.dat hm) (by rw [List.length_take]; omega)
  simp (config := {contextual := true, maxDischargeDepth := 12}) only [tb_at, h0, h1, h2, hlen, q, hL, z1, z2, n01, n00, sl1, q2, decide_true, Bool.not_true, ↓bD, bU, forall_const, bS, implies_true, isNx, eq_self, ↓wp_cond, ↓wp_loop, ↓reduceIte, reduceCtorEq, Nat.reduceEqDiff, Nat.reduceLT, Nat.reduceAdd, Nat.reduceMul, bT, ↓sg_bsl, ↓st_callf, bX, ar_b2s, bin_mulE, ap_mkfn, ↓wi_seq, ↓wi_base, ↓wi_block, ↓wi_cond, ↓wi_loop, ↓wi_rf, ↓wy_seq, ↓wy_base, ↓wy_block, ↓wy_cond, ↓wy_loop, ↓wy_yld, q_known]
  all_goals first | exact ⟨_, rfl, ⟨w, rfl, hN.read⟩, hK1.trans hK2⟩ | exact ⟨_, rfl, w, rfl, hN.read⟩ | skip
theorem q_Read2 {s : St} {id j z : Nat} {cap : Option Nat} {l : List UInt8} (hd : DkR s id j cap z l) {k m : Nat} (hk : k < l.length / z) (hm : k * z + m ≤ l.length) : ∃ v t, acall R_Read2 false [.ptr id 0, .int .i64 (k : Int), .int .i64 (m : Int)] s = some (.tup [v, .int .i64 0], t) ∧ read byC t v = some ((l.drop (k * z)).take m) ∧ Keep s t := by
  obtain ⟨r, t, h1, ⟨v, rfl, h2⟩, h3⟩ := run_any n_Read2 (args := [.ptr id 0, .int .i64 (k : Int), .int .i64 (m : Int)]) (Q := fun r t => ∃ v, r = .tup [v, .int .i64 0] ∧ read byC t v = some ((l.drop (k * z)).take m)) (by simp [a19]) (fun r t t' hg hn ⟨v, e, h⟩ => ⟨v, e, read_mono h fun id b hb => by rw [hg]; exact hb⟩) (fun r t hgr hk ⟨v, e, h⟩ => ⟨v, e, by
    rw [e] at hgr
    cases v with
    | nils => exact h
    | sl => simp [AV.ground, AV.plains, AV.plain] at hgr
    | _ => simp [read] at h⟩) (w_Read2 (s := lowd s) hd.low hk hm)
  exact ⟨v, t, h1, h2, h3⟩
noncomputable def R_reads2 : Con := runFn (tb [(19, R_Read2)]) a15
theorem s_reads2 : SoundAt Try.prog 15 R_reads2 := run_sound (tb_sound (l := [(19, R_Read2)]) (by simpa using s_Read2)) mixed Try.func15 k15 c15
theorem n_reads2 : noNxtC a15.body = true := by kernel_rfl
theorem w_reads2 {s : St} {id j z : Nat} {cap : Option Nat} {l : List UInt8} (hd : DkR s id j cap z l) {k m : Nat} (hk : k < l.length / z) (hm : k * z + m ≤ l.length) {wv : AV} {W : List UInt8} (hw : read byC s wv = some W) (c : Int) : ∀ env : Env, elen env = a15.ntmps → (∀ i x_, [.ptr id 0, .int .i64 (k : Int), .int .i64 (m : Int), wv, .int .i64 c][i]? = some x_ → E env i = x_) → awp (tb [(19, R_Read2)]) a15.body (fun x e t => (∀ i, x ≠ .exit i) ∧ aresults e t a15.results = some (.bool (decide ((l.drop (k * z)).take m = W) && decide (0 = c))) ∧ Keep s t) env s := by
  intro env hlen ha
  have h0 : E env 0 = _ := ha 0 _ rfl
  have h1 : E env 1 = _ := ha 1 _ rfl
  have h2 : E env 2 = _ := ha 2 _ rfl
  have h3 : E env 3 = _ := ha 3 _ rfl
  have h4 : E env 4 = _ := ha 4 _ rfl
  have hlen : elen env = _ := hlen
  simp only [a15] at hlen
  unfold a15
  try dsimp only [oO, oG]
  obtain ⟨v, t1, q, hr1, hK1⟩ := q_Read2 hd hk hm
  have hb1 := b2s_read hr1
  have hb2 := b2s_read (hK1.read hw)
  have he := bin_eqs ((l.drop (k * z)).take m) W
  simp (config := {contextual := true, maxDischargeDepth := 12}) only [tb_at, h0, h1, h2, h3, h4, hlen, q, hb1, hb2, he, bin_eql, ↓bD, bU, forall_const, bS, implies_true, isNx, eq_self, ↓wp_cond, ↓wp_loop, ↓reduceIte, reduceCtorEq, Nat.reduceEqDiff, Nat.reduceLT, Nat.reduceAdd, Nat.reduceMul, bT, ↓sg_bsl, ↓st_callf, bX, ar_b2s, bin_mulE, ap_mkfn, ↓wi_seq, ↓wi_base, ↓wi_block, ↓wi_cond, ↓wi_loop, ↓wi_rf, ↓wy_seq, ↓wy_base, ↓wy_block, ↓wy_cond, ↓wy_loop, ↓wy_yld, q_known]
  all_goals first | exact hK1 | skip
theorem q_reads2 (cl : Bool) {s : St} {id j z : Nat} {cap : Option Nat} {l : List UInt8} (hd : DkR s id j cap z l) {k m : Nat} (hk : k < l.length / z) (hm : k * z + m ≤ l.length) {wv : AV} {W : List UInt8} (hw : read byC s wv = some W) (c : Int) : acall R_reads2 cl [.ptr id 0, .int .i64 (k : Int), .int .i64 (m : Int), wv, .int .i64 c] s = some (.bool (decide ((l.drop (k * z)).take m = W) && decide (0 = c)), s) := run_same n_reads2 (by simp [a15]) rfl (w_reads2 (s := lowd s) hd.low hk hm (hRL hw) c)

end Go.AM
end
/-
  New disks, the reference, alike; DiskNew. Own work of this project; in part printed by a program of it.
-/
section
set_option maxRecDepth 100000
set_option maxHeartbeats 8000000
namespace Go.AM
open Go Go.Proofs

variable {s t u : St}

theorem sg_callf3 {call : Nat → List AV → St → Option (AV × St)} {base : Nat} {d : Option Nat} {r : Option Nat} {rest : List AOper} {Q : Env → St → Prop} {env : Env} {s : St} (f : Nat) (l : List AO) (t : Nat) (w : Bool) : awops call base (⟨d, .call f false l, some (t, w), r, true⟩ :: rest) Q env s = gcall s (E env t) w (acallF (call f) (l.map (aev env)) s) fun v t => awops call base rest Q (pE env d v) t := by
  rw [st_guard, st_callf]
  rfl
/-- The reference's disk: a list of blocks. -/
structure RkR (s t : St) (id : Nat) (lv : AV) (vs : List AV) (z : Nat) (ls : List (List UInt8)) : Prop where
  box : t.get id = some (.row [.int .i64 (z : Int), lv] true)
  out : (lv = .nils ∧ vs = []) ∨ ∃ j cap, lv = .sl j 0 vs.length cap 1 ∧ t.get j = some (.row vs true) ∧ s.next ≤ j
  len : vs.length = ls.length
  row : ∀ (i : Nat) (v : AV), vs[i]? = some v → ∃ l, ls[i]? = some l ∧ AM.read byC t v = some l
theorem RkR.keep {id z : Nat} {lv : AV} {vs : List AV} {ls : List (List UInt8)} (h : RkR s t id lv vs z ls) (hK : Keep t u) : RkR s u id lv vs z ls := ⟨hK.blk h.box, h.out.imp (fun q => q) fun ⟨j, cap, e, g, k⟩ => ⟨j, cap, e, hK.blk g, k⟩, h.len, fun i v hv => by
  obtain ⟨l, h1, h2⟩ := h.row i v hv
  exact ⟨l, h1, hK.read h2⟩⟩
theorem RkR.lenV {id z : Nat} {lv : AV} {vs : List AV} {ls : List (List UInt8)} (h : RkR s t id lv vs z ls) : AM.lenV lv = some (.int .i64 (ls.length : Int)) := by
  rcases h.out with ⟨rfl, e⟩ | ⟨j, cap, rfl, _, _⟩
  · have := h.len
    rw [e] at this
    rw [← this]
    rfl
  · rw [← h.len]
    rfl
theorem RkR.at {id z i : Nat} {lv : AV} {vs : List AV} {ls : List (List UInt8)} {l : List UInt8} (h : RkR s t id lv vs z ls) (hl : ls[i]? = some l) : ∃ v jj, iadV 1 lv (.int .i64 (i : Int)) = some (.ptr jj i) ∧ lod1 t (.ptr jj i) = some v ∧ ltN jj t ∧ read byC t v = some l := by
  have hi : i < vs.length := by rw [h.len]; exact getlt hl
  obtain ⟨v, hv⟩ := getsome hi
  obtain ⟨l', h1, h2⟩ := h.row i v hv
  rw [hl] at h1
  injection h1 with h1
  subst h1
  rcases h.out with ⟨_, e⟩ | ⟨j, cap, rfl, g, _⟩
  · rw [e] at hi; simp at hi
  · refine ⟨v, j, ?_, ?_, St.get_lt g, h2⟩
    · have := iadV_nat (sz := 1) (id := j) (off := 0) (cap := cap) (k := .i64) hi
      rwa [Nat.zero_add, Nat.mul_one] at this
    · simp only [lod1, g, hv]
noncomputable def R_RFrom : Con := runFn (tb []) a30
theorem s_RFrom : SoundAt Try.prog 30 R_RFrom := run_sound (tb_sound (l := []) (by simp)) mixed Try.func30 k30 c30
theorem n_RFrom : noNxtC a30.body = true := by kernel_rfl
theorem w_RFrom {s : St} {s0 : St} {id z : Nat} {lv : AV} {vs : List AV} {ls : List (List UInt8)} (hx : RkR s0 s id lv vs z ls) (hn : ls.length ≤ 5000) (hb : ∀ k, (ls.take k).flatten.length ≤ 4000000) : ∀ env : Env, elen env = a30.ntmps → (∀ i x_, [.ptr id 0, .int .i64 0][i]? = some x_ → E env i = x_) → awp (tb []) a30.body (fun x e t => (∀ i, x ≠ .exit i) ∧ Keep s t ∧ ∃ r, aresults e t a30.results = some r ∧ Own byC s t r ls.flatten) env s := by
  intro env hlen ha
  have h0 : E env 0 = _ := ha 0 _ rfl
  have h1 : E env 1 = _ := ha 1 _ rfl
  have hlen : elen env = _ := hlen
  simp only [a30] at hlen
  unfold a30
  try dsimp only [oO, oG]
  obtain ⟨b0, b1, blt⟩ := row2_lod hx.box
  have hL := hx.lenV
  simp (config := {contextual := true, maxDischargeDepth := 12}) only [tb_at, h0, h1, hlen, ↓bD, bU, forall_const, bS, implies_true, isNx, eq_self, ↓wp_cond, ↓wp_loop, ↓reduceIte, reduceCtorEq, Nat.reduceEqDiff, Nat.reduceLT, Nat.reduceAdd, Nat.reduceMul, bT, ↓sg_bsl, ↓st_callf, bX, ar_b2s, bin_mulE, ap_mkfn, ↓wi_seq, ↓wi_base, ↓wi_block, ↓wi_cond, ↓wi_loop, ↓wi_rf, ↓wy_seq, ↓wy_base, ↓wy_block, ↓wy_cond, ↓wy_loop, ↓wy_yld, q_known, ↓sg_callf3]
  obtain ⟨I, hI⟩ : ∃ I : Nat → Env → St → Prop, ∀ n e t, I n e t = (Keep s t ∧ ∃ i : Nat, n + i = ls.length ∧ elen e = 27 ∧ E e 0 = .ptr id 0 ∧ E e 6 = .int .i64 (i : Int) ∧ Own byC s t (E e 5) (ls.take i).flatten) := ⟨fun n e t => (Keep s t ∧ ∃ i : Nat, n + i = ls.length ∧ elen e = 27 ∧ E e 0 = .ptr id 0 ∧ E e 6 = .int .i64 (i : Int) ∧ Own byC s t (E e 5) (ls.take i).flatten), fun _ _ _ => rfl⟩
  refine lwp_inv I (n := ls.length) ?_ ?_
  · rw [hI]
    exact ⟨.refl s, 0, by omega, (by simp only [bE, Nat.reduceEqDiff, bN, Nat.reduceLT, hlen]; try rfl), (by simp only [bE, Nat.reduceEqDiff, bN, Nat.reduceLT, hlen, h0]; try rfl), (by simp only [bE, Nat.reduceEqDiff, bN, Nat.reduceLT, hlen]; try rfl), by simp only [bE, Nat.reduceEqDiff, bN, Nat.reduceLT, hlen]; exact .nil _ _ _⟩
  clear h0 h1 hlen
  intro n e t hi
  rw [hI] at hi
  obtain ⟨hK, i, hni, he, e0, e6, hO⟩ := hi
  have hxt := hx.keep hK
  obtain ⟨b0, b1, blt⟩ := row2_lod hxt.box
  by_cases hlt : i < ls.length
  · obtain ⟨x, hxi⟩ := getsome hlt
    have hw2 := wrap_add1 (n := i) (by omega)
    obtain ⟨v, jj, i1, a1, a2, hr⟩ := hxt.at hxi
    have hsn : (ls.take (i + 1)).flatten = (ls.take i).flatten ++ x := by
      rw [List.take_add_one, hxi, List.flatten_append]
      simp
    have hb1 := hb (i + 1)
    rw [hsn, List.length_append] at hb1
    obtain ⟨u1, t1, ap, hK', hO'⟩ := appV_list (C := byC) hK hO hr 1 (by unfold roomBytes; omega)
    have ap : appV t 1 1 (E e 5) v = some (u1, t1) := ap
    have z1 := eq_true (show (i : Int) < (ls.length : Int) by omega)
    simp (config := {contextual := true, maxDischargeDepth := 12}) only [tb_at, he, e0, e6, hL, b0, b1, blt, nchkV_ptr, z1, hw2, i1, a1, a2, ap, ↓bD, bU, forall_const, bS, implies_true, isNx, eq_self, ↓wp_cond, ↓wp_loop, ↓reduceIte, reduceCtorEq, Nat.reduceEqDiff, Nat.reduceLT, Nat.reduceAdd, Nat.reduceMul, bT, ↓sg_bsl, ↓st_callf, bX, ar_b2s, bin_mulE, ap_mkfn, ↓wi_seq, ↓wi_base, ↓wi_block, ↓wi_cond, ↓wi_loop, ↓wi_rf, ↓wy_seq, ↓wy_base, ↓wy_block, ↓wy_cond, ↓wy_loop, ↓wy_yld, q_known, ↓sg_callf3]
    refine ⟨n - 1, by omega, ?_⟩
    rw [hI]
    exact ⟨hK', i + 1, by omega, (by simp only [bE, Nat.reduceEqDiff, bN, Nat.reduceLT, he, e0, e6]; try rfl), (by simp only [bE, Nat.reduceEqDiff, bN, Nat.reduceLT, he, e0, e6]; try rfl), (by simp only [bE, Nat.reduceEqDiff, bN, Nat.reduceLT, he, e0, e6]; try rfl), by simp only [bE, Nat.reduceEqDiff, bN, Nat.reduceLT, he]; rw [hsn]; exact hO'⟩
  · obtain rfl : i = ls.length := by omega
    rw [List.take_length] at hO
    have z1 := eq_false (show ¬ (ls.length : Int) < (ls.length : Int) by omega)
    simp (config := {contextual := true, maxDischargeDepth := 12}) only [tb_at, he, e0, e6, hL, b0, b1, blt, nchkV_ptr, z1, ↓bD, bU, forall_const, bS, implies_true, isNx, eq_self, ↓wp_cond, ↓wp_loop, ↓reduceIte, reduceCtorEq, Nat.reduceEqDiff, Nat.reduceLT, Nat.reduceAdd, Nat.reduceMul, bT, ↓sg_bsl, ↓st_callf, bX, ar_b2s, bin_mulE, ap_mkfn, ↓wi_seq, ↓wi_base, ↓wi_block, ↓wi_cond, ↓wi_loop, ↓wi_rf, ↓wy_seq, ↓wy_base, ↓wy_block, ↓wy_cond, ↓wy_loop, ↓wy_yld, q_known, ↓sg_callf3]
    first | exact ⟨hK, _, rfl, hO⟩ | exact ⟨_, rfl, hO⟩
theorem RkR.low {s0 : St} {id z : Nat} {lv : AV} {vs : List AV} {ls : List (List UInt8)} (h : RkR s0 s id lv vs z ls) : RkR s0 (lowd s) id lv vs z ls := h.keep (keep_low s)
theorem q_RFrom {s : St} {s0 : St} {id z : Nat} {lv : AV} {vs : List AV} {ls : List (List UInt8)} (hx : RkR s0 s id lv vs z ls) (hn : ls.length ≤ 5000) (hb : ∀ k, (ls.take k).flatten.length ≤ 4000000) : ∃ v t, acall R_RFrom false [.ptr id 0, .int .i64 0] s = some (v, t) ∧ Own byC s t v (ls.flatten) ∧ Keep s t := run_fresh n_RFrom (by simp [a30]) (fun v => v) (fun _ _ _ _ _ => rfl) (w_RFrom (s := lowd s) hx.low hn hb)
theorem q_RFromF {s : St} {s0 : St} {id z : Nat} {lv : AV} {vs : List AV} {ls : List (List UInt8)} (hx : RkR s0 s id lv vs z ls) (hn : ls.length ≤ 5000) (hb : ∀ k, (ls.take k).flatten.length ≤ 4000000) : ∃ w t, acallF R_RFrom [.ptr id 0, .int .i64 0] s = some (w, t) ∧ read byC t w = some ls.flatten ∧ Keep s t := by
  obtain ⟨w3, t, h1, h2, h3⟩ := q_RFrom (s := lowd s) hx.low hn hb
  obtain ⟨t', g1, g2, g3, g4⟩ := acallF_keep h1 h3
  exact ⟨w3, t', g1, read_mono h2.read fun id b hb => by rw [g2]; exact hb, g4⟩
noncomputable def R_alike : Con := runFn (tb [(27, R_Blocks), (28, R_Size), (30, R_RFrom), (15, R_reads2)]) a11
theorem s_alike : SoundAt Try.prog 11 R_alike := run_sound (tb_sound (l := [(27, R_Blocks), (28, R_Size), (30, R_RFrom), (15, R_reads2)]) (by simpa using ⟨s_Blocks, s_Size, s_RFrom, s_reads2⟩)) mixed Try.func11 k11 c11
theorem n_alike : noNxtC a11.body = true := by kernel_rfl
theorem w_alike {s : St} {id j z : Nat} {cap : Option Nat} {l : List UInt8} (hd : DkR s id j cap z l) {s0 : St} {ix : Nat} {lv : AV} {vs : List AV} {ls : List (List UInt8)} (hx : RkR s0 s ix lv vs z ls) (hn : 0 < ls.length ∧ ls.length ≤ 5000) (hb : ∀ k, (ls.take k).flatten.length ≤ 4000000) (hlz : l.length = ls.length * z) : ∀ env : Env, elen env = a11.ntmps → (∀ i x_, [.ptr id 0, .ptr ix 0][i]? = some x_ → E env i = x_) → awp (tb [(27, R_Blocks), (28, R_Size), (30, R_RFrom), (15, R_reads2)]) a11.body (fun x e t => (∀ i, x ≠ .exit i) ∧ aresults e t a11.results = some (.bool (decide (l = ls.flatten))) ∧ Keep s t) env s := by
  intro env hlen ha
  have h0 : E env 0 = _ := ha 0 _ rfl
  have h1 : E env 1 = _ := ha 1 _ rfl
  have hlen : elen env = _ := hlen
  simp only [a11] at hlen
  unfold a11
  try dsimp only [oO, oG]
  have hz := hd.pos
  have hl := lenV_read hd.rd
  have qB := q_Blocks true hd.box hz hl hd.len
  have qS := q_Size true hd.box hz hl hd.len
  have hdiv : l.length / z = ls.length := by rw [hlz]; exact Nat.mul_div_cancel _ hz
  rw [hdiv] at qB
  obtain ⟨b0, b1, blt⟩ := row2_lod hx.box
  have hL := hx.lenV
  have hll := hd.len
  have hmul : IntKind.i64.wrap ((ls.length : Int) * (z : Int)) = (l.length : Int) := by
    rw [← Int.natCast_mul, ← hlz]
    exact wrapI (by omega) (by omega)
  obtain ⟨w, t1, q1, hr1, hK1⟩ := q_RFromF hx hn.2 hb
  have q2 := q_reads2 false (hd.keep hK1) (k := 0) (m := l.length) (by rw [hdiv]; exact hn.1) (by omega) hr1 0
  rw [Nat.zero_mul, List.drop_zero, List.take_length, decide_eq_true (rfl : (0 : Int) = 0), Bool.and_true] at q2
  have q2 : acall R_reads2 false [.ptr id 0, .int .i64 0, .int .i64 (l.length : Int), w, .int .i64 0] t1 = some (.bool (decide (l = ls.flatten)), t1) := q2
  obtain ⟨c0, c1, clt⟩ := row2_lod (hx.keep hK1).box
  simp (config := {contextual := true, maxDischargeDepth := 12}) only [tb_at, h0, h1, hlen, bin_npx, qB, qS, b0, b1, blt, c0, c1, clt, nchkV_ptr, hL, hmul, q1, q2, bin_eql, decide_true, reserve0, pickV_t, pickV_f, gcall_tt, gpure_tf, ↓bD, bU, forall_const, bS, implies_true, isNx, eq_self, ↓wp_cond, ↓wp_loop, ↓reduceIte, reduceCtorEq, Nat.reduceEqDiff, Nat.reduceLT, Nat.reduceAdd, Nat.reduceMul, bT, ↓sg_bsl, ↓st_callf, bX, ar_b2s, bin_mulE, ap_mkfn, ↓wi_seq, ↓wi_base, ↓wi_block, ↓wi_cond, ↓wi_loop, ↓wi_rf, ↓wy_seq, ↓wy_base, ↓wy_block, ↓wy_cond, ↓wy_loop, ↓wy_yld, q_known, ↓sg_callf3]
  all_goals first | exact hK1 | skip
theorem q_alike (cl : Bool) {s : St} {id j z : Nat} {cap : Option Nat} {l : List UInt8} (hd : DkR s id j cap z l) {s0 : St} {ix : Nat} {lv : AV} {vs : List AV} {ls : List (List UInt8)} (hx : RkR s0 s ix lv vs z ls) (hn : 0 < ls.length ∧ ls.length ≤ 5000) (hb : ∀ k, (ls.take k).flatten.length ≤ 4000000) (hlz : l.length = ls.length * z) : acall R_alike cl [.ptr id 0, .ptr ix 0] s = some (.bool (decide (l = ls.flatten)), s) := run_same n_alike (by simp [a11]) rfl (w_alike (s := lowd s) hd.low hx.low hn hb hlz)

end Go.AM
end
/-
  New disks; DiskNew. Own work of this project; in part printed by a program of it.
-/
section
set_option maxRecDepth 100000
set_option maxHeartbeats 8000000
namespace Go.AM
open Go Go.Proofs

variable {s t u : St}

structure NkR (s t : St) (id : Nat) (lv : AV) (vs : List AV) (z i : Nat) : Prop where
  box : t.get id = some (.row [.int .i64 (z : Int), lv] true)
  out : (i = 0 ∧ lv = .nils ∧ vs = []) ∨ ∃ j, 0 < i ∧ lv = .sl j 0 i none 1 ∧ t.get j = some (.row vs true) ∧ s.next ≤ j
  len : vs.length = i
  row : ∀ v ∈ vs, ∃ q, v = .sl q 0 z (some z) 1 ∧ t.get q = some (.row (byC.cells (List.replicate z 0)) true)
theorem NkR.ne {id z i j : Nat} {lv : AV} {vs : List AV} (h : NkR s t id lv vs z i) (hi : 0 < i) (hz : 0 < z) (hg : t.get j = some (.row vs true)) : j ≠ id ∧ ∀ q, t.get q = some (.row (byC.cells (List.replicate z 0)) true) → q ≠ j := by
  obtain ⟨v, r, rfl⟩ : ∃ v r, vs = v :: r := by
    cases vs with
    | nil => have := h.len; simp at this; omega
    | cons v r => exact ⟨v, r, rfl⟩
  obtain ⟨q, rfl, _⟩ := h.row v (by simp)
  constructor
  · rintro rfl
    have := h.box
    rw [hg] at this
    injection this with this
    injection this with this _
    injection this with this _
    cases this
  · rintro q' hq rfl
    rw [hq] at hg
    obtain ⟨z', rfl⟩ : ∃ z', z = z' + 1 := ⟨z - 1, by omega⟩
    rw [List.replicate_succ, cells_cons] at hg
    injection hg with hg
    injection hg with hg _
    have hg : (AV.int .u8 _ :: byC.cells (List.replicate z' 0)) = _ := hg
    injection hg with hg _
    cases hg
theorem NkR.step {id z i : Nat} {lv : AV} {vs : List AV} (h : NkR s t id lv vs z i) (hz : 0 < z) (hi : i ≤ 5000) (hK : Keep s t) (hid : s.next ≤ id) :
    ∃ lv' t', appV ((t.push (.row (byC.cells (List.replicate z 0)) true)).push (.row [.sl t.next 0 z (some z) 1] true)) 1 24 lv (.sl (t.next + 1) 0 1 (some 1) 1) = some (lv', t') ∧ sto t' 1 (.ptr id 1) lv' = some (.und, t'.put id (.row [.int .i64 (z : Int), lv'] true)) ∧ ltN id t' ∧ NkR s (t'.put id (.row [.int .i64 (z : Int), lv'] true)) id lv' (vs ++ [.sl t.next 0 z (some z) 1]) z (i + 1) ∧ Keep s (t'.put id (.row [.int .i64 (z : Int), lv'] true)) := by
  obtain ⟨U, hU⟩ : ∃ U, U = (t.push (.row (byC.cells (List.replicate z 0)) true)).push (.row [.sl t.next 0 z (some z) 1] true) := ⟨_, rfl⟩
  have hKU : Keep t U := by rw [hU]; exact ((Keep.refl t).push _).push _
  have hUn : U.next = t.next + 2 := by rw [hU]; simp
  have hg1 : U.get (t.next + 1) = some (.row [.sl t.next 0 z (some z) 1] true) := by rw [hU]; exact St.get_push_new (t.push (.row (byC.cells (List.replicate z 0)) true)) _
  have hg0 : U.get t.next = some (.row (byC.cells (List.replicate z 0)) true) := by rw [hU]; exact get_push_some _ (St.get_push_new t _)
  rw [← hU]
  have hs1 : shown U 1 (.sl (t.next + 1) 0 1 (some 1) 1) = some [.sl t.next 0 z (some z) 1] := by
    simp only [shown, hg1, if_true]
    rfl
  have hs2 : lenOf (.sl (t.next + 1) 0 1 (some 1) 1) = some 1 := rfl
  have hKsU := hK.trans hKU
  have hbU := hKU.blk h.box
  have hlU := St.get_lt h.box
  have hsn := hK.next
  have fin : ∀ (lv' : AV) (t' : St), appV U 1 24 lv (.sl (t.next + 1) 0 1 (some 1) 1) = some (lv', t') → lv' = .sl U.next 0 (i + 1) none 1 → t'.get U.next = some (.row (vs ++ [.sl t.next 0 z (some z) 1]) true) → Keep s t' → t'.get id = some (.row [.int .i64 (z : Int), lv] true) → (∀ q, U.get q = some (.row (byC.cells (List.replicate z 0)) true) → t'.get q = some (.row (byC.cells (List.replicate z 0)) true)) →
      ∃ lv' t', appV U 1 24 lv (.sl (t.next + 1) 0 1 (some 1) 1) = some (lv', t') ∧ sto t' 1 (.ptr id 1) lv' = some (.und, t'.put id (.row [.int .i64 (z : Int), lv'] true)) ∧ ltN id t' ∧ NkR s (t'.put id (.row [.int .i64 (z : Int), lv'] true)) id lv' (vs ++ [.sl t.next 0 z (some z) 1]) z (i + 1) ∧ Keep s (t'.put id (.row [.int .i64 (z : Int), lv'] true)) := by
    intro lv' t' ha hlv hnew hK' hb hq
    have hlt := St.get_lt hb
    subst hlv
    have hput : ∀ (k : Nat) (bl : AB), t'.get k = some bl → k ≠ id → (t'.put id (.row [.int .i64 (z : Int), .sl U.next 0 (i + 1) none 1] true)).get k = some bl := fun k bl hg hne => by rw [St.get_put_ne _ _ hlt hne]; exact hg
    have hqid : ∀ q, t'.get q = some (.row (byC.cells (List.replicate z 0)) true) → q ≠ id := fun q hg e => by
      subst e
      rw [hb] at hg
      obtain ⟨z', rfl⟩ : ∃ z', z = z' + 1 := ⟨z - 1, by omega⟩
      rw [List.replicate_succ, cells_cons] at hg
      injection hg with hg
      injection hg with hg _
      have hg : _ = (AV.int .u8 _ :: byC.cells (List.replicate z' 0)) := hg
      injection hg with hg _
      injection hg with hg _
      cases hg
    refine ⟨_, t', ha, (row2_sto hb rfl rfl).2, hlt, ⟨St.get_put_same hb, .inr ⟨U.next, by omega, rfl, hput _ _ hnew (by omega), by omega⟩, by simp [h.len], fun v hv => ?_⟩, hK'.put _ hid hlt⟩
    rcases List.mem_append.1 hv with hv | hv
    · obtain ⟨q, e, hg⟩ := h.row v hv
      have := hq q (hKU.blk hg)
      exact ⟨q, e, hput _ _ this (hqid q this)⟩
    · simp at hv
      subst hv
      have := hq t.next hg0
      exact ⟨t.next, rfl, hput _ _ this (hqid _ this)⟩
  rcases h.out with ⟨h0, hlv, hvs⟩ | ⟨j, h0, hlv, hg, hj⟩
  · subst h0; subst hlv; subst hvs
    refine fin (.sl U.next 0 1 none 1) (U.push (.row [.sl t.next 0 z (some z) 1] true)) ?_ rfl (St.get_push_new U _) (hKsU.push _) (get_push_some _ hbU) (fun q hq => get_push_some _ hq)
    simp only [appV, hs1, hs2, aappend]
    rw [if_neg (by omega), if_pos (by unfold roomBytes; omega)]
  · obtain ⟨hne, hnq⟩ := h.ne h0 hz hg
    have hgU := hKU.blk hg
    have hlt := St.get_lt hgU
    have hlen : vs.length = i := h.len
    refine fin (.sl U.next 0 (i + 1) none 1) ((U.put j .dead).push (.row (vs ++ [.sl t.next 0 z (some z) 1]) true)) ?_ rfl (St.get_push_new (U.put j .dead) _) ((hKsU.put .dead hj hlt).push _) (get_push_some _ (by rw [St.get_put_ne _ _ hlt (fun e => hne e.symm)]; exact hbU)) (fun q hq => get_push_some _ ?_)
    · subst hlv
      simp only [appV, hs1, hs2, aappend, hgU, if_true]
      rw [if_neg (by omega), if_pos ⟨by omega, by unfold roomBytes; omega⟩]
      have e : (vs.drop 0).take (i * 1) = vs := by rw [List.drop_zero, Nat.mul_one, ← hlen, List.take_length]
      rw [e]
    · have hqj : q ≠ j := by
        rintro rfl
        by_cases hqt : q < t.next
        · have := hKU.get q hqt
          rw [this] at hq
          exact hnq q hq rfl
        · have := St.get_lt hg
          omega
      rw [St.get_put_ne _ _ hlt hqj]
      exact hq
theorem born2 (t : St) (b1 b2 : AB) : ((t.reserve 2).born t.next b1).born (t.next + 1) b2 = (t.push b1).push b2 := by
  have e1 : t.next + 2 - 1 - t.next = 1 := by omega
  have e2 : t.next + 2 - 1 - (t.next + 1) = 0 := by omega
  simp [St.reserve, St.push, St.born, e1, e2]
theorem resv2 (t : St) : (t.reserve 2).get t.next = some .unborn := by rw [St.get_reserve]; simp
theorem resv2' (t : St) (b : AB) : ((t.reserve 2).born t.next b).get (t.next + 1) = some .unborn := by
  have h1 : ¬ t.next + 1 < t.next := by omega
  rw [St.get_born_ne _ _ (by simp) (by omega), St.get_reserve]
  simp [h1]
theorem RkR.base {id z : Nat} {lv : AV} {vs : List AV} {ls : List (List UInt8)} (h : RkR (lowd s) t id lv vs z ls) : RkR s t id lv vs z ls := ⟨h.box, h.out, h.len, h.row⟩

end Go.AM
end
/-
  The reference makes a disk. Own work of this project; in part printed by a program of it.
-/
section
set_option maxRecDepth 100000
set_option maxHeartbeats 8000000
namespace Go.AM
open Go Go.Proofs

variable {s t u : St}
noncomputable def R_RNew : Con := runFn (tb []) a12
theorem s_RNew : SoundAt Try.prog 12 R_RNew := run_sound (tb_sound (l := []) (by simp)) mixed Try.func12 k12 c12
theorem n_RNew : noNxtC a12.body = true := by kernel_rfl
end Go.AM
end
/-
  The check of block writes. Own work of this project; in part printed by a program of it.
-/
section
set_option maxRecDepth 100000
set_option maxHeartbeats 8000000
namespace Go.AM
open Go Go.Proofs

variable {s t u : St}

/-- The error of block writes on a disk of n blocks of z bytes. -/
def chkL (n z : Nat) : List (Int × List UInt8) → Int
  | [] => 0
  | x :: r => if x.1 < 0 ∨ (n : Int) ≤ x.1 then 3 else if z < x.2.length then 5 else chkL n z r
def checkP (n z : Nat) (L : List (Int × List UInt8)) : Int := if 10000 < L.length then 5 else chkL n z L
theorem chk_at {n z i : Nat} {L : List (Int × List UInt8)} {x : Int × List UInt8} (hx : L[i]? = some x) : chkL n z (L.drop i) = if x.1 < 0 ∨ (n : Int) ≤ x.1 then 3 else if z < x.2.length then 5 else chkL n z (L.drop (i + 1)) := by
  have hi := getlt hx
  rw [List.drop_eq_getElem_cons hi]
  have e : L[i] = x := (List.getElem?_eq_some_iff.1 hx).2
  rw [e]
  rfl
theorem sto_bw {m : Nat} {t : St} (h : sameN m t) {b : Int} {st : AV} (ho : st.cells = [st] ∧ st.one = true) : sto (t.push (.row [.int .i64 0, .nils] true)) 2 (.ptr m 0) (.agg [.int .i64 b, st]) = some (.und, t.lowed.push (.row [.int .i64 b, st] true)) := by
  unfold sameN at h
  subst h
  have hi : (AV.int .i64 b).one = true := rfl
  simp only [sto, St.get_push_new, push_put]
  rw [if_pos ⟨rfl, by simp only [AV.cells, List.all_cons, hi, ho.2, List.all_nil, Bool.and_self], by simp⟩]
  rfl
def CapB (st : AV) : Prop := ∀ id off n c z, st = .sl id off n (some c) z → n ≤ c
theorem CapB.nils : CapB .nils := fun _ _ _ _ _ h => by cases h
/-- Block writes that lie apart from the block j. -/
def BwJ (j : Nat) (s : St) (v : AV) (L : List (Int × List UInt8)) : Prop := (v = .nils ∧ L = []) ∨ ∃ id off cap, v = .sl id off L.length cap 2 ∧ (∀ c, cap = some c → L.length ≤ c) ∧ ∀ (i : Nat) (x : Int × List UInt8), L[i]? = some x → ∃ st, CapB st ∧ ∀ t, Chg [j] s t → lod t 2 (.ptr id (off + i * 2)) = some (.agg [.int .i64 x.1, st]) ∧ lod1 t (.ptr id (off + i * 2)) = some (.int .i64 x.1) ∧ lod1 t (.ptr id (off + i * 2 + 1)) = some st ∧ ltN id t ∧ AM.read byC t st = some x.2
theorem BwJ.len {j : Nat} {v : AV} {L : List (Int × List UInt8)} (h : BwJ j s v L) : lenV v = some (.int .i64 (L.length : Int)) := by
  rcases h with ⟨rfl, rfl⟩ | ⟨id, off, cap, rfl, _⟩ <;> rfl
theorem BwJ.at {j i : Nat} {v : AV} {L : List (Int × List UInt8)} {x : Int × List UInt8} (h : BwJ j s v L) (hx : L[i]? = some x) : ∃ st id o, (iadV 2 v (.int .i64 (i : Int)) = some (.ptr id o) ∧ CapB st) ∧ ∀ t, Chg [j] s t → lod t 2 (.ptr id o) = some (.agg [.int .i64 x.1, st]) ∧ lod1 t (.ptr id o) = some (.int .i64 x.1) ∧ lod1 t (.ptr id (o + 1)) = some st ∧ ltN id t ∧ AM.read byC t st = some x.2 := by
  rcases h with ⟨_, rfl⟩ | ⟨id, off, cap, rfl, _, h⟩
  · simp at hx
  · obtain ⟨st, hcb, h2⟩ := h i x hx
    exact ⟨st, id, off + i * 2, ⟨iadV_nat (getlt hx), hcb⟩, h2⟩
theorem BwJ.chg {j : Nat} {v : AV} {L : List (Int × List UInt8)} (h : BwJ j s v L) (k : Chg [j] s u) : BwJ j u v L := h.imp (fun q => q) fun ⟨id, off, cap, e, hc, h⟩ => ⟨id, off, cap, e, hc, fun i x hx => by
  obtain ⟨st, hcb, h2⟩ := h i x hx
  exact ⟨st, hcb, fun t q => h2 t (k.trans q fun id hid => .inl hid)⟩⟩
theorem BwJ.low {j : Nat} {v : AV} {L : List (Int × List UInt8)} (h : BwJ j s v L) : BwJ j (lowd s) v L := h.chg ((keep_low s).chg _)
/-- The first ones. -/
theorem BwJ.take {j a : Nat} {v : AV} {L : List (Int × List UInt8)} (h : BwJ j s v L) (ha : a ≤ L.length) : ∃ v', slcV 2 v none (some (.int .i64 (a : Int))) = some v' ∧ BwJ j s v' (L.take a) := by
  rcases h with ⟨rfl, rfl⟩ | ⟨id, off, cap, rfl, hc, h⟩
  · obtain rfl : a = 0 := by simpa using ha
    exact ⟨.nils, by simp [slcV, optNat, asNatIn], .inl ⟨rfl, rfl⟩⟩
  · have hl : (L.take a).length = a := by rw [List.length_take]; omega
    cases cap with
    | none => exact ⟨.sl id off a none 2, by simp [slcV, optNat, asNatIn, ha], .inr ⟨id, off, none, by rw [hl], (fun c q => by cases q), fun i x hx => h i x (by
        have := getlt hx
        rw [hl] at this
        rwa [List.getElem?_take_of_lt this] at hx)⟩⟩
    | some c =>
      have hc := hc c rfl
      have hac : a ≤ c := by omega
      exact ⟨.sl id off a (some c) 2, by simp [slcV, optNat, asNatIn, hac], .inr ⟨id, off, some c, by rw [hl], fun c' q => by injection q with q; omega, fun i x hx => h i x (by
        have := getlt hx
        rw [hl] at this
        rwa [List.getElem?_take_of_lt this] at hx)⟩⟩
/-- One of them. -/
theorem BwJ.one {j i : Nat} {v : AV} {L : List (Int × List UInt8)} {x : Int × List UInt8} (h : BwJ j s v L) (hx : L[i]? = some x) : ∃ v', slcV 2 v (some (.int .i64 (i : Int))) (some (.int .i64 ((i + 1 : Nat) : Int))) = some v' ∧ BwJ j s v' [x] := by
  have hi := getlt hx
  rcases h with ⟨_, rfl⟩ | ⟨id, off, cap, rfl, hc, h⟩
  · simp at hx
  · obtain ⟨st, hcb, h2⟩ := h i x hx
    have key : ∀ cap', (∀ c, cap' = some c → 1 ≤ c) → BwJ j s (.sl id (off + i * 2) 1 cap' 2) [x] := fun cap' hc' => .inr ⟨id, off + i * 2, cap', rfl, hc', fun k y hy => by
      have : k = 0 := by have := getlt hy; simpa using this
      subst this
      injection hy with hy
      subst hy
      exact ⟨st, hcb, fun t q => by rw [Nat.zero_mul, Nat.add_zero]; exact h2 t q⟩⟩
    have n1 := asNat_ok (show i ≤ i + 1 by omega)
    cases cap with
    | none =>
      have n2 := asNat_ok (show i + 1 ≤ L.length by omega)
      refine ⟨.sl id (off + i * 2) 1 none 2, ?_, key none fun c q => by cases q⟩
      simp only [slcV, optNat, n1, n2, if_true, show i + 1 - i = 1 by omega]
    | some c =>
      have hc := hc c rfl
      have n2 := asNat_ok (show i + 1 ≤ c by omega)
      refine ⟨.sl id (off + i * 2) 1 (some (c - i)) 2, ?_, key _ fun c' q => by injection q with q; omega⟩
      simp only [slcV, optNat, n1, n2, if_true, show i + 1 - i = 1 by omega]
/-- A list of block writes as it is given, with what it is. -/
def BwA (s : St) (v : AV) (L : List (Int × List UInt8)) : Prop := (v = .nils ∧ L = []) ∨ ∃ id cap, v = .sl id 0 L.length (some cap) 2 ∧ L.length ≤ cap ∧ ∀ (i : Nat) (x : Int × List UInt8), L[i]? = some x → ∃ st, CapB st ∧ (∀ t, Keep s t → lod t 2 (.ptr id (i * 2)) = some (.agg [.int .i64 x.1, st]) ∧ lod1 t (.ptr id (i * 2)) = some (.int .i64 x.1) ∧ lod1 t (.ptr id (i * 2 + 1)) = some st ∧ ltN id t) ∧ AM.read byC s st = some x.2
theorem BwA.apart {j : Nat} {s0 : St} {v : AV} {L : List (Int × List UInt8)} (h : BwA s0 v L) (hK : Keep s0 s) (hj : s0.next ≤ j) : BwJ j s v L := by
  rcases h with q | ⟨id, cap, rfl, hcap, h⟩
  · exact .inl q
  · refine .inr ⟨id, 0, some cap, rfl, fun c q => by injection q with q; omega, fun i x hx => ?_⟩
    obtain ⟨st, hcb, h2, h3⟩ := h i x hx
    refine ⟨st, hcb, fun t q => ?_⟩
    have hKt : Keep s0 t := hK.chgn q fun id hid => by simp at hid; subst hid; exact hj
    obtain ⟨a1, a2, a3, a4⟩ := h2 t hKt
    rw [Nat.zero_add]
    exact ⟨a1, a2, a3, a4, hKt.read h3⟩
theorem read_oneB {v : AV} {l : List UInt8} (h : read byC s v = some l) : v.cells = [v] ∧ v.one = true := by cases v <;> first | exact ⟨rfl, rfl⟩ | simp [read] at h
noncomputable def R_check2 : Con := runFn (tb [(38, R_none), (27, R_Blocks)]) a31
theorem s_check2 : SoundAt Try.prog 31 R_check2 := run_sound (tb_sound (l := [(38, R_none), (27, R_Blocks)]) (by simpa using ⟨s_none, s_Blocks⟩)) mixed Try.func31 k31 c31
theorem n_check2 : noNxtC a31.body = true := by kernel_rfl
theorem w_check2 {s : St} {id j z : Nat} {cap : Option Nat} {l : List UInt8} (hd : DkR s id j cap z l) {v : AV} {L : List (Int × List UInt8)} (hv : BwJ j s v L) (hL4 : L.length ≤ 4000000) : ∀ env : Env, elen env = a31.ntmps → (∀ i x_, [.ptr id 0, v][i]? = some x_ → E env i = x_) → awp (tb [(38, R_none), (27, R_Blocks)]) a31.body (fun x e t => (∀ i, x ≠ .exit i) ∧ aresults e t a31.results = some (.int .i64 (checkP (l.length / z) z L)) ∧ Keep s t) env s := by
  intro env hlen ha
  have h0 : E env 0 = _ := ha 0 _ rfl
  have h1 : E env 1 = _ := ha 1 _ rfl
  have hlen : elen env = _ := hlen
  simp only [a31] at hlen
  unfold a31
  try dsimp only [oO, oG]
  have hz := hd.pos
  have q := q_none false hd.box
  rw [decide_eq_false (by omega)] at q
  have hL := hv.len
  by_cases hbig : 10000 < L.length
  · have z1 := eq_true (show (10000 : Int) < (L.length : Int) by omega)
    have hS : checkP (l.length / z) z L = 5 := by unfold checkP; rw [if_pos hbig]
    rw [hS]
    simp (config := {contextual := true, maxDischargeDepth := 12}) only [tb_at, h0, h1, hlen, q, hL, z1, ↓bD, bU, forall_const, bS, implies_true, isNx, eq_self, ↓wp_cond, ↓wp_loop, ↓reduceIte, reduceCtorEq, Nat.reduceEqDiff, Nat.reduceLT, Nat.reduceAdd, Nat.reduceMul, bT, ↓sg_bsl, ↓st_callf, bX, ar_b2s, bin_mulE, ap_mkfn, ↓wi_seq, ↓wi_base, ↓wi_block, ↓wi_cond, ↓wi_loop, ↓wi_rf, ↓wy_seq, ↓wy_base, ↓wy_block, ↓wy_cond, ↓wy_loop, ↓wy_yld, q_known, ↓sg_callf3]
    all_goals first | exact .refl s | skip
  · have z1 := eq_false (show ¬ (10000 : Int) < (L.length : Int) by omega)
    have hS : checkP (l.length / z) z L = chkL (l.length / z) z L := by unfold checkP; rw [if_neg hbig]
    rw [hS]
    simp (config := {contextual := true, maxDischargeDepth := 12}) only [tb_at, h0, h1, hlen, q, hL, z1, ↓bD, bU, forall_const, bS, implies_true, isNx, eq_self, ↓wp_cond, ↓wp_loop, ↓reduceIte, reduceCtorEq, Nat.reduceEqDiff, Nat.reduceLT, Nat.reduceAdd, Nat.reduceMul, bT, ↓sg_bsl, ↓st_callf, bX, ar_b2s, bin_mulE, ap_mkfn, ↓wi_seq, ↓wi_base, ↓wi_block, ↓wi_cond, ↓wi_loop, ↓wi_rf, ↓wy_seq, ↓wy_base, ↓wy_block, ↓wy_cond, ↓wy_loop, ↓wy_yld, q_known, ↓sg_callf3]
    obtain ⟨I, hI⟩ : ∃ I : Nat → Env → St → Prop, ∀ n e t, I n e t = (Keep s t ∧ ∃ i : Nat, n + i = L.length ∧ elen e = 37 ∧ E e 0 = .ptr id 0 ∧ E e 12 = v ∧ E e 13 = .int .i64 (L.length : Int) ∧ E e 14 = .int .i64 (i : Int) ∧ chkL (l.length / z) z L = chkL (l.length / z) z (L.drop i)) := ⟨fun n e t => (Keep s t ∧ ∃ i : Nat, n + i = L.length ∧ elen e = 37 ∧ E e 0 = .ptr id 0 ∧ E e 12 = v ∧ E e 13 = .int .i64 (L.length : Int) ∧ E e 14 = .int .i64 (i : Int) ∧ chkL (l.length / z) z L = chkL (l.length / z) z (L.drop i)), fun _ _ _ => rfl⟩
    refine lwp_inv I (n := L.length) ?_ ?_
    · rw [hI]
      exact ⟨.refl s, 0, by omega, (by simp only [bE, Nat.reduceEqDiff, bN, Nat.reduceLT, hlen]; try rfl), (by simp only [bE, Nat.reduceEqDiff, bN, Nat.reduceLT, hlen, h0]; try rfl), (by simp only [bE, Nat.reduceEqDiff, bN, Nat.reduceLT, hlen, h1]; try rfl), (by simp only [bE, Nat.reduceEqDiff, bN, Nat.reduceLT, hlen, hL]; try rfl), (by simp only [bE, Nat.reduceEqDiff, bN, Nat.reduceLT, hlen]; try rfl), rfl⟩
    clear h0 h1 hlen q
    intro n e t hi
    rw [hI] at hi
    obtain ⟨hK, i, hni, he, e0, e12, e13, e14, hch⟩ := hi
    rw [hch]
    by_cases hlt : i < L.length
    · obtain ⟨x, hx⟩ := getsome hlt
      have hw2 := wrap_add1 (n := i) (by omega)
      obtain ⟨st, ib, ob, ⟨i1, _⟩, hl⟩ := hv.at hx
      obtain ⟨a1, a2, a3, a4, hrd⟩ := hl t (hK.chg _)
      have ho := read_oneB hrd
      have hst := sto_bw (show sameN t.next t from rfl) (b := x.1) ho
      have hKb : Keep t (t.lowed.push (.row [.int .i64 x.1, st] true)) := (Keep.refl t).lowed.push _
      have hgb : (t.lowed.push (.row [.int .i64 x.1, st] true)).get t.next = some (.row [.int .i64 x.1, st] true) := St.get_push_new t.lowed _
      obtain ⟨e0_, e1_, elt⟩ := row2_lod hgb
      have hLs := lenV_read hrd
      have hdt := hd.keep (hK.trans hKb)
      have qB := q_Blocks true hdt.box hz (lenV_read hdt.rd) hdt.len
      obtain ⟨b0, b1, blt⟩ := row2_lod hdt.box
      rw [chk_at hx]
      by_cases hb0 : x.1 < 0
      · have y1 := eq_true hb0
        rw [if_pos (.inl hb0)]
        simp (config := {contextual := true, maxDischargeDepth := 12}) only [tb_at, he, e0, e12, e13, e14, hlt, i1, a1, a4, hst, e0_, elt, qB, y1, ↓bD, bU, forall_const, bS, implies_true, isNx, eq_self, ↓wp_cond, ↓wp_loop, ↓reduceIte, reduceCtorEq, Nat.reduceEqDiff, Nat.reduceLT, Nat.reduceAdd, Nat.reduceMul, bT, ↓sg_bsl, ↓st_callf, bX, ar_b2s, bin_mulE, ap_mkfn, ↓wi_seq, ↓wi_base, ↓wi_block, ↓wi_cond, ↓wi_loop, ↓wi_rf, ↓wy_seq, ↓wy_base, ↓wy_block, ↓wy_cond, ↓wy_loop, ↓wy_yld, q_known, ↓sg_callf3]
        all_goals first | exact hK.trans hKb | skip
      · have y1 := eq_false hb0
        by_cases hb1 : ((l.length / z : Nat) : Int) ≤ x.1
        · have y2 := eq_true hb1
          rw [if_pos (.inr hb1)]
          simp (config := {contextual := true, maxDischargeDepth := 12}) only [tb_at, he, e0, e12, e13, e14, hlt, i1, a1, a4, hst, e0_, elt, qB, y1, y2, reserve0, ↓bD, bU, forall_const, bS, implies_true, isNx, eq_self, ↓wp_cond, ↓wp_loop, ↓reduceIte, reduceCtorEq, Nat.reduceEqDiff, Nat.reduceLT, Nat.reduceAdd, Nat.reduceMul, bT, ↓sg_bsl, ↓st_callf, bX, ar_b2s, bin_mulE, ap_mkfn, ↓wi_seq, ↓wi_base, ↓wi_block, ↓wi_cond, ↓wi_loop, ↓wi_rf, ↓wy_seq, ↓wy_base, ↓wy_block, ↓wy_cond, ↓wy_loop, ↓wy_yld, q_known, ↓sg_callf3]
          all_goals first | exact hK.trans hKb | skip
        · have y2 := eq_false hb1
          rw [if_neg (by omega)]
          by_cases h5 : z < x.2.length
          · have y3 := eq_true (show (z : Int) < (x.2.length : Int) by omega)
            rw [if_pos h5]
            simp (config := {contextual := true, maxDischargeDepth := 12}) only [tb_at, he, e0, e12, e13, e14, hlt, i1, a1, a4, hst, e0_, e1_, elt, qB, y1, y2, y3, b0, b1, blt, nchkV_ptr, hLs, reserve0, ↓bD, bU, forall_const, bS, implies_true, isNx, eq_self, ↓wp_cond, ↓wp_loop, ↓reduceIte, reduceCtorEq, Nat.reduceEqDiff, Nat.reduceLT, Nat.reduceAdd, Nat.reduceMul, bT, ↓sg_bsl, ↓st_callf, bX, ar_b2s, bin_mulE, ap_mkfn, ↓wi_seq, ↓wi_base, ↓wi_block, ↓wi_cond, ↓wi_loop, ↓wi_rf, ↓wy_seq, ↓wy_base, ↓wy_block, ↓wy_cond, ↓wy_loop, ↓wy_yld, q_known, ↓sg_callf3]
            all_goals first | exact hK.trans hKb | skip
          · have y3 := eq_false (show ¬ (z : Int) < (x.2.length : Int) by omega)
            have hch' : chkL (l.length / z) z L = chkL (l.length / z) z (L.drop (i + 1)) := by rw [hch, chk_at hx, if_neg (by omega), if_neg h5]
            rw [if_neg h5]
            simp (config := {contextual := true, maxDischargeDepth := 12}) only [tb_at, he, e0, e12, e13, e14, hlt, i1, a1, a4, hst, e0_, e1_, elt, qB, y1, y2, y3, b0, b1, blt, nchkV_ptr, hLs, hw2, reserve0, ↓bD, bU, forall_const, bS, implies_true, isNx, eq_self, ↓wp_cond, ↓wp_loop, ↓reduceIte, reduceCtorEq, Nat.reduceEqDiff, Nat.reduceLT, Nat.reduceAdd, Nat.reduceMul, bT, ↓sg_bsl, ↓st_callf, bX, ar_b2s, bin_mulE, ap_mkfn, ↓wi_seq, ↓wi_base, ↓wi_block, ↓wi_cond, ↓wi_loop, ↓wi_rf, ↓wy_seq, ↓wy_base, ↓wy_block, ↓wy_cond, ↓wy_loop, ↓wy_yld, q_known, ↓sg_callf3]
            refine ⟨n - 1, by omega, ?_⟩
            rw [hI]
            exact ⟨hK.trans hKb, i + 1, by omega, (by simp only [bE, Nat.reduceEqDiff, bN, Nat.reduceLT, he, e0, e12, e13, e14]; try rfl), (by simp only [bE, Nat.reduceEqDiff, bN, Nat.reduceLT, he, e0, e12, e13, e14]; try rfl), (by simp only [bE, Nat.reduceEqDiff, bN, Nat.reduceLT, he, e0, e12, e13, e14]; try rfl), (by simp only [bE, Nat.reduceEqDiff, bN, Nat.reduceLT, he, e0, e12, e13, e14]; try rfl), (by simp only [bE, Nat.reduceEqDiff, bN, Nat.reduceLT, he, e0, e12, e13, e14]; try rfl), hch'⟩
    · obtain rfl : i = L.length := by omega
      rw [List.drop_length]
      simp (config := {contextual := true, maxDischargeDepth := 12}) only [tb_at, he, e0, e12, e13, e14, hlt, ↓bD, bU, forall_const, bS, implies_true, isNx, eq_self, ↓wp_cond, ↓wp_loop, ↓reduceIte, reduceCtorEq, Nat.reduceEqDiff, Nat.reduceLT, Nat.reduceAdd, Nat.reduceMul, bT, ↓sg_bsl, ↓st_callf, bX, ar_b2s, bin_mulE, ap_mkfn, ↓wi_seq, ↓wi_base, ↓wi_block, ↓wi_cond, ↓wi_loop, ↓wi_rf, ↓wy_seq, ↓wy_base, ↓wy_block, ↓wy_cond, ↓wy_loop, ↓wy_yld, q_known, ↓sg_callf3]
      all_goals first | exact ⟨rfl, hK⟩ | exact hK | skip
theorem q_check2 (cl : Bool) {s : St} {id j z : Nat} {cap : Option Nat} {l : List UInt8} (hd : DkR s id j cap z l) {v : AV} {L : List (Int × List UInt8)} (hv : BwJ j s v L) (hL4 : L.length ≤ 4000000) : acall R_check2 cl [.ptr id 0, v] s = some (.int .i64 (checkP (l.length / z) z L), s) := run_same n_check2 (by simp [a31]) rfl (w_check2 (s := lowd s) hd.low hv.low hL4)

end Go.AM
end
/-
  Block writes are made. Own work of this project; in part printed by a program of it.
-/
section
set_option maxRecDepth 100000
set_option maxHeartbeats 8000000
namespace Go.AM
open Go Go.Proofs

variable {s t u : St}

theorem byC_map : ∀ l : List UInt8, byC.cells l = l.map fun b => .int .u8 (b.toNat : Int)
  | [] => rfl
  | b :: l => by rw [cells_cons, byC_map l]; rfl
theorem cells_put (l d : List UInt8) (o : Nat) : setAt (byC.cells l) o (byC.cells d) = byC.cells (l.take o ++ d ++ l.drop (o + d.length)) := by
  simp only [byC_map, setAt, List.map_append, List.map_take, List.map_drop, List.length_map]
def wrP (z : Nat) (l : List UInt8) (x : Int × List UInt8) : List UInt8 := l.take (x.1.toNat * z) ++ x.2 ++ l.drop (x.1.toNat * z + x.2.length)
def wrL (z : Nat) (l : List UInt8) (L : List (Int × List UInt8)) : List UInt8 := L.foldl (wrP z) l
def Fits (n z : Nat) (L : List (Int × List UInt8)) : Prop := ∀ x ∈ L, 0 ≤ x.1 ∧ x.1 < (n : Int) ∧ x.2.length ≤ z
theorem chk_fits {n z : Nat} : ∀ {L : List (Int × List UInt8)}, chkL n z L = 0 → Fits n z L
  | [], _ => fun x hx => by simp at hx
  | x :: r, h => by
    unfold chkL at h
    split at h
    · cases h
    · split at h
      · cases h
      · intro y hy
        rcases List.mem_cons.1 hy with rfl | hy
        · exact ⟨by omega, by omega, by omega⟩
        · exact chk_fits h y hy
theorem fit_le {n z k m : Nat} (hk : k < n / z) (hm : m ≤ z) : k * z + m ≤ n := by
  have h1 : (k + 1) * z ≤ (n / z) * z := Nat.mul_le_mul_right z hk
  have h2 := Nat.div_mul_le_self n z
  rw [Nat.succ_mul] at h1
  omega
theorem wrP_len {z : Nat} {l : List UInt8} {x : Int × List UInt8} (h : x.1.toNat * z + x.2.length ≤ l.length) : (wrP z l x).length = l.length := by
  unfold wrP
  rw [List.length_append, List.length_append, List.length_take, List.length_drop]
  omega
theorem wrL_len {z : Nat} : ∀ {L : List (Int × List UInt8)} {l : List UInt8}, Fits (l.length / z) z L → (wrL z l L).length = l.length
  | [], l, _ => rfl
  | x :: r, l, h => by
    obtain ⟨h1, h2, h3⟩ := h x (by simp)
    have e := wrP_len (z := z) (l := l) (x := x) (fit_le (by omega) h3)
    show (wrL z (wrP z l x) r).length = _
    rw [wrL_len (L := r) (l := wrP z l x) (by rw [e]; exact fun y hy => h y (by simp [hy])), e]
theorem wrL_snoc {z i : Nat} {l : List UInt8} {L : List (Int × List UInt8)} {x : Int × List UInt8} (hx : L[i]? = some x) : wrL z l (L.take (i + 1)) = wrP z (wrL z l (L.take i)) x := by
  unfold wrL
  rw [List.take_add_one, hx, List.foldl_append]
  rfl
theorem Fits.take {n z i : Nat} {L : List (Int × List UInt8)} (h : Fits n z L) : Fits n z (L.take i) := fun x hx => h x (List.mem_of_mem_take hx)
theorem copy_dk {j o len : Nat} {cap : Option Nat} {st : AV} {l d : List UInt8} (hg : t.get j = some (.row (byC.cells l) true)) (hr : read byC t st = some d) (ho : o + len ≤ l.length) (hd : d.length ≤ len) : copyV t 1 (.sl j o len cap 1) st = some (.int .i64 (d.length : Int), t.put j (.row (byC.cells (l.take o ++ d ++ l.drop (o + d.length))) true)) := by
  have h1 : shown t 1 st = some (byC.cells d) := read_shown hr
  have h2 : lenOf st = some d.length := read_len hr
  have hcl : (byC.cells l).length = l.length := by rw [cells_len]; exact Nat.mul_one _
  have hcd : (byC.cells d).length = d.length := by rw [cells_len]; exact Nat.mul_one _
  simp only [copyV, h1, h2, hg, if_true]
  rw [if_pos (by rw [hcl]; omega), Nat.min_eq_left hd, Nat.mul_one, ← hcd, List.take_length, cells_put, hcd]
noncomputable def R_run2 : Con := runFn (tb []) a32
theorem s_run2 : SoundAt Try.prog 32 R_run2 := run_sound (tb_sound (l := []) (by simp)) mixed Try.func32 k32 c32
theorem n_run2 : noNxtC a32.body = true := by kernel_rfl
theorem w_run2_nil {s : St} {d v : AV} (hL : lenV v = some (.int .i64 ((0 : Nat) : Int))) : ∀ env : Env, elen env = a32.ntmps → (∀ i x_, [d, v][i]? = some x_ → E env i = x_) → awp (tb []) a32.body (fun x e t => (∀ i, x ≠ .exit i) ∧ aresults e t a32.results = some (.tup []) ∧ Keep s t) env s := by
  intro env hlen ha
  have h0 : E env 0 = _ := ha 0 _ rfl
  have h1 : E env 1 = _ := ha 1 _ rfl
  have hlen : elen env = _ := hlen
  simp only [a32] at hlen
  unfold a32
  try dsimp only [oO, oG]
  have n00 : ((0 : Int) < 0) = False := eq_false (by decide)
  simp (config := {contextual := true, maxDischargeDepth := 12}) only [tb_at, h0, h1, hlen, hL, ↓bD, bU, forall_const, bS, implies_true, isNx, eq_self, ↓wp_cond, ↓wp_loop, ↓reduceIte, reduceCtorEq, Nat.reduceEqDiff, Nat.reduceLT, Nat.reduceAdd, Nat.reduceMul, bT, ↓sg_bsl, ↓st_callf, bX, ar_b2s, bin_mulE, ap_mkfn, ↓wi_seq, ↓wi_base, ↓wi_block, ↓wi_cond, ↓wi_loop, ↓wi_rf, ↓wy_seq, ↓wy_base, ↓wy_block, ↓wy_cond, ↓wy_loop, ↓wy_yld, q_known, ↓sg_callf3]
  refine lwp_inv (fun n e t => t = s ∧ elen e = 28 ∧ E e 7 = .int .i64 0 ∧ E e 8 = .int .i64 0) (n := 0) ⟨rfl, (by simp only [bE, Nat.reduceEqDiff, bN, Nat.reduceLT, hlen, hL]; try rfl), (by simp only [bE, Nat.reduceEqDiff, bN, Nat.reduceLT, hlen, hL]; try rfl), (by simp only [bE, Nat.reduceEqDiff, bN, Nat.reduceLT, hlen, hL]; try rfl)⟩ ?_
  rintro n e t ⟨rfl, he, e7, e8⟩
  simp (config := {contextual := true, maxDischargeDepth := 12}) only [tb_at, he, e7, e8, n00, ↓bD, bU, forall_const, bS, implies_true, isNx, eq_self, ↓wp_cond, ↓wp_loop, ↓reduceIte, reduceCtorEq, Nat.reduceEqDiff, Nat.reduceLT, Nat.reduceAdd, Nat.reduceMul, bT, ↓sg_bsl, ↓st_callf, bX, ar_b2s, bin_mulE, ap_mkfn, ↓wi_seq, ↓wi_base, ↓wi_block, ↓wi_cond, ↓wi_loop, ↓wi_rf, ↓wy_seq, ↓wy_base, ↓wy_block, ↓wy_cond, ↓wy_loop, ↓wy_yld, q_known, ↓sg_callf3]
  all_goals first | exact .refl _ | skip
theorem w_run2 {s : St} {id j z : Nat} {cap : Option Nat} {l : List UInt8} (hd : DkR s id j cap z l) {v : AV} {L : List (Int × List UInt8)} (hv : BwJ j s v L) (hL4 : L.length ≤ 4000000) (hfit : Fits (l.length / z) z L) : ∀ env : Env, elen env = a32.ntmps → (∀ i x_, [.ptr id 0, v][i]? = some x_ → E env i = x_) → awp (tb []) a32.body (fun x e t => (∀ i, x ≠ .exit i) ∧ ∃ r, aresults e t a32.results = some r ∧ (r = .tup [] ∧ DkR t id j cap z (wrL z l L) ∧ Chg [j] s t ∧ (0 < L.length → t.low ≤ j))) env s := by
  intro env hlen ha
  have h0 : E env 0 = _ := ha 0 _ rfl
  have h1 : E env 1 = _ := ha 1 _ rfl
  have hlen : elen env = _ := hlen
  simp only [a32] at hlen
  unfold a32
  try dsimp only [oO, oG]
  have hL := hv.len
  have hz := hd.pos
  have hll := hd.len
  simp (config := {contextual := true, maxDischargeDepth := 12}) only [tb_at, h0, h1, hlen, hL, ↓bD, bU, forall_const, bS, implies_true, isNx, eq_self, ↓wp_cond, ↓wp_loop, ↓reduceIte, reduceCtorEq, Nat.reduceEqDiff, Nat.reduceLT, Nat.reduceAdd, Nat.reduceMul, bT, ↓sg_bsl, ↓st_callf, bX, ar_b2s, bin_mulE, ap_mkfn, ↓wi_seq, ↓wi_base, ↓wi_block, ↓wi_cond, ↓wi_loop, ↓wi_rf, ↓wy_seq, ↓wy_base, ↓wy_block, ↓wy_cond, ↓wy_loop, ↓wy_yld, q_known, ↓sg_callf3]
  obtain ⟨I, hI⟩ : ∃ I : Nat → Env → St → Prop, ∀ n e t, I n e t = (Chg [j] s t ∧ ∃ i : Nat, n + i = L.length ∧ elen e = 28 ∧ E e 0 = .ptr id 0 ∧ E e 6 = v ∧ E e 7 = .int .i64 (L.length : Int) ∧ E e 8 = .int .i64 (i : Int) ∧ DkR t id j cap z (wrL z l (L.take i)) ∧ (0 < i → t.low ≤ j)) := ⟨fun n e t => (Chg [j] s t ∧ ∃ i : Nat, n + i = L.length ∧ elen e = 28 ∧ E e 0 = .ptr id 0 ∧ E e 6 = v ∧ E e 7 = .int .i64 (L.length : Int) ∧ E e 8 = .int .i64 (i : Int) ∧ DkR t id j cap z (wrL z l (L.take i)) ∧ (0 < i → t.low ≤ j)), fun _ _ _ => rfl⟩
  refine lwp_inv I (n := L.length) ?_ ?_
  · rw [hI]
    exact ⟨Chg.refl _ _, 0, by omega, (by simp only [bE, Nat.reduceEqDiff, bN, Nat.reduceLT, hlen]; try rfl), (by simp only [bE, Nat.reduceEqDiff, bN, Nat.reduceLT, hlen, h0]; try rfl), (by simp only [bE, Nat.reduceEqDiff, bN, Nat.reduceLT, hlen, h1]; try rfl), (by simp only [bE, Nat.reduceEqDiff, bN, Nat.reduceLT, hlen, hL]; try rfl), (by simp only [bE, Nat.reduceEqDiff, bN, Nat.reduceLT, hlen]; try rfl), hd, fun h => by omega⟩
  clear h0 h1 hlen
  intro n e t hi
  rw [hI] at hi
  obtain ⟨hK, i, hni, he, e0, e6, e7, e8, hdt, hlow⟩ := hi
  by_cases hlt : i < L.length
  · obtain ⟨x, hx⟩ := getsome hlt
    have hw2 := wrap_add1 (n := i) (by omega)
    obtain ⟨st, ib, ob, ⟨i1, _⟩, hl⟩ := hv.at hx
    obtain ⟨a1, a2, a3, a4, hrd⟩ := hl t hK
    have ho := read_oneB hrd
    have hst := sto_bw (show sameN t.next t from rfl) (b := x.1) ho
    have hKb : Keep t (t.lowed.push (.row [.int .i64 x.1, st] true)) := (Keep.refl t).lowed.push _
    have hgb : (t.lowed.push (.row [.int .i64 x.1, st] true)).get t.next = some (.row [.int .i64 x.1, st] true) := St.get_push_new t.lowed _
    obtain ⟨e0_, e1_, elt⟩ := row2_lod hgb
    have hdT := hdt.keep hKb
    obtain ⟨b0, b1, blt⟩ := row2_lod hdT.box
    obtain ⟨f1, f2, f3⟩ := hfit x (List.mem_of_getElem? hx)
    have hln := wrL_len (z := z) (L := L.take i) (l := l) hfit.take
    obtain ⟨k, hk⟩ : ∃ k : Nat, x.1 = (k : Int) := ⟨x.1.toNat, by omega⟩
    have hkn : x.1.toNat = k := by omega
    have hfl := fit_le (n := l.length) (z := z) (k := k) (m := x.2.length) (by omega) f3
    have hfz := fit_le (n := l.length) (z := z) (k := k) (m := z) (by omega) (Nat.le_refl z)
    have hmul : IntKind.i64.wrap (x.1 * (z : Int)) = ((k * z : Nat) : Int) := by
      rw [hk, ← Int.natCast_mul]
      exact wrapI (by omega) (by omega)
    obtain ⟨cap', sl1, _⟩ := slc_b2 (j := j) (o := k * z) hdT.hcap (by rw [hln]; omega)
    have hcp := copy_dk (t := t.lowed.push (.row [.int .i64 x.1, st] true)) (o := k * z) (len := (wrL z l (L.take i)).length - k * z) (cap := cap') hdT.dat (hKb.read hrd) (by rw [hln]; omega) (by rw [hln]; omega)
    have hltj := St.get_lt hdT.dat
    have hws := wrL_snoc (z := z) (l := l) hx
    have hwp : (wrL z l (L.take i)).take (k * z) ++ x.2 ++ (wrL z l (L.take i)).drop (k * z + x.2.length) = wrL z l (L.take (i + 1)) := by
      rw [hws, wrP, hkn]
    rw [hwp] at hcp
    have hln1 := wrL_len (z := z) (L := L.take (i + 1)) (l := l) hfit.take
    have hne : id ≠ j := by
      rintro rfl
      have h1 := hdT.box
      rw [hdT.dat] at h1
      injection h1 with h1
      injection h1 with h1 _
      rw [byC_map] at h1
      cases hw : wrL z l (L.take i) with
      | nil => rw [hw] at h1; simp at h1
      | cons b r => rw [hw] at h1; simp at h1
    have hdN : DkR ((t.lowed.push (.row [.int .i64 x.1, st] true)).put j (.row (byC.cells (wrL z l (L.take (i + 1)))) true)) id j cap z (wrL z l (L.take (i + 1))) := by
      refine ⟨?_, St.get_put_same hdT.dat, fun c hc => by rw [hln1, ← hln]; exact hdT.hcap c hc, hz, by rw [hln1]; exact hll⟩
      rw [St.get_put_ne _ _ hltj hne, hln1, ← hln]
      exact hdT.box
    have hCN : Chg [j] s ((t.lowed.push (.row [.int .i64 x.1, st] true)).put j (.row (byC.cells (wrL z l (L.take (i + 1)))) true)) := (hK.trans (hKb.chg []) (by simp)).put _ (.inl (by simp)) hltj
    have hlowN : 0 < i + 1 → ((t.lowed.push (.row [.int .i64 x.1, st] true)).put j (.row (byC.cells (wrL z l (L.take (i + 1)))) true)).low ≤ j := fun _ => Nat.min_le_right _ _
    simp (config := {contextual := true, maxDischargeDepth := 12}) only [tb_at, he, e0, e6, e7, e8, hlt, hw2, i1, a1, a4, hst, e0_, e1_, elt, b0, b1, blt, nchkV_ptr, hmul, sl1, ae_copy, hcp, reserve0, ↓bD, bU, forall_const, bS, implies_true, isNx, eq_self, ↓wp_cond, ↓wp_loop, ↓reduceIte, reduceCtorEq, Nat.reduceEqDiff, Nat.reduceLT, Nat.reduceAdd, Nat.reduceMul, bT, ↓sg_bsl, ↓st_callf, bX, ar_b2s, bin_mulE, ap_mkfn, ↓wi_seq, ↓wi_base, ↓wi_block, ↓wi_cond, ↓wi_loop, ↓wi_rf, ↓wy_seq, ↓wy_base, ↓wy_block, ↓wy_cond, ↓wy_loop, ↓wy_yld, q_known, ↓sg_callf3]
    refine ⟨n - 1, by omega, ?_⟩
    rw [hI]
    exact ⟨hCN, i + 1, by omega, (by simp only [bE, Nat.reduceEqDiff, bN, Nat.reduceLT, he, e0, e6, e7, e8]; try rfl), (by simp only [bE, Nat.reduceEqDiff, bN, Nat.reduceLT, he, e0, e6, e7, e8]; try rfl), (by simp only [bE, Nat.reduceEqDiff, bN, Nat.reduceLT, he, e0, e6, e7, e8]; try rfl), (by simp only [bE, Nat.reduceEqDiff, bN, Nat.reduceLT, he, e0, e6, e7, e8]; try rfl), (by simp only [bE, Nat.reduceEqDiff, bN, Nat.reduceLT, he, e0, e6, e7, e8]; try rfl), hdN, hlowN⟩
  · obtain rfl : i = L.length := by omega
    rw [List.take_length] at hdt
    simp (config := {contextual := true, maxDischargeDepth := 12}) only [tb_at, he, e0, e6, e7, e8, hlt, ↓bD, bU, forall_const, bS, implies_true, isNx, eq_self, ↓wp_cond, ↓wp_loop, ↓reduceIte, reduceCtorEq, Nat.reduceEqDiff, Nat.reduceLT, Nat.reduceAdd, Nat.reduceMul, bT, ↓sg_bsl, ↓st_callf, bX, ar_b2s, bin_mulE, ap_mkfn, ↓wi_seq, ↓wi_base, ↓wi_block, ↓wi_cond, ↓wi_loop, ↓wi_rf, ↓wy_seq, ↓wy_base, ↓wy_block, ↓wy_cond, ↓wy_loop, ↓wy_yld, q_known, ↓sg_callf3]
    exact ⟨_, rfl, rfl, hdt, hK, hlow⟩
theorem q_run2 {s : St} {id j z : Nat} {cap : Option Nat} {l : List UInt8} (hd : DkR s id j cap z l) {v : AV} {L : List (Int × List UInt8)} (hv : BwJ j s v L) (hL4 : L.length ≤ 4000000) (hfit : Fits (l.length / z) z L) : ∃ t, acall R_run2 false [.ptr id 0, v] s = some (.tup [], t) ∧ DkR t id j cap z (wrL z l L) ∧ Chg [j] s t := by
  have hw := w_run2 (s := lowd s) hd.low hv.low hL4 hfit
  have hgj : j < s.next := St.get_lt hd.dat
  obtain ⟨r, t, h1, rfl, h2, h4, h5⟩ := run_awp n_run2 (args := [.ptr id 0, v]) (by simp [a32]) hw
  cases hL : L with
  | nil =>
    subst hL
    -- nothing is written: the code runs without a write
    have hw0 : ∀ env : Env, elen env = a32.ntmps → (∀ i x_, [.ptr id 0, v][i]? = some x_ → E env i = x_) → awp (tb []) a32.body (fun x e t => (∀ i, x ≠ .exit i) ∧ aresults e t a32.results = some (.tup []) ∧ Keep (lowd s) t) env (lowd s) := w_run2_nil (s := lowd s) hv.len
    exact ⟨s, run_same n_run2 (by simp [a32]) rfl hw0, hd, Chg.refl _ _⟩
  | cons x r =>
    have hlt : t.low < s.next := Nat.lt_of_le_of_lt (h5 (by rw [hL]; simp)) hgj
    obtain ⟨t', g1, g2, g3, g4⟩ := acall_new h1 h4 (.inr hlt)
    rw [hL] at h2
    exact ⟨t', g1, ⟨by rw [g2]; exact h2.box, by rw [g2]; exact h2.dat, h2.hcap, h2.pos, h2.len⟩, g4⟩

end Go.AM
end
/-
  Write, Copy. Own work of this project; in part printed by a program of it.
-/
section
set_option maxRecDepth 100000
set_option maxHeartbeats 8000000
namespace Go.AM
open Go Go.Proofs

variable {s t u : St}

/-- A call that changes memory: what was there is as behind the run, whether the answer names a block or not. -/
theorem run_chg {P : Program} {f : Nat} {c : Con} (hS : SoundAt P f c) {args : List AV} {M : List Nat} {t : St} {r : AV} (h : c args (lowd s) = some (r, t)) (hC : Chg M (lowd s) t) : ∃ t', acall c false args s = some (r, t') ∧ (∀ id, id < s.next → t'.get id = t.get id) ∧ (r.ground = false → ∀ id, t'.get id = t.get id) ∧ Chg M s t' := by
  by_cases hg : r.ground = true ∧ s.next ≤ t.low
  · obtain ⟨_, ⟨_, _, _, hk⟩, _⟩ := hS args (lowd s) r t h
    refine ⟨s, ?_, fun id hid => (hk id hid (Nat.lt_of_lt_of_le hid hg.2)).symm, (fun q => absurd (hg.1.symm.trans q) (by decide)), Chg.refl _ _⟩
    simp only [acall]
    rw [show ({ heap := s.heap, next := s.next, low := s.next } : St) = lowd s from rfl, h]
    simp [hg.1, hg.2]
  · have hng : r.ground = false ∨ t.low < s.next := by
      by_cases q : r.ground = true
      · exact .inr (Nat.lt_of_not_le fun k => hg ⟨q, k⟩)
      · exact .inl (by simpa using q)
    obtain ⟨t', g1, g2, g3, g4⟩ := acall_new h hC hng
    exact ⟨t', g1, fun id _ => g2 id, fun _ => g2, g4⟩
noncomputable def R_Write2 : Con := runFn (tb [(31, R_check2), (32, R_run2)]) a13
theorem s_Write2 : SoundAt Try.prog 13 R_Write2 := run_sound (tb_sound (l := [(31, R_check2), (32, R_run2)]) (by simpa using ⟨s_check2, s_run2⟩)) mixed Try.func13 k13 c13
theorem n_Write2 : noNxtC a13.body = true := by kernel_rfl

def wrS (z : Nat) (l : List UInt8) (L : List (Int × List UInt8)) : List UInt8 := if checkP (l.length / z) z L = 0 then wrL z l L else l
theorem checkP_fits {n z : Nat} {L : List (Int × List UInt8)} (h : checkP n z L = 0) : Fits n z L := by
  unfold checkP at h
  split at h
  · cases h
  · exact chk_fits h
theorem w_Write2 {s : St} {id j z : Nat} {cap : Option Nat} {l : List UInt8} (hd : DkR s id j cap z l) {v : AV} {L : List (Int × List UInt8)} (hv : BwJ j s v L) (hL4 : L.length ≤ 4000000) : ∀ env : Env, elen env = a13.ntmps → (∀ i x_, [.ptr id 0, v][i]? = some x_ → E env i = x_) → awp (tb [(31, R_check2), (32, R_run2)]) a13.body (fun x e t => (∀ i, x ≠ .exit i) ∧ ∃ r, aresults e t a13.results = some r ∧ (r = .int .i64 (checkP (l.length / z) z L) ∧ DkR t id j cap z (wrS z l L) ∧ Chg [j] s t)) env s := by
  intro env hlen ha
  have h0 : E env 0 = _ := ha 0 _ rfl
  have h1 : E env 1 = _ := ha 1 _ rfl
  have hlen : elen env = _ := hlen
  simp only [a13] at hlen
  unfold a13
  try dsimp only [oO, oG]
  have q1 := q_check2 false hd hv hL4
  by_cases hc : checkP (l.length / z) z L = 0
  · have hS : wrS z l L = wrL z l L := by unfold wrS; rw [if_pos hc]
    rw [hc] at q1
    obtain ⟨t1, q2, hd2, hC2⟩ := q_run2 hd hv hL4 (checkP_fits hc)
    have n00 : ((0 : Int) = 0) = True := eq_true rfl
    rw [hS, hc]
    simp (config := {contextual := true, maxDischargeDepth := 12}) only [tb_at, h0, h1, hlen, q1, q2, n00, decide_true, bin_eql, ↓bD, bU, forall_const, bS, implies_true, isNx, eq_self, ↓wp_cond, ↓wp_loop, ↓reduceIte, reduceCtorEq, Nat.reduceEqDiff, Nat.reduceLT, Nat.reduceAdd, Nat.reduceMul, bT, ↓sg_bsl, ↓st_callf, bX, ar_b2s, bin_mulE, ap_mkfn, ↓wi_seq, ↓wi_base, ↓wi_block, ↓wi_cond, ↓wi_loop, ↓wi_rf, ↓wy_seq, ↓wy_base, ↓wy_block, ↓wy_cond, ↓wy_loop, ↓wy_yld, q_known, ↓sg_callf3]
    first | exact ⟨_, rfl, rfl, hd2, hC2⟩ | exact ⟨hd2, hC2⟩
  · have hS : wrS z l L = l := by unfold wrS; rw [if_neg hc]
    have n00 := eq_false hc
    rw [hS]
    simp (config := {contextual := true, maxDischargeDepth := 12}) only [tb_at, h0, h1, hlen, q1, n00, decide_false, bin_eql, ↓bD, bU, forall_const, bS, implies_true, isNx, eq_self, ↓wp_cond, ↓wp_loop, ↓reduceIte, reduceCtorEq, Nat.reduceEqDiff, Nat.reduceLT, Nat.reduceAdd, Nat.reduceMul, bT, ↓sg_bsl, ↓st_callf, bX, ar_b2s, bin_mulE, ap_mkfn, ↓wi_seq, ↓wi_base, ↓wi_block, ↓wi_cond, ↓wi_loop, ↓wi_rf, ↓wy_seq, ↓wy_base, ↓wy_block, ↓wy_cond, ↓wy_loop, ↓wy_yld, q_known, ↓sg_callf3]
    first | exact ⟨_, rfl, rfl, hd, Chg.refl _ _⟩ | exact ⟨hd, Chg.refl _ _⟩
theorem q_Write2 {s : St} {id j z : Nat} {cap : Option Nat} {l : List UInt8} (hd : DkR s id j cap z l) {v : AV} {L : List (Int × List UInt8)} (hv : BwJ j s v L) (hL4 : L.length ≤ 4000000) : ∃ t, acall R_Write2 false [.ptr id 0, v] s = some (.int .i64 (checkP (l.length / z) z L), t) ∧ DkR t id j cap z (wrS z l L) ∧ Chg [j] s t := by
  obtain ⟨r, t, h1, rfl, h2, h3⟩ := run_awp n_Write2 (args := [.ptr id 0, v]) (by simp [a13]) (w_Write2 (s := lowd s) hd.low hv.low hL4)
  obtain ⟨t', g1, g2, _, g4⟩ := run_chg s_Write2 h1 h3
  have i1 := St.get_lt hd.box
  have i2 := St.get_lt hd.dat
  exact ⟨t', g1, ⟨by rw [g2 _ i1]; exact h2.box, by rw [g2 _ i2]; exact h2.dat, h2.hcap, h2.pos, h2.len⟩, g4⟩
end Go.AM
end
/-
  Crash. Own work of this project; in part printed by a program of it.
-/
section
set_option maxRecDepth 100000
set_option maxHeartbeats 8000000
namespace Go.AM
open Go Go.Proofs

variable {s t u : St}

/-- The next block write, and what a crash makes. -/
def nxt (L : List (Int × List UInt8)) (w : Nat) : Int × List UInt8 := (L[w]?).getD (0, [])
def crL (L : List (Int × List UInt8)) (w m : Nat) : List (Int × List UInt8) := L.take w ++ [((nxt L w).1, (nxt L w).2.take m)]
theorem aev_c' (v : AV) : aev [] (.c v) = v := rfl
theorem slc_cap {st : AV} {l : List UInt8} (hr : read byC s st = some l) (hc : CapB st) {m : Nat} (hm : m ≤ l.length) : ∃ v', slcV 1 st none (some (.int .i64 (m : Int))) = some v' ∧ (∀ t, Keep s t → read byC t v' = some (l.take m)) ∧ v'.cells = [v'] ∧ v'.one = true ∧ CapB v' := by
  obtain ⟨v', h1, h2⟩ := slc_hi (C := byC) hr hc (k := .i64) (i := (m : Int)) rfl hm
  have h1 : slcV 1 st none (some (.int .i64 (m : Int))) = some v' := h1
  have h3 := read_oneB (h2 s (.refl s))
  refine ⟨v', h1, h2, h3.1, h3.2, ?_⟩
  intro id off n c z e
  subst e
  cases st with
  | nils => simp [slcV, optNat] at h1; revert h1; split <;> intro h1 <;> cases h1
  | sl id' off' n' cap' z' =>
    unfold slcV at h1
    simp only at h1
    split at h1
    · cases cap' with
      | none =>
        simp only at h1
        split at h1
        · simp only [optNat] at h1
          injection h1 with h1
          injection h1 with _ _ _ h1 _
          cases h1
        · cases h1
      | some c' =>
        simp only at h1
        split at h1
        · rename_i h hh
          simp only [optNat] at h1
          injection h1 with h1
          injection h1 with _ _ e1 e2 _
          injection e2 with e2
          have : h ≤ c' := by
            simp only [optNat, asNatIn] at hh
            split at hh
            · injection hh with hh
              omega
            · cases hh
          omega
        · cases h1
    · cases h1
  | _ => simp [read] at hr
noncomputable def R_Crash2 : Con := runFn (tb [(31, R_check2), (32, R_run2)]) a14
theorem s_Crash2 : SoundAt Try.prog 14 R_Crash2 := run_sound (tb_sound (l := [(31, R_check2), (32, R_run2)]) (by simpa using ⟨s_check2, s_run2⟩)) mixed Try.func14 k14 c14
theorem n_Crash2 : noNxtC a14.body = true := by kernel_rfl
theorem w_Crash2 {s : St} {id j z : Nat} {cap : Option Nat} {l : List UInt8} (hd : DkR s id j cap z l) {v : AV} {L : List (Int × List UInt8)} (hv : BwJ j s v L) (hL4 : L.length ≤ 4000000) (hc : checkP (l.length / z) z L = 0) {w m : Nat} (hw : w ≤ L.length) (hm : m ≤ (nxt L w).2.length) (hn0 : 0 < l.length / z) : ∀ env : Env, elen env = a14.ntmps → (∀ i x_, [.ptr id 0, v, .int .i64 (w : Int), .int .i64 (m : Int)][i]? = some x_ → E env i = x_) → awp (tb [(31, R_check2), (32, R_run2)]) a14.body (fun x e t => (∀ i, x ≠ .exit i) ∧ ∃ r, aresults e t a14.results = some r ∧ (r = .int .i64 0 ∧ DkR t id j cap z (wrL z l (crL L w m)) ∧ Chg [j] s t)) env s := by
  intro env hlen ha
  have h0 : E env 0 = _ := ha 0 _ rfl
  have h1 : E env 1 = _ := ha 1 _ rfl
  have h2 : E env 2 = _ := ha 2 _ rfl
  have h3 : E env 3 = _ := ha 3 _ rfl
  have hlen : elen env = _ := hlen
  simp only [a14] at hlen
  unfold a14
  try dsimp only [oO, oG]
  have q1 := q_check2 false hd hv hL4
  rw [hc] at q1
  have n00 : ((0 : Int) = 0) = True := eq_true rfl
  have zw0 := eq_false (show ¬ (w : Int) < 0 by omega)
  have zlen := eq_false (show ¬ (L.length : Int) < (w : Int) by omega)
  have hL := hv.len
  have y1 := eq_false (show ¬ (m : Int) < 0 by omega)
  have hKA : Keep s (s.push (.row [.int .i64 0, .nils] true)) := (Keep.refl s).push _
  by_cases hlt : w < L.length
  · have zlt := eq_true (show (w : Int) < (L.length : Int) by omega)
    obtain ⟨x, hx⟩ := getsome hlt
    have hnx : nxt L w = x := by unfold nxt; rw [hx]; rfl
    obtain ⟨st, ib, ob, ⟨i1, hcb⟩, hl⟩ := hv.at hx
    obtain ⟨a1, _, _, a4, hrd0⟩ := hl (s.push (.row [.int .i64 0, .nils] true)) (hKA.chg _)
    have ho := read_oneB hrd0
    have hst := sto_bw (show sameN s.next s from rfl) (b := x.1) ho
    rw [← hnx] at hst a1
    have hKT : Keep s (s.lowed.push (.row [.int .i64 (nxt L w).1, st] true)) := (Keep.refl s).lowed.push _
    have hgb : (s.lowed.push (.row [.int .i64 (nxt L w).1, st] true)).get s.next = some (.row [.int .i64 (nxt L w).1, st] true) := St.get_push_new s.lowed _
    have hrT : ∀ t, Chg [j] (s.lowed.push (.row [.int .i64 (nxt L w).1, st] true)) t → read byC t st = some (nxt L w).2 := fun t q => by
      rw [hnx]
      exact (hl t ((hKT.chg [j]).trans q fun id hid => .inl hid)).2.2.2.2
    have hrd := hrT _ (Chg.refl _ _)
    obtain ⟨e0_, e1_, elt⟩ := row2_lod hgb
    have hLs := lenV_read hrd
    have y2 := eq_false (show ¬ ((nxt L w).2.length : Int) < (m : Int) by omega)
    obtain ⟨v', sl1, hv'⟩ := hv.take hw
    have hCT : Chg [j] s (s.lowed.push (.row [.int .i64 (nxt L w).1, st] true)) := hKT.chg _
    have hdT := hd.keep hKT
    have hft := checkP_fits hc
    obtain ⟨t1, q2, hd1, hC1⟩ := q_run2 hdT (hv'.chg hCT) (by rw [List.length_take]; omega) hft.take
    have hgj := St.get_lt hd.dat
    have hgb1 : t1.get s.next = some (.row [.int .i64 (nxt L w).1, st] true) := hC1.blk hgb (by simp; omega)
    have hKR : Keep t1 (t1.reserve 1) := keep_reserve t1 1
    obtain ⟨r0_, r1_, rlt⟩ := row2_lod (hKR.blk hgb1)
    have hr1 := hrT t1 hC1
    obtain ⟨st', sl2, hst', o1, o2, hcb'⟩ := slc_cap hr1 hcb hm
    have fb0 := fstep_bw0 (x := .int .i64 (nxt L w).1) ⟨rfl, rfl⟩ (.int .i64 0) .nils
    have fb1 := fstep_bw1 (x := st') ⟨o1, o2⟩ (.int .i64 (nxt L w).1) .nils
    have fb2 : ∀ K : List AV → Option (List AV), fstep [.int .i64 0, .nils] 0 2 (.agg [.int .i64 (nxt L w).1, st']) K = K [.int .i64 (nxt L w).1, st'] := fun K => by
      have hi : (AV.int .i64 (nxt L w).1).one = true := rfl
      simp only [fstep, AV.cells, List.all_cons, hi, o2, List.all_nil]
      rfl
    have hbs : bslV [.int .i64 0, .nils] 1 2 [(0, .agg [.int .i64 (nxt L w).1, st'])] = some (fun id => .sl id 0 1 (some 1) 2, .row [.int .i64 (nxt L w).1, st'] true) := by
      have hi : (AV.int .i64 (nxt L w).1).one = true := rfl
      simp only [bslV, List.map_cons, List.map_nil, fillP_cons, aev_c', fb2, fillP_nil, Nat.zero_mul]
      rfl
    have hKp : Keep t1 (t1.push (.row [.int .i64 (nxt L w).1, st'] true)) := (Keep.refl t1).push _
    have hBp : BwJ j (t1.push (.row [.int .i64 (nxt L w).1, st'] true)) (.sl t1.next 0 1 (some 1) 2) [((nxt L w).1, (nxt L w).2.take m)] := by
      have hgp : (t1.push (.row [.int .i64 (nxt L w).1, st'] true)).get t1.next = some (.row [.int .i64 (nxt L w).1, st'] true) := St.get_push_new _ _
      have hltn := St.get_lt hd1.dat
      refine .inr ⟨t1.next, 0, some 1, rfl, fun c q => by injection q with q; simp; omega, fun i x hx => ?_⟩
      have : i = 0 := by have := getlt hx; simpa using this
      subst this
      injection hx with hx
      subst hx
      refine ⟨st', hcb', fun t q => ?_⟩
      have hgq := q.blk hgp (by simp; omega)
      refine ⟨by simp [lod, hgq], by simp [lod1, hgq], by simp [lod1, hgq], St.get_lt hgq, ?_⟩
      have hct : Chg [j] (s.lowed.push (.row [.int .i64 (nxt L w).1, st] true)) t := (hC1.trans (hKp.chg []) (by simp)).trans q fun id hid => .inl hid
      obtain ⟨v2, e, h2, _⟩ := slc_cap (hrT t hct) hcb hm
      rw [sl2] at e
      injection e with e
      subst e
      exact h2 t (.refl t)
    have hln := wrL_len (z := z) (L := L.take w) (l := l) hft.take
    have hnl1 : (nxt L w).1 = 0 ∧ (nxt L w).2 = [] ∨ ∃ x ∈ L, nxt L w = x := by
      unfold nxt
      cases hx : L[w]? with
      | none => exact .inl ⟨rfl, rfl⟩
      | some x => exact .inr ⟨x, List.mem_of_getElem? hx, rfl⟩
    have hft2 : Fits ((wrL z l (L.take w)).length / z) z [((nxt L w).1, (nxt L w).2.take m)] := by
      intro y hy
      simp only [List.mem_singleton] at hy
      subst hy
      rw [hln]
      simp only [List.length_take]
      rcases hnl1 with ⟨e1, e2⟩ | ⟨x, hx, e⟩
      · rw [e1, e2]
        exact ⟨Int.le_refl _, by omega, by simp⟩
      · obtain ⟨f1, f2, f3⟩ := hft x hx
        rw [e]
        exact ⟨f1, f2, by omega⟩
    obtain ⟨t2, q3, hd2, hC2⟩ := q_run2 (hd1.keep hKp) hBp (by simp) hft2
    have hwr : wrL z (wrL z l (L.take w)) [((nxt L w).1, (nxt L w).2.take m)] = wrL z l (crL L w m) := by
      unfold wrL crL
      rw [List.foldl_append]
    rw [hwr] at hd2
    have hCall : Chg [j] s t2 := (((hCT.trans hC1 fun id hid => .inl hid).trans (hKp.chg []) (by simp)).trans hC2 fun id hid => .inl hid)
    simp (config := {contextual := true, maxDischargeDepth := 12}) only [tb_at, h0, h1, h2, h3, hlen, q1, n00, zw0, zlen, hL, y1, e0_, e1_, elt, hLs, y2, sl1, q2, r0_, r1_, rlt, sl2, ap_build, fillP_nil, fillP_cons, fb0, fb1, fb2, hbs, q3, decide_true, decide_false, bin_eql, notV_bool, Bool.not_true, reserve0, zlt, i1, a1, a4, hst, ↓bD, bU, forall_const, bS, implies_true, isNx, eq_self, ↓wp_cond, ↓wp_loop, ↓reduceIte, reduceCtorEq, Nat.reduceEqDiff, Nat.reduceLT, Nat.reduceAdd, Nat.reduceMul, bT, ↓sg_bsl, ↓st_callf, bX, ar_b2s, bin_mulE, ap_mkfn, ↓wi_seq, ↓wi_base, ↓wi_block, ↓wi_cond, ↓wi_loop, ↓wi_rf, ↓wy_seq, ↓wy_base, ↓wy_block, ↓wy_cond, ↓wy_loop, ↓wy_yld, q_known, ↓sg_callf3]
    first | exact ⟨_, rfl, rfl, hd2, hCall⟩ | exact ⟨rfl, hd2, hCall⟩ | exact ⟨hd2, hCall⟩
  · have zlt := eq_false (show ¬ (w : Int) < (L.length : Int) by omega)
    obtain ⟨st, hst0⟩ : ∃ st, st = AV.nils := ⟨_, rfl⟩
    have hnx : nxt L w = (0, []) := by unfold nxt; rw [List.getElem?_eq_none (by omega)]; rfl
    have hcb : CapB st := by rw [hst0]; exact CapB.nils
    have hKT := hKA
    have hgb : (s.push (.row [.int .i64 0, .nils] true)).get s.next = some (.row [.int .i64 (nxt L w).1, st] true) := by rw [hnx, hst0]; exact St.get_push_new s _
    have hrT : ∀ t, Chg [j] (s.push (.row [.int .i64 0, .nils] true)) t → read byC t st = some (nxt L w).2 := fun t q => by rw [hnx, hst0]; rfl
    have hrd := hrT _ (Chg.refl _ _)
    obtain ⟨e0_, e1_, elt⟩ := row2_lod hgb
    have hLs := lenV_read hrd
    have y2 := eq_false (show ¬ ((nxt L w).2.length : Int) < (m : Int) by omega)
    obtain ⟨v', sl1, hv'⟩ := hv.take hw
    have hCT : Chg [j] s (s.push (.row [.int .i64 0, .nils] true)) := hKT.chg _
    have hdT := hd.keep hKT
    have hft := checkP_fits hc
    obtain ⟨t1, q2, hd1, hC1⟩ := q_run2 hdT (hv'.chg hCT) (by rw [List.length_take]; omega) hft.take
    have hgj := St.get_lt hd.dat
    have hgb1 : t1.get s.next = some (.row [.int .i64 (nxt L w).1, st] true) := hC1.blk hgb (by simp; omega)
    have hKR : Keep t1 (t1.reserve 1) := keep_reserve t1 1
    obtain ⟨r0_, r1_, rlt⟩ := row2_lod (hKR.blk hgb1)
    have hr1 := hrT t1 hC1
    obtain ⟨st', sl2, hst', o1, o2, hcb'⟩ := slc_cap hr1 hcb hm
    have fb0 := fstep_bw0 (x := .int .i64 (nxt L w).1) ⟨rfl, rfl⟩ (.int .i64 0) .nils
    have fb1 := fstep_bw1 (x := st') ⟨o1, o2⟩ (.int .i64 (nxt L w).1) .nils
    have fb2 : ∀ K : List AV → Option (List AV), fstep [.int .i64 0, .nils] 0 2 (.agg [.int .i64 (nxt L w).1, st']) K = K [.int .i64 (nxt L w).1, st'] := fun K => by
      have hi : (AV.int .i64 (nxt L w).1).one = true := rfl
      simp only [fstep, AV.cells, List.all_cons, hi, o2, List.all_nil]
      rfl
    have hbs : bslV [.int .i64 0, .nils] 1 2 [(0, .agg [.int .i64 (nxt L w).1, st'])] = some (fun id => .sl id 0 1 (some 1) 2, .row [.int .i64 (nxt L w).1, st'] true) := by
      have hi : (AV.int .i64 (nxt L w).1).one = true := rfl
      simp only [bslV, List.map_cons, List.map_nil, fillP_cons, aev_c', fb2, fillP_nil, Nat.zero_mul]
      rfl
    have hKp : Keep t1 (t1.push (.row [.int .i64 (nxt L w).1, st'] true)) := (Keep.refl t1).push _
    have hBp : BwJ j (t1.push (.row [.int .i64 (nxt L w).1, st'] true)) (.sl t1.next 0 1 (some 1) 2) [((nxt L w).1, (nxt L w).2.take m)] := by
      have hgp : (t1.push (.row [.int .i64 (nxt L w).1, st'] true)).get t1.next = some (.row [.int .i64 (nxt L w).1, st'] true) := St.get_push_new _ _
      have hltn := St.get_lt hd1.dat
      refine .inr ⟨t1.next, 0, some 1, rfl, fun c q => by injection q with q; simp; omega, fun i x hx => ?_⟩
      have : i = 0 := by have := getlt hx; simpa using this
      subst this
      injection hx with hx
      subst hx
      refine ⟨st', hcb', fun t q => ?_⟩
      have hgq := q.blk hgp (by simp; omega)
      refine ⟨by simp [lod, hgq], by simp [lod1, hgq], by simp [lod1, hgq], St.get_lt hgq, ?_⟩
      have hct : Chg [j] (s.push (.row [.int .i64 0, .nils] true)) t := (hC1.trans (hKp.chg []) (by simp)).trans q fun id hid => .inl hid
      obtain ⟨v2, e, h2, _⟩ := slc_cap (hrT t hct) hcb hm
      rw [sl2] at e
      injection e with e
      subst e
      exact h2 t (.refl t)
    have hln := wrL_len (z := z) (L := L.take w) (l := l) hft.take
    have hnl1 : (nxt L w).1 = 0 ∧ (nxt L w).2 = [] ∨ ∃ x ∈ L, nxt L w = x := by
      unfold nxt
      cases hx : L[w]? with
      | none => exact .inl ⟨rfl, rfl⟩
      | some x => exact .inr ⟨x, List.mem_of_getElem? hx, rfl⟩
    have hft2 : Fits ((wrL z l (L.take w)).length / z) z [((nxt L w).1, (nxt L w).2.take m)] := by
      intro y hy
      simp only [List.mem_singleton] at hy
      subst hy
      rw [hln]
      simp only [List.length_take]
      rcases hnl1 with ⟨e1, e2⟩ | ⟨x, hx, e⟩
      · rw [e1, e2]
        exact ⟨Int.le_refl _, by omega, by simp⟩
      · obtain ⟨f1, f2, f3⟩ := hft x hx
        rw [e]
        exact ⟨f1, f2, by omega⟩
    obtain ⟨t2, q3, hd2, hC2⟩ := q_run2 (hd1.keep hKp) hBp (by simp) hft2
    have hwr : wrL z (wrL z l (L.take w)) [((nxt L w).1, (nxt L w).2.take m)] = wrL z l (crL L w m) := by
      unfold wrL crL
      rw [List.foldl_append]
    rw [hwr] at hd2
    have hCall : Chg [j] s t2 := (((hCT.trans hC1 fun id hid => .inl hid).trans (hKp.chg []) (by simp)).trans hC2 fun id hid => .inl hid)
    simp (config := {contextual := true, maxDischargeDepth := 12}) only [tb_at, h0, h1, h2, h3, hlen, q1, n00, zw0, zlen, hL, y1, e0_, e1_, elt, hLs, y2, sl1, q2, r0_, r1_, rlt, sl2, ap_build, fillP_nil, fillP_cons, fb0, fb1, fb2, hbs, q3, decide_true, decide_false, bin_eql, notV_bool, Bool.not_true, reserve0, zlt, ↓bD, bU, forall_const, bS, implies_true, isNx, eq_self, ↓wp_cond, ↓wp_loop, ↓reduceIte, reduceCtorEq, Nat.reduceEqDiff, Nat.reduceLT, Nat.reduceAdd, Nat.reduceMul, bT, ↓sg_bsl, ↓st_callf, bX, ar_b2s, bin_mulE, ap_mkfn, ↓wi_seq, ↓wi_base, ↓wi_block, ↓wi_cond, ↓wi_loop, ↓wi_rf, ↓wy_seq, ↓wy_base, ↓wy_block, ↓wy_cond, ↓wy_loop, ↓wy_yld, q_known, ↓sg_callf3]
    first | exact ⟨_, rfl, rfl, hd2, hCall⟩ | exact ⟨rfl, hd2, hCall⟩ | exact ⟨hd2, hCall⟩
theorem q_Crash2 {s : St} {id j z : Nat} {cap : Option Nat} {l : List UInt8} (hd : DkR s id j cap z l) {v : AV} {L : List (Int × List UInt8)} (hv : BwJ j s v L) (hL4 : L.length ≤ 4000000) (hc : checkP (l.length / z) z L = 0) {w m : Nat} (hw : w ≤ L.length) (hm : m ≤ (nxt L w).2.length) (hn0 : 0 < l.length / z) : ∃ t, acall R_Crash2 false [.ptr id 0, v, .int .i64 (w : Int), .int .i64 (m : Int)] s = some (.int .i64 0, t) ∧ DkR t id j cap z (wrL z l (crL L w m)) ∧ Chg [j] s t := by
  obtain ⟨r, t, h1, rfl, h2, h3⟩ := run_awp n_Crash2 (args := [.ptr id 0, v, .int .i64 (w : Int), .int .i64 (m : Int)]) (by simp [a14]) (w_Crash2 (s := lowd s) hd.low hv.low hL4 hc hw hm hn0)
  obtain ⟨t', g1, g2, _, g4⟩ := run_chg s_Crash2 h1 h3
  have i1 := St.get_lt hd.box
  have i2 := St.get_lt hd.dat
  exact ⟨t', g1, ⟨by rw [g2 _ i1]; exact h2.box, by rw [g2 _ i2]; exact h2.dat, h2.hcap, h2.pos, h2.len⟩, g4⟩

end Go.AM
end
/-
  Plain laws of split block writes: what they make, a crash in between. Own work of this project.
-/
section
namespace Go.AM
open Go Go.Proofs

/-- Bytes laid over others. -/
def putD (l : List UInt8) (o : Nat) (d : List UInt8) : List UInt8 := l.take o ++ d ++ l.drop (o + d.length)
theorem putD_nil {l : List UInt8} {o : Nat} : putD l o [] = l := by
  unfold putD
  simp
theorem fits_chk {n z : Nat} : ∀ {L : List (Int × List UInt8)}, Fits n z L → chkL n z L = 0
  | [], _ => rfl
  | x :: r, h => by
    obtain ⟨h1, h2, h3⟩ := h x (by simp)
    unfold chkL
    rw [if_neg (by omega), if_neg (by omega)]
    exact fits_chk fun y hy => h y (by simp [hy])
end Go.AM
end
/-
  Split's answer as block writes. Own work of this project; in part printed by a program of it.
-/
section
set_option maxRecDepth 100000
set_option maxHeartbeats 8000000
namespace Go.AM
open Go Go.Proofs

variable {s t u : St}

/-- What Split answers: two new blocks, or nil. -/
def SpL (t : St) (b : Nat) (lv : AV) (k z : Nat) (d : List UInt8) : Prop := (d = [] ∧ lv = .nils) ∨ (d ≠ [] ∧ lv = .sl (b + 1) 0 (chunksN z d.length) none 2 ∧ t.get b = some (.row (byC.cells d) true) ∧ t.get (b + 1) = some (.row (bwL (k : Int) z d.length (chunksN z d.length) b) true))
theorem SpL.mono {b k z : Nat} {lv : AV} {d : List UInt8} (h : SpL t b lv k z d) (g : ∀ id bl, id = b ∨ id = b + 1 → t.get id = some bl → u.get id = some bl) : SpL u b lv k z d := h.imp (fun q => q) fun ⟨h1, h2, h3, h4⟩ => ⟨h1, h2, g _ _ (.inl rfl) h3, g _ _ (.inr rfl) h4⟩
theorem take2 {l : List AV} {p : Nat} {a b : AV} (h0 : l[p]? = some a) (h1 : l[p + 1]? = some b) : (l.drop p).take 2 = [a, b] := by
  obtain ⟨q0, e0⟩ := List.getElem?_eq_some_iff.1 h0
  obtain ⟨q1, e1⟩ := List.getElem?_eq_some_iff.1 h1
  rw [List.drop_eq_getElem_cons q0, List.drop_eq_getElem_cons q1, e0, e1]
  rfl
theorem NewB.from {s0 : St} {v : AV} {l : List UInt8} (h : NewB s t v l) (k : s0.next ≤ s.next) : NewB s0 t v l := h.imp (fun q => q) fun ⟨j, cap, e, h1, h2, h3⟩ => ⟨j, cap, e, Nat.le_trans k h1, h2, h3⟩
/-- A new list of bytes is as it was, whatever older or younger block is written. -/
theorem NewB.chg {j : Nat} {v : AV} {l : List UInt8} (h : NewB s t v l) (hj : j < s.next) (q : Chg [j] t u) : NewB s u v l := h.imp (fun q => q) fun ⟨i, cap, e, h1, h2, h3⟩ => ⟨i, cap, e, h1, q.blk h2 (by simp; omega), h3⟩
end Go.AM
end
/-
  DiskNew. Own work of this project; in part printed by a program of it.
-/
section
set_option maxRecDepth 100000
set_option maxHeartbeats 8000000
namespace Go.AM
open Go Go.Proofs

variable {s t u : St}
noncomputable def R_New : Con := runFn (tb []) a8
theorem s_New : SoundAt Try.prog 8 R_New := run_sound (tb_sound (l := []) (by simp)) mixed Try.func8 k8 c8
theorem n_New : noNxtC a8.body = true := by kernel_rfl
end Go.AM
end
