/-
  Ranges over functions, the second part: code with such statements, what holds behind it, and its soundness. Own work of this project.
-/
import Derived.Test.YtmgfhkkcgdagpaaP2
import Derived.Test.YtmgfhkkcgdagpaaProg
import Derived.KernelRfl
import Derived.ProofKit
import Derived.Carry
import Derived.Deep.Slices
import Derived.HandedShaped
import Derived.OpenShut
set_option linter.unusedVariables false
set_option linter.unusedSimpArgs false
section
namespace Go.AM
open Go

/-- An iterator's code: regions in which yield is called stand apart. -/
inductive AY where
  | base (c : AC)
  | seq (a b : AY)
  | cond (c : AO) (a b : AY)
  | block (id : Nat) (c : AY)
  | loop (c : AY)
  | yld (pre : List AOper) (dst : Option Nat) (x : AO) (args : List AO) (post : List AOper)
/-- A function's code. 'rf': the function that is ranged over, yield's parameters, the assignment, the body; the iterators that may come up: number, temporaries, code. -/
inductive AI where
  | base (c : AC)
  | seq (a b : AI)
  | cond (c : AO) (a b : AI)
  | block (id : Nat) (c : AI)
  | loop (c : AI)
  | rf (g : AO) (ps : List Nat) (asg body : AC) (its : List (Nat × Nat × AY))
structure AFnI where
  ntmps : Nat
  results : List AR
  body : AI

def splitY : List AOper → Option (List AOper × Option Nat × AO × List AO × List AOper)
  | [] => none
  | o :: r => match o.op, o.guard with
    | .callv x false args, none => some ([], o.dst, x, args, r)
    | _, _ => (splitY r).map fun (a, d, x, args, b) => (o :: a, d, x, args, b)
variable (P : Program) in
def ccodeY : Code → AY
  | .seq a b => .seq (ccodeY a) (ccodeY b)
  | .cond c a b => if (copd c).ok then .cond (copd c) (ccodeY a) (ccodeY b) else .base .bad
  | .block id c => .block id (ccodeY c)
  | .loop c => .loop (ccodeY c)
  | .region id ops false => match cregP P ops ops.toList with
    | some l => match splitY l with
      | some (a, d, x, args, b) => .yld a d x args b
      | none => .base (ccode P (.region id ops false))
    | none => .base .bad
  | c => .base (ccode P c)
def hasRf : Code → Bool
  | .rangeFunc .. => true
  | .seq a b | .cond _ a b => hasRf a || hasRf b
  | .block _ c | .loop c => hasRf c
  | _ => false
variable (P : Program) (its : List Nat) in
def iters : List (Nat × Nat × AY) := its.filterMap fun f => match P.funcs[f]? with
  | some fn => if callable P f && fn.results.size == 0 then fn.body.map fun c => (f, fn.ntmps, ccodeY P c) else none
  | none => none
variable (P : Program) (its : List Nat) in
def ccodeI : Code → AI
  | .rangeFunc g ps asg body => if (copd g).ok && noDefer asg && noDefer body then .rf (copd g) ps.toList (ccode P asg) (ccode P body) (iters P its) else .base .bad
  | .seq a b => if hasRf a || hasRf b then .seq (ccodeI a) (ccodeI b) else .base (ccode P (.seq a b))
  | .cond c a b => if hasRf a || hasRf b then (if (copd c).ok then .cond (copd c) (ccodeI a) (ccodeI b) else .base .bad) else .base (ccode P (.cond c a b))
  | .block id c => if hasRf c then .block id (ccodeI c) else .base (ccode P (.block id c))
  | .loop c => if hasRf c then .loop (ccodeI c) else .base (ccode P (.loop c))
  | c => .base (ccode P c)
def cfnI (P : Program) (its : List Nat) (fn : Func) : Option AFnI :=
  match fn.body, cres P fn.results.toList with
  | some c, some rs => some { ntmps := fn.ntmps, results := rs, body := ccodeI P its c }
  | _, _ => none

def setPs (env : Env) : List Nat → List AV → Env
  | p :: ps, v :: vs => setPs (env.set p v) ps vs
  | _, _ => env
abbrev YP := Option AEx
def aroundsY (body : YP → (YP → AEx → Env → St → Prop) → Env → St → Prop) (Q : YP → AEx → Env → St → Prop) : Nat → YP → Env → St → Prop
  | 0, _, _, _ => False
  | n + 1, p, env, s => body p (fun p x e t => match x with
    | .nor => aroundsY body Q n p e t
    | x => Q p x e t) env s
/-- What holds behind an iterator's code; 'p': how a round has left the statement, if one has. -/
def awpY (call : Nat → List AV → St → Option (AV × St)) (yv : AV) (Yd : List AV → (YP → AV → St → Prop) → St → Prop) : AY → YP → (YP → AEx → Env → St → Prop) → Env → St → Prop
  | .base c, p, Q, env, s => awp call c (Q p) env s
  | .seq a b, p, Q, env, s => awpY call yv Yd a p (fun p x e t => match x with
    | .nor => awpY call yv Yd b p Q e t
    | x => Q p x e t) env s
  | .cond c a b, p, Q, env, s => match aev env c with
    | .bool true => awpY call yv Yd a p Q env s
    | .bool false => awpY call yv Yd b p Q env s
    | _ => False
  | .block id c, p, Q, env, s => awpY call yv Yd c p (fun p x e t => match x with
    | .exit i => if i = id then Q p .nor e t else Q p (.exit i) e t
    | x => Q p x e t) env s
  | .loop c, p, Q, env, s => ∃ n, aroundsY (awpY call yv Yd c) Q n p env s
  | .yld pre dst x args post, p, Q, env, s => awops call s.next pre (fun e t => aev e x = yv ∧ p = none ∧ Yd (args.map (aev e)) (fun p' v t' => awops call t'.next post (Q p' .nor) (putE e dst v) t') t) env s
/-- A round. -/
def roundY (call : Nat → List AV → St → Option (AV × St)) (ps : List Nat) (asg body : AC) (env : Env) (args : List AV) (K : YP → AV → St → Prop) (t : St) : Prop :=
  args.length = ps.length ∧ awp call asg (fun x e t1 => x = .nor ∧ awp call body (fun x _ t2 => match x with
    | .nor => K none (.bool true) t2
    | x => K (some x) (.bool false) t2) e t1) (setPs env ps args) t
def findI (f : Nat) : List (Nat × Nat × AY) → Option (Nat × AY)
  | [] => none
  | (g, n, y) :: r => if f = g then some (n, y) else findI f r
def awpI (call : Nat → List AV → St → Option (AV × St)) : AI → (AEx → Env → St → Prop) → Env → St → Prop
  | .base c, Q, env, s => awp call c Q env s
  | .seq a b, Q, env, s => awpI call a (fun x e t => match x with
    | .nor => awpI call b Q e t
    | x => Q x e t) env s
  | .cond c a b, Q, env, s => match aev env c with
    | .bool true => awpI call a Q env s
    | .bool false => awpI call b Q env s
    | _ => False
  | .block id c, Q, env, s => awpI call c (fun x e t => match x with
    | .exit i => if i = id then Q .nor e t else Q (.exit i) e t
    | x => Q x e t) env s
  | .loop c, Q, env, s => ∃ n, arounds (awpI call c) Q n env s
  | .rf g ps asg body its, Q, env, s => match aev env g with
    | .fn f caps => match findI f its with
      | some (n, y) => ∀ l, awpY call (.yd l) (roundY call ps asg body env) y none (fun p x _ t => (∀ i, x ≠ .exit i) ∧ match p with
          | none => Q .nor env t
          | some x => Q x env t) ((.yd l :: caps) ++ List.replicate (n - (AV.yd l :: caps).length) .und) s
      | none => False
    | _ => False

variable {P : Program} {ρ : Ren}

/-! ### Blocks that no abstract block stands for -/
def isSys : Obj → Bool
  | .loop _ | .deferred _ => true
  | _ => false
theorem sys_ne {s : St} {w : World} (hR : R s ρ w) {id : Nat} {L : Loc} {b : AB} (hL : ρ id = some L) (hg : s.get id = some b) (hb : b.live = true) {k : Nat} {o : Obj} (ho : w.heap[k]? = some o) (hs : isSys o = true) : L.b ≠ k := by
  rintro rfl
  have h := hR.blk id b L hg hL
  cases b <;> simp [AB.live] at hb <;> simp only [BlkOk] at h
  · obtain ⟨cs, e, fr, h1, _⟩ := h
    rw [ho] at h1; injection h1 with h1; subst h1; cases hs
  · obtain ⟨ces, h1, _⟩ := h
    rw [ho] at h1; injection h1 with h1; subst h1; cases hs
  · obtain ⟨m', h1, _⟩ := h
    rw [ho] at h1; injection h1 with h1; subst h1; cases hs
theorem Step.sys {s s' : St} {ρ' : Ren} {w w' : World} (h : Step s s' ρ ρ' w w') (hR : R s ρ w) {k : Nat} {o : Obj} (ho : w.heap[k]? = some o) (hs : isSys o = true) : w'.heap[k]? = some o := by
  rw [h.frame k (Array.getElem?_eq_some_iff.1 ho).1 fun id L b _ hL hg hb => sys_ne hR hL hg (AB.live_of_owned hb) ho hs]
  exact ho
theorem R.sys {s : St} {w : World} (hR : R s ρ w) {k : Nat} {o : Obj} (ho : w.heap[k]? = some o) (hs : isSys o = true) (o' : Obj) : R s ρ (w.putObj k o') := by
  refine ⟨fun id L hL => by rw [World.putObj_size]; exact hR.bound id L hL, fun id b L hg hL => ?_, hR.inj⟩
  have h := hR.blk id b L hg hL
  cases hb : b.live
  · cases b <;> simp [AB.live] at hb <;> exact trivial
  · exact h.same (World.putObj_heap_other (sys_ne hR hL hg hb ho hs))
theorem putObj_self {w : World} {k : Nat} {o : Obj} (h : w.heap[k]? = some o) : w.putObj k o = w := by
  have : w.heap.setIfInBounds k o = w.heap := by
    apply Array.ext_getElem?
    intro i
    by_cases hi : i = k
    · subst hi
      rw [Array.getElem?_setIfInBounds_self_of_lt (Array.getElem?_eq_some_iff.1 h).1, h]
    · rw [Array.getElem?_setIfInBounds_ne (Ne.symm hi)]
  unfold World.putObj
  rw [this]
theorem putObj_put (w : World) (k : Nat) (a b : Obj) : (w.putObj k a).putObj k b = w.putObj k b := by
  unfold World.putObj
  simp
theorem putObj_at {w : World} {k : Nat} {o o' : Obj} (h : w.heap[k]? = some o') : (w.putObj k o).heap[k]? = some o := World.putObj_heap_same (Array.getElem?_eq_some_iff.1 h).1
/-- The same step, told of the world in which the record lies as it lay. -/
theorem Step.reloop {s s' : St} {ρ' : Ren} {G W W' : World} {k : Nat} {o o0 : Obj} (h : Step s s' ρ ρ' W W') (hW : W = G.putObj k o) (hG : G.heap[k]? = some o0) : Step s s' ρ ρ' G (W'.putObj k o0) := by
  subst hW
  have hsz := h.size
  rw [World.putObj_size] at hsz
  have hk : k < W'.heap.size := Nat.lt_of_lt_of_le (Array.getElem?_eq_some_iff.1 hG).1 hsz
  refine ⟨h.next, h.low, h.ren, by rw [World.putObj_size]; exact hsz, h.os, h.tape, h.output, h.drawn, fun b hb H => ?_, h.old, fun id L b h1 h2 h3 h4 => by have := h.new id L b h1 h2 h3 h4; rwa [World.putObj_size] at this, h.unm⟩
  by_cases hbk : b = k
  · subst hbk
    rw [World.putObj_heap_same hk, hG]
  · rw [World.putObj_heap_other hbk, h.frame b (by rw [World.putObj_size]; exact hb) H, World.putObj_heap_other hbk]
/-- A block laid since. -/
theorem Step.putNew {s s' : St} {ρ' : Ren} {w w' : World} (h : Step s s' ρ ρ' w w') {k : Nat} (hk : w.heap.size ≤ k) (o : Obj) : Step s s' ρ ρ' w (w'.putObj k o) :=
  ⟨h.next, h.low, h.ren, by rw [World.putObj_size]; exact h.size, h.os, h.tape, h.output, h.drawn, fun b hb H => by rw [World.putObj_heap_other (by omega)]; exact h.frame b hb H, h.old, h.new, h.unm⟩
theorem lift_loop {s : St} {G W : World} {k : Nat} {o o0 : Obj} (hW : W = G.putObj k o) (hG : G.heap[k]? = some o0) (h0 : isSys o0 = true) (ho : isSys o = true) (hR : R s ρ G) : R s ρ W ∧ ∀ s' ρ' W', Step s s' ρ ρ' W W' → R s' ρ' W' →
    ∃ G', Step s s' ρ ρ' G G' ∧ W' = G'.putObj k o ∧ G'.heap[k]? = some o0 ∧ R s' ρ' G' := by
  have hRW : R s ρ W := by rw [hW]; exact hR.sys hG h0 o
  refine ⟨hRW, fun s' ρ' W' hst hR' => ?_⟩
  have hat : W.heap[k]? = some o := by rw [hW]; exact putObj_at hG
  have hat' := hst.sys hRW hat ho
  exact ⟨W'.putObj k o0, hst.reloop hW hG, by rw [putObj_put, putObj_self hat'], putObj_at hat', hR'.sys hat' ho o0⟩

theorem EnvR.sets : ∀ {ps : List Nat} {vs : List AV} {cs : List Value} {env : Env} {tmps : Array Value}, EnvR ρ env tmps → VRs ρ vs cs → EnvR ρ (setPs env ps vs) ((ps.zip cs).foldl (fun t (x : Nat × Value) => t.setIfInBounds x.1 x.2) tmps)
  | [], vs, cs, env, tmps, h, _ => by
    cases vs <;> simpa [setPs] using h
  | p :: ps, [], cs, env, tmps, h, k => by
    simp only [VRs] at k; subst k
    simpa [setPs] using h
  | p :: ps, v :: vs, cs, env, tmps, h, k => by
    simp only [VRs] at k
    obtain ⟨c, r, rfl, h1, h2⟩ := k
    have h3 : EnvR ρ (putE env (some p) v) (({ tmps := tmps, defers := [] } : Act).put (some p) c).tmps := EnvR.put (a := { tmps := tmps, defers := [] }) h h1 (some p)
    exact EnvR.sets (ps := ps) h3 h2
theorem zip_fold (ps : List Nat) (cs : List Value) (tmps : Array Value) : (ps.toArray.zip cs.toArray).foldl (fun t (x : Nat × Value) => t.setIfInBounds x.1 x.2) tmps = (ps.zip cs).foldl (fun t (x : Nat × Value) => t.setIfInBounds x.1 x.2) tmps := by
  rw [List.zip_toArray, List.foldl_toArray]
end Go.AM
end
/-
  Ranges over functions, the third part: soundness. Own work of this project.
-/
section
namespace Go.AM
open Go

variable {P : Program} {ρ : Ren} {n : Nat}

theorem splitY_spec : ∀ {l pre post : List AOper} {d : Option Nat} {x : AO} {args : List AO}, splitY l = some (pre, d, x, args, post) → ∃ o, l = pre ++ o :: post ∧ o.dst = d ∧ o.op = .callv x false args ∧ o.guard = none
  | [], _, _, _, _, _, h => by simp [splitY] at h
  | o :: r, pre, post, d, x, args, h => by
    unfold splitY at h
    split at h
    · rename_i x' args' h1 h2
      simp only [Option.some.injEq, Prod.mk.injEq] at h
      obtain ⟨rfl, rfl, rfl, rfl, rfl⟩ := h
      exact ⟨o, rfl, rfl, h1, h2⟩
    · obtain ⟨⟨a, d', x', args', b⟩, h1, h2⟩ := Option.map_eq_some_iff.1 h
      simp only [Prod.mk.injEq] at h2
      obtain ⟨rfl, rfl, rfl, rfl, rfl⟩ := h2
      obtain ⟨o', rfl, h3⟩ := splitY_spec h1
      exact ⟨o', rfl, h3⟩
theorem cregP_split {ops : Array Oper} : ∀ {pre post : List AOper} {ao : AOper} {os : List Oper}, cregP P ops os = some (pre ++ ao :: post) → ∃ os1 o os2, os = os1 ++ o :: os2 ∧ cregP P ops os1 = some pre ∧ cregP P ops os2 = some post ∧ guardOf ops o = some ao.guard ∧ ao.op = cop P false o.op ∧ ao.dst = o.dst
  | pre, post, ao, [], h => by
    simp only [cregP] at h
    injection h with h
    cases pre <;> cases h
  | pre, post, ao, o :: os, h => by
    simp only [cregP] at h
    split at h
    · rename_i g l' hg hl
      injection h with h
      cases pre with
      | nil =>
        simp only [List.nil_append] at h
        obtain ⟨h1, h2⟩ := List.cons.inj h
        subst h1; subst h2
        exact ⟨[], o, os, rfl, rfl, hl, hg, rfl, rfl⟩
      | cons p pre =>
        simp only [List.cons_append] at h
        obtain ⟨h1, h2⟩ := List.cons.inj h
        subst h1; subst h2
        obtain ⟨os1, o', os2, rfl, e1, e2, e3⟩ := cregP_split hl
        refine ⟨o :: os1, o', os2, rfl, ?_, e2, e3⟩
        simp only [cregP, hg, e1]
    · cases h

theorem exec_yield {o : Oper} {a : Act} {c : Call} (hop : o.op = .call c) {x : Operand} (hc : c.callee = .value x) {l : Nat} (hx : a.eval x = .func (.yield l) #[] #[]) (w : World) :
    (execOp a.eval o).run P w = (Instr.yield l (c.args.toList.map a.eval).toArray).run P w := by
  obtain ⟨callee, args, argTypes⟩ := c
  simp only at hc
  subst hc
  have : (args.map a.eval) = (args.toList.map a.eval).toArray := by apply Array.ext'; simp
  simp [execOp, hop, resolve, hx, Deferred.ofValue, invoke, this]
theorem callv_of {op : Op} {x : AO} {args : List AO} (h : cop P false op = .callv x false args) : ∃ c x0, op = .call c ∧ c.callee = .value x0 ∧ x = copd x0 ∧ args = c.args.toList.map copd ∧ (copd x0).ok = true ∧ ∀ y ∈ c.args.toList, (copd y).ok = true := by
  obtain ⟨hok, hc⟩ := cop_ok (P := P) (cl := false) (op := op) (by intro e; rw [e] at h; cases h)
  rw [hc] at h
  cases hop : op with
  | call c =>
    rw [hop] at h hok
    simp only [cop0] at h
    have hargs : ∀ x ∈ c.args.toList, (copd x).ok = true := fun x hx => hok x (by simp [Op.operands, Call.operands]; exact .inr (by simpa using hx))
    cases hcal : c.callee with
    | value x0 =>
      have hx : (copd x0).ok = true := hok x0 (by simp [Op.operands, Call.operands, hcal])
      refine ⟨c, x0, rfl, hcal, ?_⟩
      unfold ccall at h
      rw [hcal] at h
      cases x0 with
      | func f =>
        simp only at h
        split at h
        · cases h
        · have h2 := congrArg AOp.isCall h
          rw [covl_call] at h2
          cases h2
      | _ => simp only at h; injection h with h1 h2 h3; exact ⟨h1.symm, h3.symm, hx, hargs⟩
    | invoke r m => unfold ccall at h; rw [hcal] at h; cases h
    | builtin b =>
      exfalso
      unfold ccall at h
      rw [hcal] at h
      simp only at h
      revert h
      repeat' split
      all_goals simp
  | makeFunc fn first caps =>
    rw [hop] at h
    exfalso
    revert h
    cases fn <;> simp only [cop0] <;> (try split) <;> simp
  | _ =>
    rw [hop] at h
    exfalso
    revert h
    simp only [cop0]
    repeat' split
    all_goals simp

/-! ### An iterator's code -/
def AEx.code : AEx → Code
  | .nor => .skip
  | .exit id => .exit id
  | .ret => .ret
/-- The loop's record. -/
def objL (fnid : FuncId) (tmps0 : Array Value) (ps : Array Tmp) (asg body : Code) (D : Nat) : YP → Obj
  | none => .loop { state := .ready, pending := none, fn := fnid, tmps := tmps0, params := ps, assign := asg, body := body, defers := D }
  | some x => .loop { state := .done, pending := some x.code, fn := fnid, tmps := tmps0, params := ps, assign := asg, body := body, defers := D }
theorem objL_sys (fnid : FuncId) (tmps0 : Array Value) (ps : Array Tmp) (asg body : Code) (D : Nat) (p : YP) : isSys (objL fnid tmps0 ps asg body D p) = true := by cases p <;> rfl

section
variable {call : Nat → List AV → St → Option (AV × St)} {fnid : FuncId} {tmps0 : Array Value} {ps : Array Tmp} {asg body : Code} {k D : Nat} {env0 : Env}
theorem base_in (hS : Sound P call) (hm : P.follows .mixedOrders = true) (c : Code) (p : YP) (Qa : YP → AEx → Env → St → Prop) (env : Env) (s : St) (ρ : Ren) (a : Act) (G W : World) (Q : Exit → Act → World → Prop)
    (h : awp call (ccode P c) (Qa p) env s) (hE : EnvR ρ env a.tmps) (hR : R s ρ G) (hf : Free s ρ) (hd : a.defers = []) (hG : G.heap[k]? = some (objL fnid tmps0 ps asg body D none)) (hW : W = G.putObj k (objL fnid tmps0 ps asg body D p))
    (hQ : ∀ p' x env' s' ρ' a' G' W', Qa p' x env' s' → Step s s' ρ ρ' G G' → R s' ρ' G' → Free s' ρ' → EnvR ρ' env' a'.tmps → a'.defers = [] → G'.heap[k]? = some (objL fnid tmps0 ps asg body D none) → W' = G'.putObj k (objL fnid tmps0 ps asg body D p') → Q x.out a' W') :
    c.wpIn (fenceAt none) n P Q a W := by
  obtain ⟨hRW, hl⟩ := lift_loop hW hG (objL_sys ..) (objL_sys ..) hR
  refine awp_in hS hm (df := []) c (Qa p) env s ρ a W Q (.inl rfl) h hE hRW hf hd fun x env' s' ρ' a' W' hq g1 g2 g3 g4 g5 => ?_
  obtain ⟨G', e1, e2, e3, e4⟩ := hl s' ρ' W' g1 g2
  exact hQ p x env' s' ρ' a' G' W' hq e1 e4 g3 g4 g5 e3 e2

theorem yld_in (hS : Sound P call) (hm : P.follows .mixedOrders = true) (hna : noDefer asg = true) (hnb : noDefer body = true) {id : Nat} {ops : Array Oper} {l pre post : List AOper} {d : Option Nat} {x : AO} {args : List AO} (hl : cregP P ops ops.toList = some l) (hs : splitY l = some (pre, d, x, args, post))
    (p : YP) (Qa : YP → AEx → Env → St → Prop) (env : Env) (s : St) (ρ : Ren) (a : Act) (G W : World) (Q : Exit → Act → World → Prop)
    (h : awpY call (.yd k) (roundY call ps.toList (ccode P asg) (ccode P body) env0) (.yld pre d x args post) p Qa env s) (hE : EnvR ρ env a.tmps) (hE0 : EnvR ρ env0 tmps0) (hR : R s ρ G) (hf : Free s ρ) (hd : a.defers = []) (hG : G.heap[k]? = some (objL fnid tmps0 ps asg body D none)) (hW : W = G.putObj k (objL fnid tmps0 ps asg body D p))
    (hQ : ∀ p' x env' s' ρ' a' G' W', Qa p' x env' s' → Step s s' ρ ρ' G G' → R s' ρ' G' → Free s' ρ' → EnvR ρ' env' a'.tmps → a'.defers = [] → G'.heap[k]? = some (objL fnid tmps0 ps asg body D none) → W' = G'.putObj k (objL fnid tmps0 ps asg body D p') → Q x.out a' W') :
    (Code.region id ops false).wpIn (fenceAt none) n P Q a W := by
  obtain ⟨ao, rfl, hod, hoo, hog⟩ := splitY_spec hs
  obtain ⟨os1, o, os2, hos, hc1, hc2, hg, hop, hdst⟩ := cregP_split hl
  rw [hoo] at hop
  rw [hod] at hdst
  subst hdst
  obtain ⟨hRW, hlift⟩ := lift_loop hW hG (objL_sys ..) (objL_sys ..) hR
  simp only [awpY] at h
  refine wpIn_region ?_
  have hsz : ops.size = os1.length + (os2.length + 1) := by
    rw [← Array.length_toList, hos, List.length_append, List.length_cons]
  have hrg : List.range ops.size = List.range' 0 os1.length ++ (os1.length :: List.range' (os1.length + 1) os2.length) := by
    rw [List.range_eq_range', hsz, ← List.range'_append_1]
    simp [List.range'_succ]
  have hat : ∀ j, ops[j]? = (os1 ++ o :: os2)[j]? := fun j => by rw [← hos, Array.getElem?_toList]
  rw [hrg]
  refine awops_in hS (df := []) (.inl rfl) os1 0 pre env s ρ a W (fun j o' hj => by rw [hat, Nat.zero_add, List.getElem?_append_left (List.getElem?_eq_some_iff.1 hj).1]; exact hj) hc1 h hE hRW hf hd fun e t ρ1 a1 W1 hq g1 g2 g3 g4 g5 => ?_
  obtain ⟨hx, rfl, hround⟩ := hq
  obtain ⟨G1, e1, e2, e3, e4⟩ := hlift t ρ1 W1 g1 g2
  rw [putObj_self e3] at e2
  subst e2
  have ho : ops[os1.length]? = some o := by rw [hat]; simp
  simp only [wpOpsIn, ho]
  have hwt : wanted ⟨o.dst, .bad, ao.guard, none, false⟩ e = some true := by simp [wanted, hog]
  rw [wanted_rel g4 hg hwt, if_pos rfl]
  obtain ⟨cc, x0, hcall, hcal, rfl, rfl, hxok, haok⟩ := callv_of hop.symm
  have hxv := aev_rel g4 hxok
  rw [hx] at hxv
  simp only [VR] at hxv
  have hargs := VRs_map g4 cc.args.toList haok
  obtain ⟨hlen, hasg⟩ := hround
  refine ⟨fun _ _ => trivial, ?_⟩
  have hsem : o.semAt (fenceAt none).round a1.eval = execOp a1.eval o := rfl
  have hsize : (cc.args.toList.map a1.eval).toArray.size = ps.size := by
    have hlen' := hlen
    simp at hlen' ⊢
    exact hlen'
  have hst1 : Step s t ρ ρ1 G W1 := e1
  rw [hsem, exec_yield hcall hcal hxv, run_yield e3 hsize, Oper.uponIn_round]
  refine ⟨fun q => by simp [fenceAt, Fence.wide] at q, ?_⟩
  refine roundIn_of_wpIn (F := fenceAt none) trivial ?_
  have hE1 := (hE0.step hf hst1).sets hargs (ps := ps.toList)
  rw [← zip_fold] at hE1
  refine awp_in (ro := some k) hS hm (df := []) asg _ _ t ρ1 { tmps := _, defers := [] } W1 _ (.inr hna) hasg hE1 g2 g3 rfl fun x2 e2 t2 ρ2 a2 W2 hq2 k1 k2 k3 k4 k5 => ?_
  obtain ⟨rfl, hq2⟩ := hq2
  have h2 := k1.sys g2 e3 (objL_sys ..)
  refine ⟨_, run_beginRound h2 rfl, ?_⟩
  refine awp_in (ro := some k) hS hm (df := []) body _ e2 t2 ρ2 a2 _ _ (.inr hnb) hq2 k4 (k2.sys h2 (objL_sys ..) _) k3 k5 fun x3 e3' t3 ρ3 a3 W3 hq3 j1 j2 j3 j4 j5 => ?_
  have hb3 := j1.sys (k2.sys h2 (objL_sys ..) _) (putObj_at h2) rfl
  have hst3 : Step t t3 ρ1 ρ3 W1 (W3.putObj k (objL fnid tmps0 ps asg body D none)) := k1.trans (j1.reloop rfl h2)
  have fin : ∀ (p' : YP) (v : AV) (cv : Value), VR ρ3 v cv → awops call t3.next post (Qa p' .nor) (putE e o.dst v) t3 → wpOpsIn (fenceAt none) n P ops Q (List.range' (os1.length + 1) os2.length) (a1.put o.dst cv) (W3.putObj k (objL fnid tmps0 ps asg body D p')) := by
    intro p' v cv hv hpost
    obtain ⟨hR4, hlift4⟩ := lift_loop (G := W3.putObj k (objL fnid tmps0 ps asg body D none)) (o := objL fnid tmps0 ps asg body D p') (o0 := objL fnid tmps0 ps asg body D none) rfl (putObj_at hb3) (objL_sys ..) (objL_sys ..) (j2.sys hb3 rfl _)
    rw [putObj_put] at hR4 hlift4
    have := awops_in (n := n) (Q := Q) hS (df := []) (rest := []) (ro := none) (ops := ops) (.inl rfl) os2 (os1.length + 1) post (putE e o.dst v) t3 ρ3 (a1.put o.dst cv) (W3.putObj k (objL fnid tmps0 ps asg body D p')) (fun j o' hj => by rw [hat, Nat.add_assoc, List.getElem?_append_right (by omega), show os1.length + (1 + j) - os1.length = j + 1 by omega, List.getElem?_cons_succ]; exact hj) hc2 hpost ((g4.step g3 hst3).put hv o.dst) hR4 j3 (by cases hdst : o.dst <;> simpa [Act.put] using g5) fun env' s' ρ' a' w' hq q1 q2 q3 q4 q5 => by
        obtain ⟨G4, f1, f2, f3, f4⟩ := hlift4 s' ρ' w' q1 q2
        exact hQ p' .nor env' s' ρ' a' G4 w' hq ((hst1.trans hst3).trans f1) f4 q3 q4 q5 f3 f2
    simpa using this
  cases x3 with
  | nor => exact ⟨_, _, run_endRound none hb3, fin none (.bool true) (.bool true) (by simp [VR]) hq3⟩
  | exit i => exact ⟨_, _, run_endRound (some (.exit i)) hb3, fin (some (.exit i)) (.bool false) (.bool false) (by simp [VR]) hq3⟩
  | ret => exact ⟨_, _, run_endRound (some .ret) hb3, fin (some .ret) (.bool false) (.bool false) (by simp [VR]) hq3⟩

theorem awpY_in (hS : Sound P call) (hm : P.follows .mixedOrders = true) (hna : noDefer asg = true) (hnb : noDefer body = true) : ∀ (c : Code) (p : YP) (Qa : YP → AEx → Env → St → Prop) (env : Env) (s : St) (ρ : Ren) (a : Act) (G W : World) (Q : Exit → Act → World → Prop),
    awpY call (.yd k) (roundY call ps.toList (ccode P asg) (ccode P body) env0) (ccodeY P c) p Qa env s → EnvR ρ env a.tmps → EnvR ρ env0 tmps0 → R s ρ G → Free s ρ → a.defers = [] → G.heap[k]? = some (objL fnid tmps0 ps asg body D none) → W = G.putObj k (objL fnid tmps0 ps asg body D p) →
    (∀ p' x env' s' ρ' a' G' W', Qa p' x env' s' → Step s s' ρ ρ' G G' → R s' ρ' G' → Free s' ρ' → EnvR ρ' env' a'.tmps → a'.defers = [] → G'.heap[k]? = some (objL fnid tmps0 ps asg body D none) → W' = G'.putObj k (objL fnid tmps0 ps asg body D p') → Q x.out a' W') →
    c.wpIn (fenceAt none) n P Q a W := by
  intro c
  induction c with
  | seq c d ihc ihd =>
    intro p Qa env s ρ a G W Q h hE hE0 hR hf hd hG hW hQ
    simp only [ccodeY, awpY] at h
    refine wpIn_seq (ihc p _ env s ρ a G W _ h hE hE0 hR hf hd hG hW fun p1 x env1 s1 ρ1 a1 G1 W1 hx g1 g2 g3 g4 g5 g6 g7 => ?_)
    cases x with
    | nor => exact ihd p1 Qa env1 s1 ρ1 a1 G1 W1 Q hx g4 (hE0.step hf g1) g2 g3 g5 g6 g7 fun p2 y env2 s2 ρ2 a2 G2 W2 hy k1 k2 k3 k4 k5 k6 k7 => hQ p2 y env2 s2 ρ2 a2 G2 W2 hy (g1.trans k1) k2 k3 k4 k5 k6 k7
    | exit id => exact hQ p1 (.exit id) env1 s1 ρ1 a1 G1 W1 hx g1 g2 g3 g4 g5 g6 g7
    | ret => exact hQ p1 .ret env1 s1 ρ1 a1 G1 W1 hx g1 g2 g3 g4 g5 g6 g7
  | cond q c d ihc ihd =>
    intro p Qa env s ρ a G W Q h hE hE0 hR hf hd hG hW hQ
    simp only [ccodeY] at h
    split at h
    · rename_i hok
      simp only [awpY] at h
      have hv := aev_rel hE hok
      split at h
      · rename_i hb
        rw [hb] at hv
        simp only [VR] at hv
        exact wpIn_cond_true hv (ihc p Qa env s ρ a G W Q h hE hE0 hR hf hd hG hW hQ)
      · rename_i hb
        rw [hb] at hv
        simp only [VR] at hv
        exact wpIn_cond_false hv (ihd p Qa env s ρ a G W Q h hE hE0 hR hf hd hG hW hQ)
      · exact h.elim
    · simp only [awpY, awp] at h
  | block id c ih =>
    intro p Qa env s ρ a G W Q h hE hE0 hR hf hd hG hW hQ
    simp only [ccodeY, awpY] at h
    refine wpIn_block (ih p _ env s ρ a G W _ h hE hE0 hR hf hd hG hW fun p1 x env1 s1 ρ1 a1 G1 W1 hx g1 g2 g3 g4 g5 g6 g7 => ?_)
    cases x with
    | nor => exact hQ p1 .nor env1 s1 ρ1 a1 G1 W1 hx g1 g2 g3 g4 g5 g6 g7
    | exit i =>
      simp only at hx
      by_cases hi : i = id
      · rw [if_pos hi] at hx
        simp only [AEx.out, Exit.inBlock, if_pos hi]
        exact hQ p1 .nor env1 s1 ρ1 a1 G1 W1 hx g1 g2 g3 g4 g5 g6 g7
      · rw [if_neg hi] at hx
        simp only [AEx.out, Exit.inBlock, if_neg hi]
        exact hQ p1 (.exit i) env1 s1 ρ1 a1 G1 W1 hx g1 g2 g3 g4 g5 g6 g7
    | ret => exact hQ p1 .ret env1 s1 ρ1 a1 G1 W1 hx g1 g2 g3 g4 g5 g6 g7
  | loop c ih =>
    intro p Qa env s ρ a G W Q h hE hE0 hR hf hd hG hW hQ
    simp only [ccodeY, awpY] at h
    obtain ⟨m, h⟩ := h
    refine wpIn_loop_rounds m ?_
    induction m generalizing p env s ρ a G W with
    | zero => exact h.elim
    | succ m ihn =>
      simp only [aroundsY] at h
      simp only [Code.roundsIn]
      refine ih p _ env s ρ a G W _ h hE hE0 hR hf hd hG hW fun p1 x env1 s1 ρ1 a1 G1 W1 hx g1 g2 g3 g4 g5 g6 g7 => ?_
      cases x with
      | nor => exact ihn p1 env1 s1 ρ1 a1 G1 W1 g4 (hE0.step hf g1) g2 g3 g5 g6 g7 (fun p2 y env2 s2 ρ2 a2 G2 W2 hy k1 k2 k3 k4 k5 k6 k7 => hQ p2 y env2 s2 ρ2 a2 G2 W2 hy (g1.trans k1) k2 k3 k4 k5 k6 k7) hx
      | exit id => exact hQ p1 (.exit id) env1 s1 ρ1 a1 G1 W1 hx g1 g2 g3 g4 g5 g6 g7
      | ret => exact hQ p1 .ret env1 s1 ρ1 a1 G1 W1 hx g1 g2 g3 g4 g5 g6 g7
  | region id ops draw =>
    intro p Qa env s ρ a G W Q h hE hE0 hR hf hd hG hW hQ
    cases draw
    · simp only [ccodeY] at h
      split at h
      · rename_i l hl
        split at h
        · rename_i pre d x args post hs
          exact yld_in hS hm hna hnb hl hs p Qa env s ρ a G W Q h hE hE0 hR hf hd hG hW hQ
        · simp only [awpY] at h
          exact base_in hS hm _ p Qa env s ρ a G W Q h hE hR hf hd hG hW hQ
      · simp only [awpY, awp] at h
    · simp only [ccodeY, awpY] at h
      exact base_in hS hm _ p Qa env s ρ a G W Q h hE hR hf hd hG hW hQ
  | _ =>
    intro p Qa env s ρ a G W Q h hE hE0 hR hf hd hG hW hQ
    simp only [ccodeY, awpY] at h
    exact base_in hS hm _ p Qa env s ρ a G W Q h hE hR hf hd hG hW hQ
end

/-! ### Functions -/
def markD (D : Nat) : Deferred := { target := .collected D, args := #[] }
def DefOk (w0 w : World) (ds : List Deferred) : Prop := ∃ Ds : List Nat, ds = Ds.map markD ∧ Ds.Nodup ∧ ∀ D ∈ Ds, w0.heap.size ≤ D ∧ w.heap[D]? = some (.deferred (some []))
theorem DefOk.step {w0 w w' : World} {s s' : St} {ρ' : Ren} {ds : List Deferred} (h : DefOk w0 w ds) (hR : R s ρ w) (hst : Step s s' ρ ρ' w w') : DefOk w0 w' ds := by
  obtain ⟨Ds, rfl, h2, h3⟩ := h
  exact ⟨Ds, rfl, h2, fun D hD => ⟨(h3 D hD).1, hst.sys hR (h3 D hD).2 rfl⟩⟩
theorem findI_spec {f : Nat} : ∀ {l : List (Nat × Nat × AY)} {n : Nat} {y : AY}, findI f l = some (n, y) → (f, n, y) ∈ l
  | [], _, _, h => by cases h
  | (g, m, z) :: r, n, y, h => by
    unfold findI at h
    split at h
    · rename_i e
      injection h with h
      obtain ⟨rfl, rfl⟩ := Prod.mk.inj h
      rw [e]
      exact List.mem_cons_self
    · exact List.mem_cons_of_mem _ (findI_spec h)
theorem iters_spec {its : List Nat} {f m : Nat} {y : AY} (h : (f, m, y) ∈ iters P its) : ∃ fn c, P.funcs[f]? = some fn ∧ callable P f = true ∧ fn.results = #[] ∧ fn.body = some c ∧ m = fn.ntmps ∧ y = ccodeY P c := by
  unfold iters at h
  obtain ⟨g, _, hg⟩ := List.mem_filterMap.1 h
  split at hg
  · rename_i fn hfn
    split at hg
    · rename_i hc
      simp only [Bool.and_eq_true, beq_iff_eq] at hc
      obtain ⟨c, hb, e⟩ := Option.map_eq_some_iff.1 hg
      simp only [Prod.mk.injEq] at e
      obtain ⟨rfl, rfl, rfl⟩ := e
      exact ⟨fn, c, hfn, hc.1, Array.eq_empty_of_size_eq_zero hc.2, hb, rfl, rfl⟩
    · cases hg
  · cases hg
theorem enters_of_callable {f : Nat} (hcal : callable P f = true) (args : Array Value) (w : World) : (callFunc f args).run P w = .ok (.enter f args) w := by
  unfold callable at hcal
  cases hfn : P.funcs[f]? with
  | none => simp [hfn] at hcal
  | some fn =>
    simp only [hfn, Bool.and_eq_true, bne_iff_ne, ne_eq] at hcal
    cases hbd : fn.body with
    | none => simp [hbd] at hcal
    | some b => simp [callFunc, hfn, hcal.2, hbd]
theorem results_no {fn : Func} (h : fn.results = #[]) (tmps : Array Value) (w : World) : ∃ v, (results fn tmps).run P w = .ok v w := by
  unfold results
  rw [h]
  simp

theorem rf_in {call : Nat → List AV → St → Option (AV × St)} (hS : Sound P call) (hm : P.follows .mixedOrders = true) {its : List Nat} {w0 : World} {g : Operand} {ps : Array Tmp} {asg body : Code} (hg : (copd g).ok = true) (hna : noDefer asg = true) (hnb : noDefer body = true)
    (Qa : AEx → Env → St → Prop) (env : Env) (s : St) (ρ : Ren) (a : Act) (w : World) (Q : Exit → Act → World → Prop)
    (h : awpI call (.rf (copd g) ps.toList (ccode P asg) (ccode P body) (iters P its)) Qa env s) (hE : EnvR ρ env a.tmps) (hR : R s ρ w) (hf : Free s ρ) (hd : DefOk w0 w a.defers) (hsz : w0.heap.size ≤ w.heap.size)
    (hQ : ∀ x env' s' ρ' a' w', Qa x env' s' → Step s s' ρ ρ' w w' → R s' ρ' w' → Free s' ρ' → EnvR ρ' env' a'.tmps → DefOk w0 w' a'.defers → Q x.out a' w') : (Code.rangeFunc g ps asg body).wpIn (fenceAt none) n P Q a w := by
  simp only [awpI] at h
  have hgv := aev_rel hE hg
  split at h
  · rename_i f caps hav
    rw [hav] at hgv
    simp only [VR] at hgv
    obtain ⟨lb, hval, hcaps⟩ := hgv
    split at h
    · rename_i m y hfi
      obtain ⟨fn, c, hfn, hcal, hres, hbd, rfl, rfl⟩ := iters_spec (findI_spec hfi)
      refine wpIn_rangeFunc ?_
      intro fnid _
      have h := h (w.heap.size + 1)
      obtain ⟨W1, hW1⟩ : ∃ W1, (w.alloc (.deferred (some []))).alloc (objL fnid a.tmps ps asg body w.heap.size none) = W1 := ⟨_, rfl⟩
      have hL1 : W1.heap[w.heap.size + 1]? = some (objL fnid a.tmps ps asg body w.heap.size none) := by
        rw [← hW1]; have := World.alloc_heap_new (w.alloc (.deferred (some []))) (objL fnid a.tmps ps asg body w.heap.size none); rwa [World.size_alloc] at this
      have hD1 : W1.heap[w.heap.size]? = some (.deferred (some [])) := by
        rw [← hW1]
        show ((w.heap.push _).push _)[w.heap.size]? = _
        rw [Array.getElem?_push_lt (by simp)]
        simp
      have hcl : Clean w W1 := by rw [← hW1]; exact (clean_pushW w _).trans (clean_pushW _ _)
      have hst1 : Step s s ρ ρ w W1 := hcl.step s ρ
      have hR1 : R s ρ W1 := hR.clean hcl
      refine ⟨w.heap.size + 1, [markD w.heap.size], W1, { target := .fn (.func f) lb.toArray, args := #[.func (.yield (w.heap.size + 1)) #[] #[]] }, W1, f, #[.func (.yield (w.heap.size + 1)) #[] #[]] ++ lb.toArray, W1, ?_, ?_, fun _ _ => trivial, ?_, fun q => by simp [fenceAt, Fence.wide] at q, ?_⟩
      · rw [← hW1]; exact run_enterLoop_outer _ _ _ _ _
      · simp only [resolve, hval]
        simp [Deferred.ofValue, Act.eval]
      · simp [invoke, enters_of_callable hcal]
      · refine callsIn_of_wp (F := fenceAt none) hfn hbd trivial ?_
        have hen := env_start (ρ := ρ) (args := .yd (w.heap.size + 1) :: caps) (cargs := .func (.yield (w.heap.size + 1)) #[] #[] :: lb) (VRs_cons.2 ⟨by simp [VR], hcaps⟩) fn.ntmps
        have hcons : (Value.func (.yield (w.heap.size + 1)) #[] #[] :: lb).toArray = #[Value.func (.yield (w.heap.size + 1)) #[] #[]] ++ lb.toArray := by simp
        rw [hcons] at hen
        refine awpY_in (k := w.heap.size + 1) (D := w.heap.size) (fnid := fnid) (tmps0 := a.tmps) (ps := ps) hS hm hna hnb c none _ _ s ρ { tmps := _, defers := [] } W1 W1 _ h hen hE hR1 hf rfl hL1 (putObj_self hL1).symm fun p x env' s' ρ' a' G' W' hq g1 g2 g3 g4 g5 g6 g7 => ?_
        obtain ⟨hx, hq⟩ := hq
        obtain ⟨v, hv⟩ := results_no (P := P) hres a'.tmps W'
        have hrp : rangePost (fenceAt none) n P (w.heap.size + 1) Q { a with defers := [markD w.heap.size] ++ a.defers } (.returned v) W' := by
          have hat : W'.heap[w.heap.size + 1]? = some (objL fnid a.tmps ps asg body w.heap.size p) := by rw [g7]; exact putObj_at g6
          have hstW : ∀ o, Step s s' ρ ρ' w (W'.putObj (w.heap.size + 1) o) := fun o => by
            rw [g7, putObj_put]
            exact (hst1.trans g1).putNew (by omega) o
          have hRW : ∀ o, R s' ρ' (W'.putObj (w.heap.size + 1) o) := fun o => by
            rw [g7, putObj_put]
            exact g2.sys g6 (objL_sys ..) o
          have hDW : ∀ o, DefOk w0 (W'.putObj (w.heap.size + 1) o) ([markD w.heap.size] ++ a.defers) := fun o => by
            obtain ⟨Ds, e1, e2, e3⟩ := hd.step hR (hstW o)
            refine ⟨w.heap.size :: Ds, by rw [e1]; rfl, List.nodup_cons.2 ⟨fun hmem => ?_, e2⟩, fun D hD => ?_⟩
            · obtain ⟨Ds', e1', e2', e3'⟩ := hd
              have : Ds' = Ds := by
                have hinj : Function.Injective markD := fun i j e => by simpa [markD] using e
                exact (List.map_inj_right (fun _ _ e => hinj e)).1 (e1'.symm.trans e1)
              subst this
              have := (Array.getElem?_eq_some_iff.1 (e3' _ hmem).2).1
              omega
            · rcases List.mem_cons.1 hD with rfl | hD
              · refine ⟨hsz, ?_⟩
                rw [g7, putObj_put, World.putObj_heap_other (by omega)]
                exact g1.sys hR1 hD1 rfl
              · exact e3 D hD
          cases p with
          | none =>
            refine ⟨_, _, run_endLoop hat (by simp), ?_⟩
            exact hQ .nor env s' ρ' _ _ hq (hstW _) (hRW _) g3 (hE.step hf (hst1.trans g1)) (hDW _)
          | some z =>
            cases z with
            | nor =>
              refine ⟨_, _, run_endLoop hat (by simp), ?_⟩
              exact wpIn_skip (hQ .nor env s' ρ' _ _ hq (hstW _) (hRW _) g3 (hE.step hf (hst1.trans g1)) (hDW _))
            | exit i =>
              refine ⟨_, _, run_endLoop hat (by simp), ?_⟩
              exact wpIn_exit (hQ (.exit i) env s' ρ' _ _ hq (hstW _) (hRW _) g3 (hE.step hf (hst1.trans g1)) (hDW _))
            | ret =>
              refine ⟨_, _, run_endLoop hat (by simp), ?_⟩
              exact wpIn_ret (hQ .ret env s' ρ' _ _ hq (hstW _) (hRW _) g3 (hE.step hf (hst1.trans g1)) (hDW _))
        cases x with
        | nor => exact ⟨g5, v, hv, hrp⟩
        | ret => exact ⟨g5, v, hv, hrp⟩
        | exit i => exact absurd rfl (hx i)
    · exact h.elim
  · exact h.elim
end Go.AM
end
/-
  Ranges over functions, the fourth part: whole functions. Own work of this project.
-/
section
namespace Go.AM
open Go

variable {P : Program} {ρ : Ren} {n : Nat}

theorem awpI_base {call : Nat → List AV → St → Option (AV × St)} (hS : Sound P call) (hm : P.follows .mixedOrders = true) {w0 : World} (c : Code) (Qa : AEx → Env → St → Prop) (env : Env) (s : St) (ρ : Ren) (a : Act) (w : World) (Q : Exit → Act → World → Prop)
    (h : awp call (ccode P c) Qa env s) (hE : EnvR ρ env a.tmps) (hR : R s ρ w) (hf : Free s ρ) (hd : DefOk w0 w a.defers)
    (hQ : ∀ x env' s' ρ' a' w', Qa x env' s' → Step s s' ρ ρ' w w' → R s' ρ' w' → Free s' ρ' → EnvR ρ' env' a'.tmps → DefOk w0 w' a'.defers → Q x.out a' w') : c.wpIn (fenceAt none) n P Q a w :=
  awp_in hS hm (df := a.defers) c Qa env s ρ a w Q (.inl rfl) h hE hR hf rfl fun x env' s' ρ' a' w' hq g1 g2 g3 g4 g5 => hQ x env' s' ρ' a' w' hq g1 g2 g3 g4 (by rw [g5]; exact hd.step hR g1)
theorem awpI_in {call : Nat → List AV → St → Option (AV × St)} (hS : Sound P call) (hm : P.follows .mixedOrders = true) {its : List Nat} {w0 : World} : ∀ (c : Code) (Qa : AEx → Env → St → Prop) (env : Env) (s : St) (ρ : Ren) (a : Act) (w : World) (Q : Exit → Act → World → Prop),
    awpI call (ccodeI P its c) Qa env s → EnvR ρ env a.tmps → R s ρ w → Free s ρ → DefOk w0 w a.defers → w0.heap.size ≤ w.heap.size →
    (∀ x env' s' ρ' a' w', Qa x env' s' → Step s s' ρ ρ' w w' → R s' ρ' w' → Free s' ρ' → EnvR ρ' env' a'.tmps → DefOk w0 w' a'.defers → Q x.out a' w') → c.wpIn (fenceAt none) n P Q a w := by
  intro c
  induction c with
  | seq c d ihc ihd =>
    intro Qa env s ρ a w Q h hE hR hf hd hsz hQ
    simp only [ccodeI] at h
    split at h
    · simp only [awpI] at h
      refine wpIn_seq (ihc _ env s ρ a w _ h hE hR hf hd hsz fun x env1 s1 ρ1 a1 w1 hx g1 g2 g3 g4 g5 => ?_)
      cases x with
      | nor => exact ihd Qa env1 s1 ρ1 a1 w1 Q hx g4 g2 g3 g5 (Nat.le_trans hsz g1.size) fun y env2 s2 ρ2 a2 w2 hy k1 k2 k3 k4 k5 => hQ y env2 s2 ρ2 a2 w2 hy (g1.trans k1) k2 k3 k4 k5
      | exit id => exact hQ (.exit id) env1 s1 ρ1 a1 w1 hx g1 g2 g3 g4 g5
      | ret => exact hQ .ret env1 s1 ρ1 a1 w1 hx g1 g2 g3 g4 g5
    · simp only [awpI] at h
      exact awpI_base hS hm _ Qa env s ρ a w Q h hE hR hf hd hQ
  | cond q c d ihc ihd =>
    intro Qa env s ρ a w Q h hE hR hf hd hsz hQ
    simp only [ccodeI] at h
    split at h
    · split at h
      · rename_i hok
        simp only [awpI] at h
        have hv := aev_rel hE hok
        split at h
        · rename_i hb
          rw [hb] at hv
          simp only [VR] at hv
          exact wpIn_cond_true hv (ihc Qa env s ρ a w Q h hE hR hf hd hsz hQ)
        · rename_i hb
          rw [hb] at hv
          simp only [VR] at hv
          exact wpIn_cond_false hv (ihd Qa env s ρ a w Q h hE hR hf hd hsz hQ)
        · exact h.elim
      · simp only [awpI, awp] at h
    · simp only [awpI] at h
      exact awpI_base hS hm _ Qa env s ρ a w Q h hE hR hf hd hQ
  | block id c ih =>
    intro Qa env s ρ a w Q h hE hR hf hd hsz hQ
    simp only [ccodeI] at h
    split at h
    · simp only [awpI] at h
      refine wpIn_block (ih _ env s ρ a w _ h hE hR hf hd hsz fun x env1 s1 ρ1 a1 w1 hx g1 g2 g3 g4 g5 => ?_)
      cases x with
      | nor => exact hQ .nor env1 s1 ρ1 a1 w1 hx g1 g2 g3 g4 g5
      | exit i =>
        simp only at hx
        by_cases hi : i = id
        · rw [if_pos hi] at hx
          simp only [AEx.out, Exit.inBlock, if_pos hi]
          exact hQ .nor env1 s1 ρ1 a1 w1 hx g1 g2 g3 g4 g5
        · rw [if_neg hi] at hx
          simp only [AEx.out, Exit.inBlock, if_neg hi]
          exact hQ (.exit i) env1 s1 ρ1 a1 w1 hx g1 g2 g3 g4 g5
      | ret => exact hQ .ret env1 s1 ρ1 a1 w1 hx g1 g2 g3 g4 g5
    · simp only [awpI] at h
      exact awpI_base hS hm _ Qa env s ρ a w Q h hE hR hf hd hQ
  | loop c ih =>
    intro Qa env s ρ a w Q h hE hR hf hd hsz hQ
    simp only [ccodeI] at h
    split at h
    · simp only [awpI] at h
      obtain ⟨m, h⟩ := h
      refine wpIn_loop_rounds m ?_
      induction m generalizing env s ρ a w with
      | zero => exact h.elim
      | succ m ihn =>
        simp only [arounds] at h
        simp only [Code.roundsIn]
        refine ih _ env s ρ a w _ h hE hR hf hd hsz fun x env1 s1 ρ1 a1 w1 hx g1 g2 g3 g4 g5 => ?_
        cases x with
        | nor => exact ihn env1 s1 ρ1 a1 w1 g4 g2 g3 g5 (Nat.le_trans hsz g1.size) (fun y env2 s2 ρ2 a2 w2 hy k1 k2 k3 k4 k5 => hQ y env2 s2 ρ2 a2 w2 hy (g1.trans k1) k2 k3 k4 k5) hx
        | exit id => exact hQ (.exit id) env1 s1 ρ1 a1 w1 hx g1 g2 g3 g4 g5
        | ret => exact hQ .ret env1 s1 ρ1 a1 w1 hx g1 g2 g3 g4 g5
    · simp only [awpI] at h
      exact awpI_base hS hm _ Qa env s ρ a w Q h hE hR hf hd hQ
  | rangeFunc g ps asg body _ _ =>
    intro Qa env s ρ a w Q h hE hR hf hd hsz hQ
    simp only [ccodeI] at h
    split at h
    · rename_i hc
      simp only [Bool.and_eq_true] at hc
      exact rf_in hS hm hc.1.1 hc.1.2 hc.2 Qa env s ρ a w Q h hE hR hf hd hsz hQ
    · simp only [awpI, awp] at h
  | _ =>
    intro Qa env s ρ a w Q h hE hR hf hd hsz hQ
    simp only [ccodeI, awpI] at h
    exact awpI_base hS hm _ Qa env s ρ a w Q h hE hR hf hd hQ

/-- The way out: the marks are taken, the results read. -/
theorem leaves_in {fn : Func} {tmps : Array Value} {Rp : Ending → World → Prop} {w0 : World} {s s' : St} {ρ' : Ren} (hfin : ∀ w, Step s s' ρ ρ' w0 w → R s' ρ' w → ∃ v, (results fn tmps).run P w = .ok v w ∧ Rp (.returned v) w) : ∀ (Ds : List Nat) (w : World), Ds.Nodup → (∀ D ∈ Ds, w0.heap.size ≤ D ∧ w.heap[D]? = some (.deferred (some []))) → Step s s' ρ ρ' w0 w → R s' ρ' w →
    LeavesInM (fenceAt none) n P fn tmps Rp (Ds.map markD) .returning w
  | [], w, _, _, hst, hr => hfin w hst hr
  | D :: Ds, w, hnd, hD, hst, hr => by
    obtain ⟨h1, h2⟩ := List.nodup_cons.1 hnd
    obtain ⟨h3, h4⟩ := hD D List.mem_cons_self
    refine ⟨by simp, .inl ⟨D, _, rfl, run_takeDeferred h4, leaves_in hfin Ds _ h2 (fun E hE => ⟨(hD E (List.mem_cons_of_mem _ hE)).1, ?_⟩) (hst.putNew h3 _) (hr.sys h4 rfl _)⟩⟩
    have hne : E ≠ D := fun e => h1 (by rw [← e]; exact hE)
    rw [World.putObj_heap_other hne]
    exact (hD E (List.mem_cons_of_mem _ hE)).2

/-- A contract out of the code. -/
theorem con_soundI {call : Nat → List AV → St → Option (AV × St)} (hS : Sound P call) (hm : P.follows .mixedOrders = true) {its : List Nat} {g : Nat} {fn : Func} {afn : AFnI} (hf : P.funcs[g]? = some fn) (hcal : callable P g = true) (hc : cfnI P its fn = some afn)
    {c : List AV → St → Option (AV × St)}
    (h : ∀ args s r s', c args s = some (r, s') → (Grow s s' ∧ Keeps s s') ∧ awpI call afn.body (fun x env t => (∀ i, x ≠ .exit i) ∧ ∃ f, aresults env t afn.results = some (r.ren f) ∧ Emb f s s' t) (args ++ List.replicate (afn.ntmps - args.length) .und) s) :
    SoundAt P g c := by
  intro args s r s' hcall
  obtain ⟨hg, ha⟩ := h args s r s' hcall
  unfold cfnI at hc
  split at hc
  · rename_i cd rs hb hr
    injection hc with hc; subst hc
    refine ⟨hcal, hg, fun ρ w cargs hfree hR hargs => ?_⟩
    refine (callsIn_wide (n := 0)).1 (callsIn_of_wp_marks hf hb trivial ?_)
    refine awpI_in (w0 := w) hS hm cd _ _ s ρ { tmps := _, defers := [] } w _ ha (env_start hargs fn.ntmps) hR hfree ⟨[], rfl, List.nodup_nil, fun D hD => by simp at hD⟩ (Nat.le_refl _) fun x env t ρ' a' w' hq g1 g2 g3 g4 g5 => ?_
    obtain ⟨hx, f, hres, he⟩ := hq
    obtain ⟨Ds, d1, d2, d3⟩ := g5
    have hout : LeavesInM (fenceAt none) 0 P fn a'.tmps (fun e w' => ∃ ρ' v, e = .returned v ∧ VR ρ' r v ∧ Step s s' ρ ρ' w w' ∧ R s' ρ' w') a'.defers .returning w' := by
      rw [d1]
      refine leaves_in (fun w2 k1 k2 => ?_) Ds w' d2 d3 g1 g2
      obtain ⟨cv, h1, h2⟩ := results_run g4 k2 hr hres
      obtain ⟨q1, q2⟩ := he.sound hR hfree k1 k2
      exact ⟨cv, h2, _, cv, rfl, VR.ren r cv h1, q1, q2⟩
    cases x with
    | nor => exact hout
    | ret => exact hout
    | exit i => exact absurd rfl (hx i)
  · cases hc
end Go.AM
end
/-
  Ranges over functions: rules for stepping. Own work of this project.
-/
section
namespace Go.AM
open Go

variable {call : Nat → List AV → St → Option (AV × St)} {env : Env} {s t : St}

/-! ### Less is asked -/
theorem aroundsY_mono {body : YP → (YP → AEx → Env → St → Prop) → Env → St → Prop} (hb : ∀ (p : YP) (Q Q' : YP → AEx → Env → St → Prop), (∀ p x e t, Q p x e t → Q' p x e t) → ∀ e t, body p Q e t → body p Q' e t) {Q Q' : YP → AEx → Env → St → Prop} (h : ∀ p x e t, Q p x e t → Q' p x e t) : ∀ (n : Nat) {p : YP} {e : Env} {t : St}, aroundsY body Q n p e t → aroundsY body Q' n p e t
  | 0, _, _, _, k => k.elim
  | n + 1, p, e, t, k => hb _ _ _ (fun p x e t q => by
      cases x with
      | nor => exact aroundsY_mono hb h n q
      | _ => exact h _ _ e t q) _ _ k
theorem awpY_mono {yv : AV} {Yd : List AV → (YP → AV → St → Prop) → St → Prop} (hy : ∀ args K K' t, (∀ p v t, K p v t → K' p v t) → Yd args K t → Yd args K' t) : ∀ (c : AY) {p : YP} {Q Q' : YP → AEx → Env → St → Prop}, (∀ p x e t, Q p x e t → Q' p x e t) → ∀ {e : Env} {t : St}, awpY call yv Yd c p Q e t → awpY call yv Yd c p Q' e t
  | .base c, p, Q, Q', h, e, t, k => awp_mono c (h p) k
  | .seq a b, p, Q, Q', h, e, t, k => awpY_mono hy a (fun p x e t q => by
      cases x with
      | nor => exact awpY_mono hy b h q
      | _ => exact h _ _ e t q) k
  | .cond c a b, p, Q, Q', h, e, t, k => by
    simp only [awpY] at k ⊢
    split at k
    · exact awpY_mono hy a h k
    · exact awpY_mono hy b h k
    · exact k.elim
  | .block i c, p, Q, Q', h, e, t, k => awpY_mono hy c (fun p x e t q => by
      cases x with
      | exit j =>
        simp only at q ⊢
        split at q
        · rename_i hj; rw [if_pos hj]; exact h _ _ e t q
        · rename_i hj; rw [if_neg hj]; exact h _ _ e t q
      | _ => exact h _ _ e t q) k
  | .loop c, p, Q, Q', h, e, t, k => by
    simp only [awpY] at k ⊢
    obtain ⟨n, k⟩ := k
    exact ⟨n, aroundsY_mono (body := awpY call yv Yd c) (fun p Q Q' h e t k => awpY_mono hy c h k) h n k⟩
  | .yld pre d x args post, p, Q, Q', h, e, t, k => by
    simp only [awpY] at k ⊢
    exact awops_mono (fun e t q => ⟨q.1, q.2.1, hy _ _ _ _ (fun p v t q => awops_mono (fun e t q => h _ _ e t q) post _ _ q) q.2.2⟩) pre _ _ k
theorem roundY_mono {ps : List Nat} {asg body : AC} {env : Env} (args : List AV) (K K' : YP → AV → St → Prop) (t : St) (h : ∀ p v t, K p v t → K' p v t) (k : roundY call ps asg body env args K t) : roundY call ps asg body env args K' t :=
  ⟨k.1, awp_mono asg (fun x e t q => ⟨q.1, awp_mono body (fun x e t q => by
    cases x with
    | nor => exact h _ _ t q
    | _ => exact h _ _ t q) q.2⟩) k.2⟩
theorem awpI_mono : ∀ (c : AI) {Q Q' : AEx → Env → St → Prop}, (∀ x e t, Q x e t → Q' x e t) → ∀ {e : Env} {t : St}, awpI call c Q e t → awpI call c Q' e t
  | .base c, Q, Q', h, e, t, k => awp_mono c h k
  | .seq a b, Q, Q', h, e, t, k => awpI_mono a (fun x e t q => by
      cases x with
      | nor => exact awpI_mono b h q
      | _ => exact h _ e t q) k
  | .cond c a b, Q, Q', h, e, t, k => by
    simp only [awpI] at k ⊢
    split at k
    · exact awpI_mono a h k
    · exact awpI_mono b h k
    · exact k.elim
  | .block i c, Q, Q', h, e, t, k => awpI_mono c (fun x e t q => by
      cases x with
      | exit j =>
        simp only at q ⊢
        split at q
        · rename_i hj; rw [if_pos hj]; exact h _ e t q
        · rename_i hj; rw [if_neg hj]; exact h _ e t q
      | _ => exact h _ e t q) k
  | .loop c, Q, Q', h, e, t, k => by
    simp only [awpI] at k ⊢
    obtain ⟨n, k⟩ := k
    exact ⟨n, arounds_mono (b := awpI call c) (fun h _ _ k => awpI_mono c h k) h n n (Nat.le_refl n) k⟩
  | .rf g ps asg body its, Q, Q', h, e, t, k => by
    simp only [awpI] at k ⊢
    split at k
    · split at k
      · intro l
        refine awpY_mono roundY_mono _ (fun p x _ t q => ⟨q.1, ?_⟩) (k l)
        have q := q.2
        cases p with
        | none => exact h _ _ t q
        | some x => exact h _ _ t q
      · exact k.elim
    · exact k.elim

/-! ### Rules -/
section
variable {Q : AEx → Env → St → Prop}
theorem wi_base (c : AC) : awpI call (.base c) Q env s = awp call c Q env s := nrfl rfl
theorem wi_seq (a b : AI) : awpI call (.seq a b) Q env s = awpI call a (fun x e t => match x with
    | .nor => awpI call b Q e t
    | x => Q x e t) env s := nrfl rfl
theorem wi_block (i : Nat) (c : AI) : awpI call (.block i c) Q env s = awpI call c (fun x e t => match x with
    | .exit j => if j = i then Q .nor e t else Q (.exit j) e t
    | x => Q x e t) env s := nrfl rfl
theorem wi_cond (c : AO) (a b : AI) : awpI call (.cond c a b) Q env s = cstep (aev env c) (awpI call a Q env s) (awpI call b Q env s) := by
  simp only [awpI, cstep] <;> (generalize aev env c = v; cases v <;> first | rfl | (rename_i b; cases b <;> rfl))
def lwpI (call : Nat → List AV → St → Option (AV × St)) (c : AI) (env : Env) (s : St) [h : HQ] : Prop := awpI call (.loop c) h.q env s
theorem wi_loop (c : AI) : awpI call (.loop c) Q env s = @lwpI call c env s ⟨Q⟩ := nrfl rfl
def rfwp (call : Nat → List AV → St → Option (AV × St)) (g : AO) (ps : List Nat) (asg body : AC) (its : List (Nat × Nat × AY)) (env : Env) (s : St) [h : HQ] : Prop := awpI call (.rf g ps asg body its) h.q env s
theorem wi_rf (g : AO) (ps : List Nat) (asg body : AC) (its : List (Nat × Nat × AY)) : awpI call (.rf g ps asg body its) Q env s = @rfwp call g ps asg body its env s ⟨Q⟩ := nrfl rfl
theorem rf_start {g : AO} {ps : List Nat} {asg body : AC} {its : List (Nat × Nat × AY)} {f n : Nat} {caps : List AV} {y : AY} (hg : aev env g = .fn f caps) (hf : findI f its = some (n, y))
    (h : ∀ l, awpY call (.yd l) (roundY call ps asg body env) y none (fun p x _ t => (∀ i, x ≠ .exit i) ∧ match p with
          | none => Q .nor env t
          | some x => Q x env t) ((.yd l :: caps) ++ List.replicate (n - (AV.yd l :: caps).length) .und) s) : @rfwp call g ps asg body its env s ⟨Q⟩ := by
  show awpI call (.rf g ps asg body its) Q env s
  simp only [awpI]
  rw [hg]
  simp only
  rw [hf]
  exact h
end

section
variable {yv : AV} {Yd : List AV → (YP → AV → St → Prop) → St → Prop} {p : YP} {Q : YP → AEx → Env → St → Prop}
theorem wy_base (c : AC) : awpY call yv Yd (.base c) p Q env s = awp call c (Q p) env s := nrfl rfl
theorem wy_seq (a b : AY) : awpY call yv Yd (.seq a b) p Q env s = awpY call yv Yd a p (fun p x e t => match x with
    | .nor => awpY call yv Yd b p Q e t
    | x => Q p x e t) env s := nrfl rfl
theorem wy_block (i : Nat) (c : AY) : awpY call yv Yd (.block i c) p Q env s = awpY call yv Yd c p (fun p x e t => match x with
    | .exit j => if j = i then Q p .nor e t else Q p (.exit j) e t
    | x => Q p x e t) env s := nrfl rfl
theorem wy_cond (c : AO) (a b : AY) : awpY call yv Yd (.cond c a b) p Q env s = cstep (aev env c) (awpY call yv Yd a p Q env s) (awpY call yv Yd b p Q env s) := by
  simp only [awpY, cstep] <;> (generalize aev env c = v; cases v <;> first | rfl | (rename_i b; cases b <;> rfl))
class HY where
  q : YP → AEx → Env → St → Prop
def lwpY (call : Nat → List AV → St → Option (AV × St)) (yv : AV) (Yd : List AV → (YP → AV → St → Prop) → St → Prop) (c : AY) (p : YP) (env : Env) (s : St) [h : HY] : Prop := awpY call yv Yd (.loop c) p h.q env s
theorem wy_loop (c : AY) : awpY call yv Yd (.loop c) p Q env s = @lwpY call yv Yd c p env s ⟨Q⟩ := nrfl rfl
class HK2 where
  k : YP → AV → St → Prop
def ystep (Yd : List AV → (YP → AV → St → Prop) → St → Prop) (args : List AV) (t : St) [h : HK2] : Prop := Yd args h.k t
theorem wy_yld (pre : List AOper) (d : Option Nat) (x : AO) (args : List AO) (post : List AOper) : awpY call yv Yd (.yld pre d x args post) p Q env s = awops call s.next pre (fun e t => aev e x = yv ∧ p = none ∧ @ystep Yd (args.map (aev e)) t ⟨fun p' v t' => awops call t'.next post (Q p' .nor) (putE e d v) t'⟩) env s := nrfl rfl
theorem lwpY_inv (hy : ∀ args K K' t, (∀ p v t, K p v t → K' p v t) → Yd args K t → Yd args K' t) {c : AY} (I : Nat → Env → St → Prop) {n : Nat} (h : I n env s)
    (step : ∀ n e t, I n e t → awpY call yv Yd c none (fun p x e' t' => match x with
      | .nor => p = none ∧ ∃ m, m < n ∧ I m e' t'
      | x => Q p x e' t') e t) : @lwpY call yv Yd c none env s ⟨Q⟩ := by
  refine ⟨n + 1, ?_⟩
  induction n using Nat.strongRecOn generalizing env s with
  | _ n ih =>
    have up : ∀ (k m : Nat) {p : YP} {e : Env} {t : St}, m ≤ k → aroundsY (awpY call yv Yd c) Q m p e t → aroundsY (awpY call yv Yd c) Q k p e t := by
      intro k
      induction k with
      | zero => intro m p e t hm q; obtain rfl : m = 0 := by omega
                exact q
      | succ k ihk =>
        intro m p e t hm q
        cases m with
        | zero => exact q.elim
        | succ m =>
          exact awpY_mono hy c (fun p x e t q => by
            cases x with
            | nor => exact ihk m (by omega) q
            | _ => exact q) q
    exact awpY_mono hy c (fun p x e t q => by
      cases x with
      | nor =>
        obtain ⟨rfl, m, hm, q⟩ := q
        exact up n (m + 1) hm (ih m hm q)
      | _ => exact q) (step n env s h)
end
end Go.AM
end
/-
  Contracts of functions that range over functions. Own work of this project.
-/
section
namespace Go.AM
open Go

variable {β : Type}
theorem con_keepI {P : Program} {call : Nat → List AV → St → Option (AV × St)} (hS : Sound P call) (hm : P.follows .mixedOrders = true) {its : List Nat} {g : Nat} {fn : Func} {afn : AFnI} (hf : P.funcs[g]? = some fn) (hcal : callable P g = true) (hc : cfnI P its fn = some afn)
    {c : Con} (h : ∀ args s r s', c args s = some (r, s') → s' = s.lowed ∧ r.ground = true ∧ args.length ≤ afn.ntmps ∧ ∀ env : Env, elen env = afn.ntmps → (∀ i v, args[i]? = some v → E env i = v) →
      awpI call afn.body (fun x env t => (∀ i, x ≠ .exit i) ∧ aresults env t afn.results = some r ∧ Keep s t) env s) : SoundAt P g c := by
  refine con_soundI hS hm hf hcal hc fun args s r s' hh => ?_
  obtain ⟨rfl, hg, hl, k⟩ := h args s r s' hh
  refine ⟨gk_lowed s, start_env hl fun env h1 h2 => awpI_mono _ (fun x e t q => ?_) (k env h1 h2)⟩
  obtain ⟨q1, q2, q3⟩ := q
  obtain ⟨f, _, hf⟩ := emb_keep q3
  exact ⟨q1, f, by rw [q2, ground_ren f hg], hf⟩
theorem con_freshI {P : Program} {call : Nat → List AV → St → Option (AV × St)} (hS : Sound P call) (hm : P.follows .mixedOrders = true) {its : List Nat} {g : Nat} {fn : Func} {afn : AFnI} (hf : P.funcs[g]? = some fn) (hcal : callable P g = true) (hc : cfnI P its fn = some afn)
    {D : Cod β} {p : List AV → St → Option (List β × Option AV)} (h : ∀ args s l e, p args s = some (l, e) → (∀ x, e = some x → x.plain = true) ∧ args.length ≤ afn.ntmps ∧ ∀ env : Env, elen env = afn.ntmps → (∀ i v, args[i]? = some v → E env i = v) →
      awpI call afn.body (fun x env t => (∀ i, x ≠ .exit i) ∧ Keep s t ∧ ∃ v, aresults env t afn.results = some (mkR e v) ∧ Own D s t v l) env s) : SoundAt P g (conF D p) := by
  refine con_soundI hS hm hf hcal hc fun args s r s' hh => ?_
  obtain ⟨l, e, hp, rfl, rfl⟩ := conF_some hh
  obtain ⟨he, hl, k⟩ := h args s l e hp
  refine ⟨gk_fresh D s l, start_env hl fun env h1 h2 => awpI_mono _ (fun x env' t q => ?_) (k env h1 h2)⟩
  obtain ⟨q1, q2, v, q3, q4⟩ := q
  obtain ⟨f, _, hf, hv⟩ := emb_fresh q2 q4
  exact ⟨q1, f, by rw [q3, mkR_ren he, hv], hf⟩
end Go.AM
end
/-
  Cutting a walk in parts: behind the first part an own statement about registers and memory. Own work of this project.
-/
section
set_option maxRecDepth 100000
namespace Go.AM
open Go

end Go.AM
end
/-
  Rules for ranges over functions and for new lists; lists of integers. Own work of this project.
-/
section
set_option maxRecDepth 100000
set_option maxHeartbeats 8000000
namespace Go.AM
open Go Go.Proofs

variable {s t u : St}
theorem getsome {α : Type} {l : List α} {i : Nat} (h : i < l.length) : ∃ x, l[i]? = some x := ⟨_, List.getElem?_eq_getElem h⟩
theorem getlt {α : Type} {l : List α} {i : Nat} {x : α} (h : l[i]? = some x) : i < l.length := (List.getElem?_eq_some_iff.1 h).1
theorem rf_gen {call : Nat → List AV → St → Option (AV × St)} {g : AO} {ps : List Nat} {asg body : AC} {its : List (Nat × Nat × AY)} {env : Env} {Q : AEx → Env → St → Prop} (P : Env → Prop) (h : P env) (k : ∀ e, P e → @rfwp call g ps asg body its e s ⟨Q⟩) : @rfwp call g ps asg body its env s ⟨Q⟩ := k env h
theorem ystep_round {call : Nat → List AV → St → Option (AV × St)} {ps : List Nat} {asg body : AC} {env : Env} {args : List AV} {K : YP → AV → St → Prop} (h1 : args.length = ps.length) (h2 : awp call asg (fun x e t1 => x = .nor ∧ awp call body (fun x _ t2 => match x with
    | .nor => K none (.bool true) t2
    | x => K (some x) (.bool false) t2) e t1) (setPs env ps args) t) : @ystep (roundY call ps asg body env) args t ⟨K⟩ := ⟨h1, h2⟩
theorem putE_pE (env : Env) (d : Option Nat) (v : AV) : putE env d v = pE env d v := by unfold pE; rfl
theorem ap_mkfn {env : Env} (f : Nat) (caps : List AO) : apure env (.mkfn f caps) = some (.fn f (caps.map (aev env))) := nrfl rfl
theorem ap_conv {env : Env} (k : IntKind) (x : AO) : apure env (.conv k x) = (match aev env x with
    | .int _ n => some (.int k (k.wrap n))
    | _ => none) := nrfl rfl
theorem row1_lod {id : Nat} {v : AV} {own : Bool} (h : t.get id = some (.row [v] own)) : lod1 t (.ptr id 0) = some v ∧ ltN id t := ⟨by simp [lod1, h], St.get_lt h⟩
theorem row1_sto {id : Nat} {v x : AV} (h : t.get id = some (.row [v] true)) (hx : x.cells = [x] ∧ x.one = true) : sto t 1 (.ptr id 0) x = some (.und, t.put id (.row [x] true)) := by
  simp [sto, h, hx.1, hx.2, setAt]
theorem wrapI {x : Int} (h1 : -4611686018427387904 ≤ x) (h2 : x < 4611686018427387904) : IntKind.i64.wrap x = x := by
  simp only [IntKind.wrap, IntKind.signed, IntKind.bits]
  simp
  omega
theorem keep_low (s : St) : Keep s (lowd s) := ⟨Nat.le_refl _, fun _ _ => rfl, Nat.min_le_right _ _⟩
/-- Integers of 64 bits. -/
def inC : Cod Int where
  sz := 1
  enc := fun b => [.int .i64 b]
  dec := fun cs => match cs with
    | [.int .i64 n] => some n
    | _ => none
  pos := by decide
  len := fun _ => rfl
  plain := fun _ => rfl
  dec_enc := fun b => rfl
  enc_dec := fun cs x h => by
    split at h
    · injection h with h
      subst h
      rfl
    · cases h
/-! ### Sorted lists of integers -/
end Go.AM
end
/-
  What a closed run by the kernel shows. Own work of this project.
-/
section
namespace Go.AM
open Go

def isTrue : Option (AV × St) → Bool
  | some (.bool true, _) => true
  | _ => false
theorem isTrue_ex {o : Option (AV × St)} (h : isTrue o = true) : ∃ s, o = some (.bool true, s) := by
  unfold isTrue at h
  split at h
  · exact ⟨_, rfl⟩
  · cases h
end Go.AM
end
/-
  Lists of unknown capacity: Insert and Delete. Own work of this project; in part printed by a program of it.
-/
section
set_option maxRecDepth 100000
set_option maxHeartbeats 8000000
namespace Go.AM
open Go Go.Proofs

variable {s t u : St}

/-! ### A list whose capacity is told, and not told again -/
/-- The list's old block is gone, its cells are in a new one. -/
def hidS (s : St) (id : Nat) (pre : List AV) : St := (s.put id .dead).push (.row pre true)
theorem hidS_next (s : St) (id : Nat) (pre : List AV) : (hidS s id pre).next = s.next + 1 := by simp [hidS]
theorem hidS_low (s : St) (id : Nat) (pre : List AV) : (hidS s id pre).low = min s.low id := by simp [hidS]
theorem hidS_new (s : St) (id : Nat) (pre : List AV) : (hidS s id pre).get s.next = some (.row pre true) := by
  have := St.get_push_new (s.put id .dead) (.row pre true)
  simpa [hidS] using this
theorem hidS_old {s : St} {id j : Nat} {pre : List AV} (hid : id < s.next) (hj : j ≠ s.next) (h : j ≠ id) : (hidS s id pre).get j = s.get j := by
  unfold hidS
  by_cases hjn : j < s.next
  · rw [St.get_push_old _ _ (by simpa using hjn), St.get_put_ne _ _ hid h]
  · have h1 : ((s.put id .dead).push (.row pre true)).get j = none := by
      cases hg : ((s.put id .dead).push (.row pre true)).get j with
      | none => rfl
      | some b =>
        have := St.get_lt hg
        simp at this
        omega
    have h2 : s.get j = none := by
      cases hg : s.get j with
      | none => rfl
      | some b =>
        have := St.get_lt hg
        omega
    rw [h1, h2]
theorem hidS_dead {s : St} {id : Nat} {pre : List AV} {b : AB} (h : s.get id = some b) : (hidS s id pre).get id = some .dead := by
  unfold hidS
  have hlt := St.get_lt h
  rw [St.get_push_old _ _ (by simpa using hlt)]
  exact St.get_put_same h
theorem hidS_grow {s : St} {id : Nat} {pre : List AV} {b : AB} (h : s.get id = some b) : Grow s (hidS s id pre) ∧ Keeps s (hidS s id pre) := by
  have hlt := St.get_lt h
  refine ⟨⟨by rw [hidS_next]; omega, fun j hj hn => ?_⟩, by rw [hidS_next]; omega, by rw [hidS_low]; omega, fun j hj hl => ?_⟩
  · by_cases e : j = id
    · subst e
      rw [hidS_dead h]
      simp
    · rw [hidS_old hlt (by omega) e]
      exact hn
  · rw [hidS_low] at hl
    exact hidS_old hlt (by omega) (by omega)
variable {P : Program} {ρ ρ1 : Ren} {w w' : World}
theorem hide_step {s t : St} {id n' k z : Nat} {cs pre post : List AV} {L : Loc} {v : Value} (hR0 : R s ρ w) (hf : ∀ i, s.next ≤ i → ρ i = none) (hg : s.get id = some (.row cs true)) (hL : ρ id = some L) (hst : Step s t ρ ρ1 w w') (hR : R t ρ1 w')
    (ht : t.get id = some (.row (pre ++ post) true)) (hgo : ∀ j, j ≠ id → t.get j = s.get j) (hnx : t.next = s.next) (hlow : min s.low id ≤ t.low) (hv : VR ρ1 (.sl id 0 n' (some k) z) v) :
    ∃ ρ2, VR ρ2 (.sl s.next 0 n' none z) v ∧ Step s (hidS s id pre) ρ ρ2 w w' ∧ R (hidS s id pre) ρ2 w' := by
  have hρ : ρ1 = ρ := by
    funext i
    exact hst.ren i (by omega)
  subst hρ
  have hlt := St.get_lt hg
  have hfn := hf s.next (Nat.le_refl _)
  have hle : ρ1.le (ρ1.set s.next L) := Ren.le_set L hfn
  have hset : ρ1.set s.next L s.next = some L := Ren.set_same _ _ _
  have hne : ∀ i, i ≠ s.next → ρ1.set s.next L i = ρ1 i := fun i h => by simp [Ren.set, h]
  refine ⟨ρ1.set s.next L, ?_, ?_, ?_⟩
  · simp only [VR] at hv ⊢
    obtain ⟨M, a, c, hM, e, h1, h2, h3⟩ := hv
    rw [hL] at hM
    injection hM with hM
    subst hM
    exact ⟨L, a, c, hset, e, h1, (fun _ h => by cases h), h3⟩
  · refine ⟨by rw [hidS_next]; omega, by rw [hidS_low]; omega, fun i hi => ?_, hst.size, hst.os, hst.tape, hst.output, hst.drawn, fun b hb H => hst.frame b hb fun i M blk h1 => H i M blk (by rw [hidS_low]; omega), fun i b h1 h2 h3 => ?_, fun i M b h1 h2 h3 h4 => ?_, fun i h1 h2 => ?_⟩
    · rw [hidS_next] at hi
      exact hne i (by omega)
    · by_cases e : i = id
      · subst e
        rw [hidS_dead hg] at h2
        injection h2 with h2
        subst h2
        cases h3
      · rw [hidS_old hlt (by omega) e] at h2
        exact ⟨b, h2, h3, fun q => q⟩
    · by_cases e : i = s.next
      · subst e
        rw [hset] at h2
        injection h2 with h2
        subst h2
        exact .inr ⟨id, L, _, by rw [hidS_low]; omega, hL, hg, rfl, rfl⟩
      · have := St.get_lt h3
        rw [hidS_next] at this
        omega
    · have e : i ≠ id := fun q => by rw [q, hL] at h2; cases h2
      exact hidS_old hlt (by omega) e
  · refine ⟨fun i M e => ?_, fun i b M e1 e2 => ?_, fun i j M N bi bj hij e1 e2 e3 e4 e5 e6 => ?_⟩
    · by_cases q : i = s.next
      · rw [q, hset] at e
        injection e with e
        subst e
        exact hR.bound id L hL
      · rw [hne i q] at e
        exact hR.bound i M e
    · by_cases q : i = s.next
      · subst q
        rw [hset] at e2
        injection e2 with e2
        subst e2
        rw [hidS_new] at e1
        injection e1 with e1
        subst e1
        have hb := BlkOk.mono hle (hR.blk id _ L ht hL)
        simp only [BlkOk] at hb ⊢
        obtain ⟨cs', e, fr, h1, h2, h3, h4, h5, h6⟩ := hb
        refine ⟨cs', e, fr, h1, h2, by rw [List.length_append] at h3; omega, fun i v hi => h4 i v ?_, h5, ?_⟩
        · rw [List.getElem?_append_left (List.getElem?_eq_some_iff.1 hi).1]
          exact hi
        · rw [List.all_append, Bool.and_eq_true] at h6
          exact h6.1
      · rw [hne i q] at e2
        by_cases qd : i = id
        · subst qd
          rw [hidS_dead hg] at e1
          injection e1 with e1
          subst e1
          simp only [BlkOk]
        · rw [hidS_old hlt q qd, ← hgo i qd] at e1
          exact BlkOk.mono hle (hR.blk i b M e1 e2)
    · have key : ∀ i M b, ρ1.set s.next L i = some M → (hidS s id pre).get i = some b → b.live = true → ∃ i', (i' = i ∨ (i = s.next ∧ i' = id)) ∧ i' ≠ s.next ∧ ρ1 i' = some M ∧ ∃ b', t.get i' = some b' ∧ b'.live = true ∧ (b.owned = true → b'.owned = true) := by
        intro i M b h1 h2 h3
        by_cases q : i = s.next
        · subst q
          rw [hset] at h1
          injection h1 with h1
          subst h1
          exact ⟨id, .inr ⟨rfl, rfl⟩, by omega, hL, _, ht, rfl, fun _ => rfl⟩
        · rw [hne i q] at h1
          by_cases qd : i = id
          · subst qd
            rw [hidS_dead hg] at h2
            injection h2 with h2
            subst h2
            cases h3
          · rw [hidS_old hlt q qd, ← hgo i qd] at h2
            exact ⟨i, .inl rfl, q, h1, b, h2, h3, fun q => q⟩
      obtain ⟨i', hi', hin, m1, b1, g1, l1, o1⟩ := key i M bi e1 e3 (AB.live_of_owned e5)
      obtain ⟨j', hj', hjn, m2, b2, g2, l2, _⟩ := key j N bj e2 e4 e6
      refine hR.inj i' j' M N b1 b2 ?_ m1 m2 g1 g2 (o1 e5) l2
      intro e
      subst e
      have hid1 : i = id → False := fun q => by
        subst q
        rw [hidS_dead hg] at e3
        injection e3 with e3
        subst e3
        cases e5
      have hid2 : j = id → False := fun q => by
        subst q
        rw [hidS_dead hg] at e4
        injection e4 with e4
        subst e4
        cases e6
      rcases hi' with rfl | ⟨rfl, rfl⟩
      · rcases hj' with q | ⟨q1, q2⟩
        · exact hij q
        · exact hid1 q2
      · rcases hj' with q | ⟨q1, q2⟩
        · exact hid2 q.symm
        · exact hij q1.symm
theorem kill_step {s t : St} {id : Nat} {cs pre : List AV} {L : Loc} (hg : s.get id = some (.row cs true)) (hL : ρ id = some L) (hst : Step s t ρ ρ1 w w') (hR : R t ρ1 w')
    (ht : t.get s.next = some (.row pre true)) (hgo : ∀ j, j < s.next → t.get j = s.get j) (hnx : t.next = s.next + 1) (hlow : min s.low id ≤ t.low) :
    Step s (hidS s id pre) ρ ρ1 w w' ∧ R (hidS s id pre) ρ1 w' := by
  have hlt := St.get_lt hg
  have key : ∀ i b, (hidS s id pre).get i = some b → b.live = true → i ≠ id ∧ t.get i = some b := fun i b h1 h2 => by
    by_cases qd : i = id
    · subst qd
      rw [hidS_dead hg] at h1
      injection h1 with h1
      subst h1
      cases h2
    · refine ⟨qd, ?_⟩
      by_cases q : i = s.next
      · subst q
        rw [hidS_new] at h1
        rw [ht, h1]
      · have := St.get_lt h1
        rw [hidS_next] at this
        rw [hidS_old hlt q qd] at h1
        rw [hgo i (by omega), h1]
  refine ⟨⟨by rw [hidS_next]; omega, by rw [hidS_low]; omega, fun i hi => ?_, hst.size, hst.os, hst.tape, hst.output, hst.drawn, fun b hb H => hst.frame b hb fun i M blk h1 => H i M blk (by rw [hidS_low]; omega), fun i b h1 h2 h3 => ?_, fun i M b h1 h2 h3 h4 => ?_, fun i h1 h2 => ?_⟩, ⟨hR.bound, fun i b M e1 e2 => ?_, fun i j M N bi bj hij e1 e2 e3 e4 e5 e6 => ?_⟩⟩
  · rw [hidS_next] at hi
    exact hst.ren i (by omega)
  · exact hst.old i b h1 (key i b h2 h3).2 h3
  · rcases hst.new i M b h1 h2 (key i b h3 h4).2 h4 with q | ⟨i0, L0, b0, q1, q2⟩
    · exact .inl q
    · exact .inr ⟨i0, L0, b0, by rw [hidS_low]; omega, q2⟩
  · have e : i ≠ id := fun q => by rw [q, hL] at h2; cases h2
    exact hidS_old hlt (by omega) e
  · by_cases hl : b.live = true
    · exact hR.blk i b M (key i b e1 hl).2 e2
    · cases b <;> first | (exact absurd rfl hl) | simp only [BlkOk]
  · exact hR.inj i j M N bi bj hij e1 e2 (key i bi e3 (AB.live_of_owned e5)).2 (key j bj e4 e6).2 e5 e6

end Go.AM
end
/-
  Insert and Delete at pairs. Own work of this project; in part printed by a program of it.
-/
section
set_option maxRecDepth 100000
set_option maxHeartbeats 8000000
namespace Go.AM
open Go Go.Proofs

variable {s t u : St}

def ovlV (s : St) (x y : AV) : Option AV := match x, y with
    | .sl i _ n _ _, .sl j _ m _ _ =>
      if i ≠ j ∧ 0 < n ∧ 0 < m then
        match s.get i, s.get j with
        | some (.row _ true), some (.row (_ :: _) true) => some (.bool false)
        | _, _ => none
      else none
    | _, _ => none
theorem ar_ovl {call : Nat → List AV → St → Option (AV × St)} {env : Env} (x y : AO) : aread call env s (.ovl x y) = ovlV s (aev env x) (aev env y) := nrfl rfl
theorem st_ovl {call : Nat → List AV → St → Option (AV × St)} {base : Nat} {d r : Option Nat} {rest : List AOper} {Q : Env → St → Prop} {env : Env} (x y : AO) : awops call base (⟨d, .ovl x y, none, r, false⟩ :: rest) Q env s = pstep (aread call env s (.ovl x y)) fun v => awops call base rest Q (pE env d v) s := st_read (by simp) rfl rfl fun _ => rfl
def appzV (s : St) (sz bytes : Nat) (z : List AV) (a x : AV) : Option (AV × St) := match x with
  | .int .i64 n => if 0 ≤ n ∧ n ≤ 9223372036854775807 ∧ z.length = sz then aappend s sz bytes a (zeros z n.toNat) n.toNat else none
  | _ => none
theorem ae_appz {call : Nat → List AV → St → Option (AV × St)} {env : Env} (sz b : Nat) (z : List AV) (a x : AO) : aeff call env s (.appz sz b z a x) = appzV s sz b z (aev env a) (aev env x) := nrfl rfl
def capV : AV → Option AV
  | .sl _ _ _ (some c) _ => some (.int .i64 (c : Int))
  | .nils => some (.int .i64 0)
  | _ => none
theorem ap_cap {env : Env} (x : AO) : apure env (.cap x) = capV (aev env x) := nrfl (by
  simp only [apure, capV]
  cases aev env x with
  | sl id off len cap z => cases cap <;> rfl
  | _ => rfl)
def clrV (s : St) (z : List AV) (x : AV) : Option (AV × St) := match x with
    | .nils => some (.tup [], s)
    | .sl id off len _ sz =>
      if len = 0 then some (.tup [], s) else
      if sz = z.length then
        match s.get id with
        | some (.row cs true) => if off + len * sz ≤ cs.length then some (.tup [], s.put id (.row (setAt cs off (zeros z len)) true)) else none
        | _ => none
      else none
    | _ => none
theorem ae_clr {call : Nat → List AV → St → Option (AV × St)} {env : Env} (z : List AV) (x : AO) : aeff call env s (.clr z x) = clrV s z (aev env x) := nrfl (by
  simp only [aeff, clrV]
  cases aev env x <;> rfl)
def slc4V (sz : Nat) (x lo hi m : AV) : Option AV := apure [] (.slc sz (.c x) (some (.c lo)) (some (.c hi)) (some (.c m)))
theorem ap_slc4 {env : Env} (sz : Nat) (x lo hi m : AO) : apure env (.slc sz x (some lo) (some hi) (some m)) = slc4V sz (aev env x) (aev env lo) (aev env hi) (aev env m) := nrfl rfl

def insC (cs : List AV) (i : Nat) (vs : List AV) : List AV := cs.take (i * 2) ++ vs ++ cs.drop (i * 2)
def delC (cs : List AV) (i : Nat) : List AV := cs.take (i * 2) ++ cs.drop ((i + 1) * 2)
theorem asN (n m : Nat) (h : n ≤ m) : asNatIn (.int .i64 (n : Int)) m = some n := asNatIn_nat rfl h
theorem slcV_lo {id off n i c : Nat} (h : i ≤ n) : slcV 2 (.sl id off n (some c) 2) (some (.int .i64 (i : Int))) none = some (.sl id (off + i * 2) (n - i) (some (c - i)) 2) := by
  simp only [slcV, if_true, optNat, asN i n h]
theorem slcV_hi {id n i c : Nat} (h : i ≤ c) : slcV 2 (.sl id 0 n (some c) 2) none (some (.int .i64 (i : Int))) = some (.sl id 0 i (some c) 2) := by
  simp only [slcV, if_true, optNat, asN i c h]
  simp
theorem slcV_lohi {id n i j c : Nat} (h : j ≤ c) (hi : i ≤ j) : slcV 2 (.sl id 0 n (some c) 2) (some (.int .i64 (i : Int))) (some (.int .i64 (j : Int))) = some (.sl id (i * 2) (j - i) (some (c - i)) 2) := by
  simp only [slcV, if_true, optNat, asN j c h, asN i j hi]
  simp
theorem slcV_lon {id off n i : Nat} (h : i ≤ n) : slcV 2 (.sl id off n none 2) (some (.int .i64 (i : Int))) none = some (.sl id (off + i * 2) (n - i) none 2) := by
  simp only [slcV, if_true, optNat, asN i n h]
theorem slcV_nil0 : slcV 2 .nils (some (.int .i64 0)) none = some .nils := rfl
theorem lenV_slI (id off n z : Nat) (c : Option Nat) : lenV (.sl id off n c z) = some (.int .i64 (n : Int)) := rfl
/-- The first step in place: the tail, one place on. -/
theorem ins1 {id n i : Nat} {c1 c2 : Option Nat} {cs : List AV} (hg : s.get id = some (.row cs true)) (hl : cs.length = n * 2) (hi : i < n) :
    copyV s 2 (.sl id ((i + 1) * 2) (n + 1 - (i + 1)) c1 2) (.sl id (i * 2) (n + 1 - i) c2 2) = some (.int .i64 ((n - i : Nat) : Int), s.put id (.row (cs.take ((i + 1) * 2) ++ cs.drop (i * 2)) true)) := by
  have hm : min (n + 1 - i) (n + 1 - (i + 1)) = n - i := by omega
  have hp : shownP s 2 (n - i) (.sl id (i * 2) (n + 1 - i) c2 2) = some (cs.drop (i * 2)) := by
    simp only [shownP, hg]
    rw [if_pos ⟨trivial, by omega⟩, if_pos (by omega), List.take_of_length_le (by rw [List.length_drop]; omega)]
  simp only [copyV, lenOf, hm, hp, hg, if_true]
  rw [if_pos (by omega)]
  congr 4
  unfold setAt
  have hd : cs.drop ((i + 1) * 2 + (cs.drop (i * 2)).length) = [] := List.drop_eq_nil_of_le (by rw [List.length_drop]; omega)
  rw [hd, List.append_nil]
/-- The second one: the new element. -/
theorem ins2 {id vid m i : Nat} {c1 : Option Nat} {cs : List AV} {a b : AV} (hg : s.get id = some (.row cs true)) (hv : s.get vid = some (.row [a, b] true)) (hl : (i + 1) * 2 ≤ cs.length) (hm : 0 < m) :
    copyV s 2 (.sl id (i * 2) m c1 2) (.sl vid 0 1 (some 1) 2) = some (.int .i64 1, s.put id (.row (cs.take (i * 2) ++ [a, b] ++ cs.drop ((i + 1) * 2)) true)) := by
  have hm' : min 1 m = 1 := by omega
  have hp : shownP s 2 1 (.sl vid 0 1 (some 1) 2) = some [a, b] := by
    simp only [shownP, hv]
    rfl
  simp only [copyV, lenOf, hm', hp, hg, if_true]
  rw [if_pos (by omega)]
  congr 4
  unfold setAt
  rw [show i * 2 + [a, b].length = (i + 1) * 2 by simp; omega]
theorem ins12 {cs : List AV} {a b : AV} {n i : Nat} (hl : cs.length = n * 2) (hi : i < n) : (cs.take ((i + 1) * 2) ++ cs.drop (i * 2)).take (i * 2) ++ [a, b] ++ (cs.take ((i + 1) * 2) ++ cs.drop (i * 2)).drop ((i + 1) * 2) = insC cs i [a, b] := by
  have h1 : (cs.take ((i + 1) * 2)).length = (i + 1) * 2 := by rw [List.length_take]; omega
  unfold insC
  rw [List.take_append_of_le_length (by omega), List.take_take, Nat.min_eq_left (by omega), List.drop_append, List.drop_eq_nil_of_le (by omega), h1, Nat.sub_self, List.drop_zero, List.nil_append]
theorem gro1 {id n i by_ : Nat} {z : List AV} {cs : List AV} (hby : by_ = 24 ∨ by_ = 40) (hz : z.length = 2) (hg : s.get id = some (.row cs true)) (hl : cs.length = n * 2) (hi : i < n) (hb : n ≤ 100000) :
    appzV s 2 by_ z (.sl id 0 i (some n) 2) (.int .i64 ((n + 1 - i : Nat) : Int)) = some (.sl s.next 0 (n + 1) none 2, s.push (.row (cs.take (i * 2) ++ zeros z (n + 1 - i)) true)) := by
  simp only [appzV]
  rw [if_pos ⟨by omega, by omega, hz⟩]
  simp only [Int.toNat_natCast, aappend, hg, if_true]
  rw [if_neg (by omega), if_pos ⟨by omega, by unfold roomBytes; rcases hby with rfl | rfl <;> omega⟩, if_neg (by omega), List.drop_zero, show i + (n + 1 - i) = n + 1 by omega]
theorem zeros_len (z : List AV) (n : Nat) : (zeros z n).length = n * z.length := by
  unfold zeros
  induction n with
  | zero => simp
  | succ n ih => rw [List.replicate_succ, List.flatten_cons, List.length_append, ih, Nat.succ_mul]; omega
/-- The tail, behind the new element, in a new block. -/
theorem gro2 {id k n i : Nat} {c1 : Option Nat} {cs rs : List AV} (hg : s.get id = some (.row cs true)) (hk : s.get k = some (.row rs true)) (hl : cs.length = n * 2) (hi : i < n) (hr : rs.length = (n + 1) * 2) :
    copyV s 2 (.sl k ((i + 1) * 2) (n + 1 - (i + 1)) none 2) (.sl id (i * 2) (n - i) c1 2) = some (.int .i64 ((n - i : Nat) : Int), s.put k (.row (rs.take ((i + 1) * 2) ++ cs.drop (i * 2)) true)) := by
  have hm : min (n - i) (n + 1 - (i + 1)) = n - i := by omega
  have hp : shownP s 2 (n - i) (.sl id (i * 2) (n - i) c1 2) = some (cs.drop (i * 2)) := by
    simp only [shownP, hg]
    rw [if_pos ⟨trivial, by omega⟩, if_pos (by omega), List.take_of_length_le (by rw [List.length_drop]; omega)]
  simp only [copyV, lenOf, hm, hp, hk, if_true]
  rw [if_pos (by omega)]
  congr 4
  unfold setAt
  have hd : rs.drop ((i + 1) * 2 + (cs.drop (i * 2)).length) = [] := List.drop_eq_nil_of_le (by rw [List.length_drop]; omega)
  rw [hd, List.append_nil]
theorem gro12 {cs : List AV} {a b : AV} {z : List AV} {n i : Nat} (hz : z.length = 2) (hl : cs.length = n * 2) (hi : i < n) : ((cs.take (i * 2) ++ zeros z (n + 1 - i)).take (i * 2) ++ [a, b] ++ (cs.take (i * 2) ++ zeros z (n + 1 - i)).drop ((i + 1) * 2)).take ((i + 1) * 2) ++ cs.drop (i * 2) = insC cs i [a, b] := by
  have h1 : (cs.take (i * 2)).length = i * 2 := by rw [List.length_take]; omega
  have h2 : (cs.take (i * 2) ++ zeros z (n + 1 - i)).take (i * 2) = cs.take (i * 2) := by rw [List.take_append_of_le_length (by omega), List.take_of_length_le (by omega)]
  unfold insC
  rw [h2]
  congr 1
  rw [List.take_append_of_le_length (by simp [h1]; omega), List.take_of_length_le (by simp [h1]; omega)]
theorem app_end {id vid n by_ : Nat} {cs : List AV} {a b : AV} (hby : by_ = 24 ∨ by_ = 40) (hg : s.get id = some (.row cs true)) (hv : s.get vid = some (.row [a, b] true)) (hl : cs.length = n * 2) (hb : n ≤ 100000) :
    appV s 2 by_ (.sl id 0 n none 2) (.sl vid 0 1 (some 1) 2) = some (.sl s.next 0 (n + 1) none 2, hidS s id (cs ++ [a, b])) := by
  have hp : shown s 2 (.sl vid 0 1 (some 1) 2) = some [a, b] := by
    simp only [shown, hv]
    rfl
  simp only [appV, hp, lenOf, aappend, hg, if_true]
  rw [if_neg (by omega), if_pos ⟨by omega, by unfold roomBytes; rcases hby with rfl | rfl <;> omega⟩, List.drop_zero, List.take_of_length_le (by omega)]
  rfl
theorem app_nil2 {vid by_ : Nat} {a b : AV} (hby : by_ = 24 ∨ by_ = 40) (hv : s.get vid = some (.row [a, b] true)) : appV s 2 by_ .nils (.sl vid 0 1 (some 1) 2) = some (.sl s.next 0 1 none 2, s.push (.row [a, b] true)) := by
  have hp : shown s 2 (.sl vid 0 1 (some 1) 2) = some [a, b] := by
    simp only [shown, hv]
    rfl
  simp only [appV, hp, lenOf, aappend]
  rw [if_neg (by omega), if_pos (by unfold roomBytes; rcases hby with rfl | rfl <;> omega)]
def conIns : List AV → St → Option (AV × St) := fun args s => match args with
  | [.nils, .int .i64 0, .sl vid 0 1 (some 1) 2] => match s.get vid with
    | some (.row [a, b] true) => some (.sl s.next 0 1 none 2, s.push (.row [a, b] true))
    | _ => none
  | [.sl id 0 n none 2, .int .i64 i, .sl vid 0 1 (some 1) 2] => match s.get id, s.get vid with
    | some (.row cs true), some (.row [a, b] true) => if id ≠ vid ∧ cs.length = n * 2 ∧ n ≤ 100000 ∧ 0 ≤ i ∧ i ≤ n then some (.sl s.next 0 (n + 1) none 2, hidS s id (insC cs i.toNat [a, b])) else none
    | _, _ => none
  | _ => none
def conDel : List AV → St → Option (AV × St) := fun args s => match args with
  | [.sl id 0 n none 2, .int .i64 i, .int .i64 j] => match s.get id with
    | some (.row cs true) => if cs.length = n * 2 ∧ n ≤ 100000 ∧ 0 ≤ i ∧ i < n ∧ j = i + 1 then some (.sl s.next 0 (n - 1) none 2, hidS s id (delC cs i.toNat)) else none
    | _ => none
  | _ => none
end Go.AM
end
/-
  Insert at numbers. Own work of this project; in part printed by a program of it.
-/
section
set_option maxRecDepth 100000
set_option maxHeartbeats 8000000
namespace Go.AM
open Go Go.Proofs

variable {s t u : St}
noncomputable def R_InsI : Con := runFn (tb []) a41
theorem s_InsI : SoundAt Try.prog 41 R_InsI := run_sound (tb_sound (l := []) (by simp)) mixed Try.func41 k41 c41
theorem n_InsI : noNxtC a41.body = true := by kernel_rfl
theorem w_InsI_r {s : St} {id n k vid ix : Nat} {cs : List AV} {a b : AV} (hg : s.get id = some (.row cs true)) (hv : s.get vid = some (.row [a, b] true)) (hne : id ≠ vid) (hl : cs.length = n * 2) (hi : ix < n) (hk : n < k) (hb : n ≤ 100000) : ∀ env : Env, elen env = a41.ntmps → (∀ i x_, [.sl id 0 n (some k) 2, .int .i64 (ix : Int), .sl vid 0 1 (some 1) 2][i]? = some x_ → E env i = x_) → awp (tb []) a41.body (fun x e t => (∀ i, x ≠ .exit i) ∧ ∃ r, aresults e t a41.results = some r ∧ r = .sl id 0 (n + 1) (some k) 2 ∧ t.get id = some (.row (insC cs ix [a, b]) true) ∧ (∀ j, j ≠ id → t.get j = s.get j) ∧ t.next = s.next ∧ min s.low id ≤ t.low) env s := by
  intro env hlen ha
  have h0 : E env 0 = _ := ha 0 _ rfl
  have h1 : E env 1 = _ := ha 1 _ rfl
  have h2 : E env 2 = _ := ha 2 _ rfl
  have hlen : elen env = _ := hlen
  simp only [a41] at hlen
  unfold a41
  try dsimp only [oO, oG]
  have n10 : (((1 : Nat) : Int) = 0) = False := eq_false (by decide)
  have zin := eq_false (show ¬ (ix : Int) = (n : Int) by omega)
  have w1 : IntKind.i64.wrap ((n : Int) + ((1 : Nat) : Int)) = ((n + 1 : Nat) : Int) := wrapI (by omega) (by omega)
  have w2 : IntKind.i64.wrap ((ix : Int) + ((1 : Nat) : Int)) = ((ix + 1 : Nat) : Int) := wrapI (by omega) (by omega)
  have zk := eq_false (show ¬ (k : Int) < ((n + 1 : Nat) : Int) by omega)
  have cap : capV (.sl id 0 n (some k) 2) = some (.int .i64 (k : Int)) := rfl
  have l1 := slcV_lo (id := id) (off := 0) (n := n) (i := ix) (c := k) (by omega)
  have l2 := slcV_hi (id := id) (n := n) (i := n + 1) (c := k) (by omega)
  have l3 := slcV_lo (id := id) (off := 0) (n := n + 1) (i := ix + 1) (c := k) (by omega)
  have l4 := slcV_lo (id := id) (off := 0) (n := n + 1) (i := ix) (c := k) (by omega)
  have hov : ovlV s (.sl vid 0 1 (some 1) 2) (.sl id ((ix + 1) * 2) (n + 1 - (ix + 1)) (some (k - (ix + 1))) 2) = some (.bool false) := by
    cases cs with
    | nil => simp at hl; omega
    | cons c cs =>
      simp only [ovlV, hv, hg]
      rw [if_pos ⟨Ne.symm hne, by omega, by omega⟩]
  have c1 := ins1 (c1 := some (k - (ix + 1))) (c2 := some (k - ix)) hg hl hi
  obtain ⟨s1, hs1⟩ : ∃ s1, s1 = s.put id (.row (cs.take ((ix + 1) * 2) ++ cs.drop (ix * 2)) true) := ⟨_, rfl⟩
  rw [← hs1] at c1
  have g1 : s1.get id = some (.row (cs.take ((ix + 1) * 2) ++ cs.drop (ix * 2)) true) := by rw [hs1]; exact St.get_put_same hg
  have v1 : s1.get vid = some (.row [a, b] true) := by rw [hs1, St.get_put_ne _ _ (St.get_lt hg) (Ne.symm hne)]; exact hv
  have c2 := ins2 (i := ix) (m := n + 1 - ix) (c1 := some (k - ix)) g1 v1 (by rw [List.length_append, List.length_take, List.length_drop]; omega) (by omega)
  rw [ins12 hl hi] at c2
  have gf : (s1.put id (.row (insC cs ix [a, b]) true)).get id = some (.row (insC cs ix [a, b]) true) := St.get_put_same g1
  have go : ∀ j, j ≠ id → (s1.put id (.row (insC cs ix [a, b]) true)).get j = s.get j := fun j hj => by
    rw [St.get_put_ne _ _ (St.get_lt g1) hj, hs1, St.get_put_ne _ _ (St.get_lt hg) hj]
  have gn : (s1.put id (.row (insC cs ix [a, b]) true)).next = s.next := by rw [hs1]; simp
  have gl : min s.low id ≤ (s1.put id (.row (insC cs ix [a, b]) true)).low := by rw [hs1]; first | (simp; done) | (simp; omega)
  simp (config := {contextual := true, maxDischargeDepth := 12}) only [tb_at, h0, h1, h2, hlen, n10, zin, w1, w2, zk, cap, l1, l2, l3, l4, hov, c1, c2, notV_bool, Bool.not_true, Bool.not_false, decide_true, decide_false, bin_eql, bin_neq, lenV_slI, ↓bD, bU, forall_const, bS, implies_true, isNx, eq_self, ↓wp_cond, ↓wp_loop, ↓reduceIte, reduceCtorEq, Nat.reduceEqDiff, Nat.reduceLT, Nat.reduceAdd, Nat.reduceMul, bT, ↓sg_bsl, ↓st_callf, bX, ap_mkfn, ap_conv, ↓wi_seq, ↓wi_base, ↓wi_block, ↓wi_cond, ↓wi_loop, ↓wi_rf, ↓wy_seq, ↓wy_base, ↓wy_block, ↓wy_cond, ↓wy_loop, ↓wy_yld, ap_cap, ae_appz, ae_clr, ar_ovl, ↓st_ovl, ae_copy, ap_slc4]
  all_goals first | exact ⟨_, rfl, rfl, gf, go, gn, gl⟩ | exact ⟨rfl, gf, go, gn, gl⟩ | exact ⟨gf, go, gn, gl⟩ | skip
theorem w_InsI_g {s : St} {id n vid ix : Nat} {cs : List AV} {a b : AV} (hg : s.get id = some (.row cs true)) (hv : s.get vid = some (.row [a, b] true)) (hne : id ≠ vid) (hl : cs.length = n * 2) (hi : ix < n) (hb : n ≤ 100000) : ∀ env : Env, elen env = a41.ntmps → (∀ i x_, [.sl id 0 n (some n) 2, .int .i64 (ix : Int), .sl vid 0 1 (some 1) 2][i]? = some x_ → E env i = x_) → awp (tb []) a41.body (fun x e t => (∀ i, x ≠ .exit i) ∧ ∃ r, aresults e t a41.results = some r ∧ r = .sl s.next 0 (n + 1) none 2 ∧ t.get s.next = some (.row (insC cs ix [a, b]) true) ∧ (∀ j, j < s.next → t.get j = s.get j) ∧ t.next = s.next + 1 ∧ min s.low id ≤ t.low) env s := by
  intro env hlen ha
  have h0 : E env 0 = _ := ha 0 _ rfl
  have h1 : E env 1 = _ := ha 1 _ rfl
  have h2 : E env 2 = _ := ha 2 _ rfl
  have hlen : elen env = _ := hlen
  simp only [a41] at hlen
  unfold a41
  try dsimp only [oO, oG]
  have n10 : (((1 : Nat) : Int) = 0) = False := eq_false (by decide)
  have zin := eq_false (show ¬ (ix : Int) = (n : Int) by omega)
  have w1 : IntKind.i64.wrap ((n : Int) + ((1 : Nat) : Int)) = ((n + 1 : Nat) : Int) := wrapI (by omega) (by omega)
  have w2 : IntKind.i64.wrap ((ix : Int) + ((1 : Nat) : Int)) = ((ix + 1 : Nat) : Int) := wrapI (by omega) (by omega)
  have zk := eq_true (show (n : Int) < ((n + 1 : Nat) : Int) by omega)
  have cap : capV (.sl id 0 n (some n) 2) = some (.int .i64 (n : Int)) := rfl
  have l1 := slcV_lo (id := id) (off := 0) (n := n) (i := ix) (c := n) (by omega)
  have l2 := slcV_hi (id := id) (n := n) (i := ix) (c := n) (by omega)
  have w3 : IntKind.i64.wrap (((n + 1 : Nat) : Int) - (ix : Int)) = ((n + 1 - ix : Nat) : Int) := by
    rw [show ((n + 1 : Nat) : Int) - (ix : Int) = ((n + 1 - ix : Nat) : Int) by omega]
    exact wrapI (by omega) (by omega)
  have a1 := gro1 (by_ := 24) (z := [.int .i64 0, .str ⟨#[]⟩]) (by decide) rfl hg hl hi hb
  obtain ⟨rs, hrs⟩ : ∃ rs, rs = cs.take (ix * 2) ++ zeros [.int .i64 0, .str ⟨#[]⟩] (n + 1 - ix) := ⟨_, rfl⟩
  rw [← hrs] at a1
  have hrl : rs.length = (n + 1) * 2 := by
    rw [hrs, List.length_append, zeros_len, List.length_take]
    simp
    omega
  obtain ⟨s1, hs1⟩ : ∃ s1, s1 = s.push (.row rs true) := ⟨_, rfl⟩
  rw [← hs1] at a1
  have hidl := St.get_lt hg
  have k1 : s1.get s.next = some (.row rs true) := by rw [hs1]; exact St.get_push_new _ _
  have o1 : ∀ j, j < s.next → s1.get j = s.get j := fun j hj => by rw [hs1, St.get_push_old _ _ hj]
  have v1 : s1.get vid = some (.row [a, b] true) := by rw [o1 _ (St.get_lt hv)]; exact hv
  have l3 := slcV_lon (id := s.next) (off := 0) (n := n + 1) (i := ix) (by omega)
  have c1 := ins2 (i := ix) (m := n + 1 - ix) (c1 := none) k1 v1 (by omega) (by omega)
  obtain ⟨s2, hs2⟩ : ∃ s2, s2 = s1.put s.next (.row (rs.take (ix * 2) ++ [a, b] ++ rs.drop ((ix + 1) * 2)) true) := ⟨_, rfl⟩
  rw [← hs2] at c1
  have hl1 := St.get_lt k1
  have k2 : s2.get s.next = some (.row (rs.take (ix * 2) ++ [a, b] ++ rs.drop ((ix + 1) * 2)) true) := by rw [hs2]; exact St.get_put_same k1
  have o2 : ∀ j, j < s.next → s2.get j = s.get j := fun j hj => by rw [hs2, St.get_put_ne _ _ hl1 (by omega), o1 j hj]
  have g2 : s2.get id = some (.row cs true) := by rw [o2 _ hidl]; exact hg
  have l4 := slcV_lon (id := s.next) (off := 0) (n := n + 1) (i := ix + 1) (by omega)
  have c2 := gro2 (c1 := some (n - ix)) g2 k2 hl hi (by simp [hrl]; omega)
  have e12 : (rs.take (ix * 2) ++ [a, b] ++ rs.drop ((ix + 1) * 2)).take ((ix + 1) * 2) ++ cs.drop (ix * 2) = insC cs ix [a, b] := by rw [hrs]; exact gro12 rfl hl hi
  rw [e12] at c2
  have gf : (s2.put s.next (.row (insC cs ix [a, b]) true)).get s.next = some (.row (insC cs ix [a, b]) true) := St.get_put_same k2
  have go : ∀ j, j < s.next → (s2.put s.next (.row (insC cs ix [a, b]) true)).get j = s.get j := fun j hj => by
    rw [St.get_put_ne _ _ (St.get_lt k2) (by omega), o2 j hj]
  have gn : (s2.put s.next (.row (insC cs ix [a, b]) true)).next = s.next + 1 := by rw [hs2, hs1]; simp
  have gl : min s.low id ≤ (s2.put s.next (.row (insC cs ix [a, b]) true)).low := by rw [hs2, hs1]; first | (simp; done) | (simp; omega)
  simp (config := {contextual := true, maxDischargeDepth := 12}) only [tb_at, h0, h1, h2, hlen, n10, zin, w1, w2, w3, zk, cap, l1, l2, l3, l4, a1, c1, c2, notV_bool, Bool.not_true, Bool.not_false, decide_true, decide_false, bin_eql, bin_neq, lenV_slI, ↓bD, bU, forall_const, bS, implies_true, isNx, eq_self, ↓wp_cond, ↓wp_loop, ↓reduceIte, reduceCtorEq, Nat.reduceEqDiff, Nat.reduceLT, Nat.reduceAdd, Nat.reduceMul, bT, ↓sg_bsl, ↓st_callf, bX, ap_mkfn, ap_conv, ↓wi_seq, ↓wi_base, ↓wi_block, ↓wi_cond, ↓wi_loop, ↓wi_rf, ↓wy_seq, ↓wy_base, ↓wy_block, ↓wy_cond, ↓wy_loop, ↓wy_yld, ap_cap, ae_appz, ae_clr, ar_ovl, ↓st_ovl, ae_copy, ap_slc4]
  all_goals first | exact ⟨_, rfl, rfl, gf, go, gn, gl⟩ | exact ⟨rfl, gf, go, gn, gl⟩ | exact ⟨gf, go, gn, gl⟩ | skip
theorem w_InsI_e {s : St} {id n vid : Nat} {cs : List AV} {a b : AV} (hg : s.get id = some (.row cs true)) (hv : s.get vid = some (.row [a, b] true)) (hl : cs.length = n * 2) (hb : n ≤ 100000) : ∀ env : Env, elen env = a41.ntmps → (∀ i x_, [.sl id 0 n none 2, .int .i64 (n : Int), .sl vid 0 1 (some 1) 2][i]? = some x_ → E env i = x_) → awp (tb []) a41.body (fun x e t => (∀ i, x ≠ .exit i) ∧ ∃ r, aresults e t a41.results = some r ∧ r = .sl s.next 0 (n + 1) none 2 ∧ t = hidS s id (cs ++ [a, b])) env s := by
  intro env hlen ha
  have h0 : E env 0 = _ := ha 0 _ rfl
  have h1 : E env 1 = _ := ha 1 _ rfl
  have h2 : E env 2 = _ := ha 2 _ rfl
  have hlen : elen env = _ := hlen
  simp only [a41] at hlen
  unfold a41
  try dsimp only [oO, oG]
  have n10 : (((1 : Nat) : Int) = 0) = False := eq_false (by decide)
  have zin := eq_true (show (n : Int) = (n : Int) from rfl)
  have l1 := slcV_lon (id := id) (off := 0) (n := n) (i := n) (Nat.le_refl _)
  have a1 := app_end (by_ := 24) (by decide) hg hv hl hb
  simp (config := {contextual := true, maxDischargeDepth := 12}) only [tb_at, h0, h1, h2, hlen, n10, zin, l1, a1, notV_bool, Bool.not_true, Bool.not_false, decide_true, decide_false, bin_eql, bin_neq, lenV_slI, ↓bD, bU, forall_const, bS, implies_true, isNx, eq_self, ↓wp_cond, ↓wp_loop, ↓reduceIte, reduceCtorEq, Nat.reduceEqDiff, Nat.reduceLT, Nat.reduceAdd, Nat.reduceMul, bT, ↓sg_bsl, ↓st_callf, bX, ap_mkfn, ap_conv, ↓wi_seq, ↓wi_base, ↓wi_block, ↓wi_cond, ↓wi_loop, ↓wi_rf, ↓wy_seq, ↓wy_base, ↓wy_block, ↓wy_cond, ↓wy_loop, ↓wy_yld, ap_cap, ae_appz, ae_clr, ar_ovl, ↓st_ovl, ae_copy, ap_slc4]
  all_goals first | exact ⟨_, rfl, rfl, rfl⟩ | exact ⟨_, rfl, rfl⟩ | exact ⟨rfl, rfl⟩ | skip
theorem w_InsI_n {s : St} {vid : Nat} {a b : AV} (hv : s.get vid = some (.row [a, b] true)) : ∀ env : Env, elen env = a41.ntmps → (∀ i x_, [.nils, .int .i64 0, .sl vid 0 1 (some 1) 2][i]? = some x_ → E env i = x_) → awp (tb []) a41.body (fun x e t => (∀ i, x ≠ .exit i) ∧ ∃ r, aresults e t a41.results = some r ∧ r = .sl s.next 0 1 none 2 ∧ t = s.push (.row [a, b] true)) env s := by
  intro env hlen ha
  have h0 : E env 0 = _ := ha 0 _ rfl
  have h1 : E env 1 = _ := ha 1 _ rfl
  have h2 : E env 2 = _ := ha 2 _ rfl
  have hlen : elen env = _ := hlen
  simp only [a41] at hlen
  unfold a41
  try dsimp only [oO, oG]
  have n10 : (((1 : Nat) : Int) = 0) = False := eq_false (by decide)
  have n00 : ((0 : Int) = 0) = True := eq_true rfl
  have ln : lenV .nils = some (.int .i64 0) := rfl
  have a1 := app_nil2 (by_ := 24) (by decide) hv
  simp (config := {contextual := true, maxDischargeDepth := 12}) only [tb_at, h0, h1, h2, hlen, n10, n00, ln, slcV_nil0, a1, notV_bool, Bool.not_true, Bool.not_false, decide_true, decide_false, bin_eql, bin_neq, lenV_slI, ↓bD, bU, forall_const, bS, implies_true, isNx, eq_self, ↓wp_cond, ↓wp_loop, ↓reduceIte, reduceCtorEq, Nat.reduceEqDiff, Nat.reduceLT, Nat.reduceAdd, Nat.reduceMul, bT, ↓sg_bsl, ↓st_callf, bX, ap_mkfn, ap_conv, ↓wi_seq, ↓wi_base, ↓wi_block, ↓wi_cond, ↓wi_loop, ↓wi_rf, ↓wy_seq, ↓wy_base, ↓wy_block, ↓wy_cond, ↓wy_loop, ↓wy_yld, ap_cap, ae_appz, ae_clr, ar_ovl, ↓st_ovl, ae_copy, ap_slc4]
  all_goals first | exact ⟨_, rfl, rfl, rfl⟩ | exact ⟨_, rfl, rfl⟩ | exact ⟨rfl, rfl⟩ | skip
theorem s_cInsI : SoundAt Try.prog 41 conIns := by
  intro args s r s' h
  unfold conIns at h
  split at h
  · rename_i vid
    split at h
    · rename_i a b hv
      injection h with h
      obtain ⟨rfl, rfl⟩ := Prod.mk.inj h
      obtain ⟨r, t, q1, rfl, rfl⟩ := run_awp (call := tb []) n_InsI (args := [.nils, .int .i64 0, .sl vid 0 1 (some 1) 2]) (s := s) (Q := fun r t => r = .sl s.next 0 1 none 2 ∧ t = s.push (.row [a, b] true)) (by simp [a41]) (w_InsI_n hv)
      exact s_InsI _ _ _ _ q1
    · cases h
  · rename_i id n ix vid
    split at h
    · rename_i cs a b hg hv
      split at h
      · rename_i hc
        obtain ⟨hne, hl, hb, hi0, hi⟩ := hc
        injection h with h
        obtain ⟨rfl, rfl⟩ := Prod.mk.inj h
        obtain ⟨ix, rfl⟩ : ∃ m : Nat, ix = (m : Int) := ⟨ix.toNat, by omega⟩
        rw [Int.toNat_natCast]
        by_cases hin : ix = n
        · subst hin
          obtain ⟨r, t, q1, rfl, rfl⟩ := run_awp (call := tb []) n_InsI (args := [.sl id 0 ix none 2, .int .i64 (ix : Int), .sl vid 0 1 (some 1) 2]) (s := s) (Q := fun r t => r = .sl s.next 0 (ix + 1) none 2 ∧ t = hidS s id (cs ++ [a, b])) (by simp [a41]) (w_InsI_e hg hv hl hb)
          have e : insC cs ix [a, b] = cs ++ [a, b] := by
            unfold insC
            rw [List.take_of_length_le (by omega), List.drop_eq_nil_of_le (by omega), List.append_nil]
          rw [e]
          exact s_InsI _ _ _ _ q1
        · have hlt : ix < n := by omega
          refine ⟨k41, hidS_grow hg, fun ρ w cargs hf hR hv' => ?_⟩
          obtain ⟨x1, x2, rfl, v1, v2⟩ : ∃ x1 x2, cargs = x1 :: x2 ∧ VR ρ (.sl id 0 n none 2) x1 ∧ VRs ρ [.int .i64 (ix : Int), .sl vid 0 1 (some 1) 2] x2 := by
            simp only [VRs] at hv'
            obtain ⟨c1, r1, rfl, e1, c2, r2, rfl, e2, c3, r3, rfl, e3, rfl⟩ := hv'
            exact ⟨c1, [c2, c3], rfl, e1, VRs_cons.2 ⟨e2, VRs_cons.2 ⟨e3, VRs_nil⟩⟩⟩
          have v1' := v1
          simp only [VR] at v1'
          obtain ⟨L, A, c, hL, rfl, hle, _, hc⟩ := v1'
          have vk : VR ρ (.sl id 0 n (some c) 2) (.slice (some A) n c) := by
            simp only [VR]
            exact ⟨L, A, c, hL, rfl, hle, (fun k hk => by injection hk), hc⟩
          by_cases hcn : c = n
          · subst hcn
            obtain ⟨r, t, q1, rfl, gf, go, gn, gl⟩ := run_awp (call := tb []) n_InsI (args := [.sl id 0 c (some c) 2, .int .i64 (ix : Int), .sl vid 0 1 (some 1) 2]) (s := s) (Q := fun r t => r = .sl s.next 0 (c + 1) none 2 ∧ t.get s.next = some (.row (insC cs ix [a, b]) true) ∧ (∀ j, j < s.next → t.get j = s.get j) ∧ t.next = s.next + 1 ∧ min s.low id ≤ t.low) (by simp [a41]) (w_InsI_g hg hv hne hl hlt hb)
            obtain ⟨_, _, hcalls⟩ := s_InsI _ _ _ _ q1
            refine (hcalls ρ w _ hf hR (VRs_cons.2 ⟨vk, v2⟩)).mono fun e w' hp => ?_
            obtain ⟨ρ', v, rfl, k1, k2, k3⟩ := hp
            obtain ⟨m1, m2⟩ := kill_step hg hL k2 k3 gf go gn gl
            exact ⟨ρ', v, rfl, k1, m1, m2⟩
          · obtain ⟨r, t, q1, rfl, gf, go, gn, gl⟩ := run_awp (call := tb []) n_InsI (args := [.sl id 0 n (some c) 2, .int .i64 (ix : Int), .sl vid 0 1 (some 1) 2]) (s := s) (Q := fun r t => r = .sl id 0 (n + 1) (some c) 2 ∧ t.get id = some (.row (insC cs ix [a, b]) true) ∧ (∀ j, j ≠ id → t.get j = s.get j) ∧ t.next = s.next ∧ min s.low id ≤ t.low) (by simp [a41]) (w_InsI_r hg hv hne hl hlt (by omega) hb)
            obtain ⟨_, _, hcalls⟩ := s_InsI _ _ _ _ q1
            refine (hcalls ρ w _ hf hR (VRs_cons.2 ⟨vk, v2⟩)).mono fun e w' hp => ?_
            obtain ⟨ρ', v, rfl, k1, k2, k3⟩ := hp
            obtain ⟨ρ2, m0, m1, m2⟩ := hide_step (post := []) hR hf hg hL k2 k3 (by rw [List.append_nil]; exact gf) go gn gl k1
            exact ⟨ρ2, v, rfl, m0, m1, m2⟩
      · cases h
    · cases h
  · cases h

end Go.AM
end
/-
  Insert at strings. Own work of this project; in part printed by a program of it.
-/
section
set_option maxRecDepth 100000
set_option maxHeartbeats 8000000
namespace Go.AM
open Go Go.Proofs

variable {s t u : St}
noncomputable def R_InsS : Con := runFn (tb []) a47
theorem s_InsS : SoundAt Try.prog 47 R_InsS := run_sound (tb_sound (l := []) (by simp)) mixed Try.func47 k47 c47
theorem n_InsS : noNxtC a47.body = true := by kernel_rfl
theorem w_InsS_r {s : St} {id n k vid ix : Nat} {cs : List AV} {a b : AV} (hg : s.get id = some (.row cs true)) (hv : s.get vid = some (.row [a, b] true)) (hne : id ≠ vid) (hl : cs.length = n * 2) (hi : ix < n) (hk : n < k) (hb : n ≤ 100000) : ∀ env : Env, elen env = a47.ntmps → (∀ i x_, [.sl id 0 n (some k) 2, .int .i64 (ix : Int), .sl vid 0 1 (some 1) 2][i]? = some x_ → E env i = x_) → awp (tb []) a47.body (fun x e t => (∀ i, x ≠ .exit i) ∧ ∃ r, aresults e t a47.results = some r ∧ r = .sl id 0 (n + 1) (some k) 2 ∧ t.get id = some (.row (insC cs ix [a, b]) true) ∧ (∀ j, j ≠ id → t.get j = s.get j) ∧ t.next = s.next ∧ min s.low id ≤ t.low) env s := by
  intro env hlen ha
  have h0 : E env 0 = _ := ha 0 _ rfl
  have h1 : E env 1 = _ := ha 1 _ rfl
  have h2 : E env 2 = _ := ha 2 _ rfl
  have hlen : elen env = _ := hlen
  simp only [a47] at hlen
  unfold a47
  try dsimp only [oO, oG]
  have n10 : (((1 : Nat) : Int) = 0) = False := eq_false (by decide)
  have zin := eq_false (show ¬ (ix : Int) = (n : Int) by omega)
  have w1 : IntKind.i64.wrap ((n : Int) + ((1 : Nat) : Int)) = ((n + 1 : Nat) : Int) := wrapI (by omega) (by omega)
  have w2 : IntKind.i64.wrap ((ix : Int) + ((1 : Nat) : Int)) = ((ix + 1 : Nat) : Int) := wrapI (by omega) (by omega)
  have zk := eq_false (show ¬ (k : Int) < ((n + 1 : Nat) : Int) by omega)
  have cap : capV (.sl id 0 n (some k) 2) = some (.int .i64 (k : Int)) := rfl
  have l1 := slcV_lo (id := id) (off := 0) (n := n) (i := ix) (c := k) (by omega)
  have l2 := slcV_hi (id := id) (n := n) (i := n + 1) (c := k) (by omega)
  have l3 := slcV_lo (id := id) (off := 0) (n := n + 1) (i := ix + 1) (c := k) (by omega)
  have l4 := slcV_lo (id := id) (off := 0) (n := n + 1) (i := ix) (c := k) (by omega)
  have hov : ovlV s (.sl vid 0 1 (some 1) 2) (.sl id ((ix + 1) * 2) (n + 1 - (ix + 1)) (some (k - (ix + 1))) 2) = some (.bool false) := by
    cases cs with
    | nil => simp at hl; omega
    | cons c cs =>
      simp only [ovlV, hv, hg]
      rw [if_pos ⟨Ne.symm hne, by omega, by omega⟩]
  have c1 := ins1 (c1 := some (k - (ix + 1))) (c2 := some (k - ix)) hg hl hi
  obtain ⟨s1, hs1⟩ : ∃ s1, s1 = s.put id (.row (cs.take ((ix + 1) * 2) ++ cs.drop (ix * 2)) true) := ⟨_, rfl⟩
  rw [← hs1] at c1
  have g1 : s1.get id = some (.row (cs.take ((ix + 1) * 2) ++ cs.drop (ix * 2)) true) := by rw [hs1]; exact St.get_put_same hg
  have v1 : s1.get vid = some (.row [a, b] true) := by rw [hs1, St.get_put_ne _ _ (St.get_lt hg) (Ne.symm hne)]; exact hv
  have c2 := ins2 (i := ix) (m := n + 1 - ix) (c1 := some (k - ix)) g1 v1 (by rw [List.length_append, List.length_take, List.length_drop]; omega) (by omega)
  rw [ins12 hl hi] at c2
  have gf : (s1.put id (.row (insC cs ix [a, b]) true)).get id = some (.row (insC cs ix [a, b]) true) := St.get_put_same g1
  have go : ∀ j, j ≠ id → (s1.put id (.row (insC cs ix [a, b]) true)).get j = s.get j := fun j hj => by
    rw [St.get_put_ne _ _ (St.get_lt g1) hj, hs1, St.get_put_ne _ _ (St.get_lt hg) hj]
  have gn : (s1.put id (.row (insC cs ix [a, b]) true)).next = s.next := by rw [hs1]; simp
  have gl : min s.low id ≤ (s1.put id (.row (insC cs ix [a, b]) true)).low := by rw [hs1]; first | (simp; done) | (simp; omega)
  simp (config := {contextual := true, maxDischargeDepth := 12}) only [tb_at, h0, h1, h2, hlen, n10, zin, w1, w2, zk, cap, l1, l2, l3, l4, hov, c1, c2, notV_bool, Bool.not_true, Bool.not_false, decide_true, decide_false, bin_eql, bin_neq, lenV_slI, ↓bD, bU, forall_const, bS, implies_true, isNx, eq_self, ↓wp_cond, ↓wp_loop, ↓reduceIte, reduceCtorEq, Nat.reduceEqDiff, Nat.reduceLT, Nat.reduceAdd, Nat.reduceMul, bT, ↓sg_bsl, ↓st_callf, bX, ap_mkfn, ap_conv, ↓wi_seq, ↓wi_base, ↓wi_block, ↓wi_cond, ↓wi_loop, ↓wi_rf, ↓wy_seq, ↓wy_base, ↓wy_block, ↓wy_cond, ↓wy_loop, ↓wy_yld, ap_cap, ae_appz, ae_clr, ar_ovl, ↓st_ovl, ae_copy, ap_slc4]
  all_goals first | exact ⟨_, rfl, rfl, gf, go, gn, gl⟩ | exact ⟨rfl, gf, go, gn, gl⟩ | exact ⟨gf, go, gn, gl⟩ | skip
theorem w_InsS_g {s : St} {id n vid ix : Nat} {cs : List AV} {a b : AV} (hg : s.get id = some (.row cs true)) (hv : s.get vid = some (.row [a, b] true)) (hne : id ≠ vid) (hl : cs.length = n * 2) (hi : ix < n) (hb : n ≤ 100000) : ∀ env : Env, elen env = a47.ntmps → (∀ i x_, [.sl id 0 n (some n) 2, .int .i64 (ix : Int), .sl vid 0 1 (some 1) 2][i]? = some x_ → E env i = x_) → awp (tb []) a47.body (fun x e t => (∀ i, x ≠ .exit i) ∧ ∃ r, aresults e t a47.results = some r ∧ r = .sl s.next 0 (n + 1) none 2 ∧ t.get s.next = some (.row (insC cs ix [a, b]) true) ∧ (∀ j, j < s.next → t.get j = s.get j) ∧ t.next = s.next + 1 ∧ min s.low id ≤ t.low) env s := by
  intro env hlen ha
  have h0 : E env 0 = _ := ha 0 _ rfl
  have h1 : E env 1 = _ := ha 1 _ rfl
  have h2 : E env 2 = _ := ha 2 _ rfl
  have hlen : elen env = _ := hlen
  simp only [a47] at hlen
  unfold a47
  try dsimp only [oO, oG]
  have n10 : (((1 : Nat) : Int) = 0) = False := eq_false (by decide)
  have zin := eq_false (show ¬ (ix : Int) = (n : Int) by omega)
  have w1 : IntKind.i64.wrap ((n : Int) + ((1 : Nat) : Int)) = ((n + 1 : Nat) : Int) := wrapI (by omega) (by omega)
  have w2 : IntKind.i64.wrap ((ix : Int) + ((1 : Nat) : Int)) = ((ix + 1 : Nat) : Int) := wrapI (by omega) (by omega)
  have zk := eq_true (show (n : Int) < ((n + 1 : Nat) : Int) by omega)
  have cap : capV (.sl id 0 n (some n) 2) = some (.int .i64 (n : Int)) := rfl
  have l1 := slcV_lo (id := id) (off := 0) (n := n) (i := ix) (c := n) (by omega)
  have l2 := slcV_hi (id := id) (n := n) (i := ix) (c := n) (by omega)
  have w3 : IntKind.i64.wrap (((n + 1 : Nat) : Int) - (ix : Int)) = ((n + 1 - ix : Nat) : Int) := by
    rw [show ((n + 1 : Nat) : Int) - (ix : Int) = ((n + 1 - ix : Nat) : Int) by omega]
    exact wrapI (by omega) (by omega)
  have a1 := gro1 (by_ := 40) (z := [.str ⟨#[]⟩, .nils]) (by decide) rfl hg hl hi hb
  obtain ⟨rs, hrs⟩ : ∃ rs, rs = cs.take (ix * 2) ++ zeros [.str ⟨#[]⟩, .nils] (n + 1 - ix) := ⟨_, rfl⟩
  rw [← hrs] at a1
  have hrl : rs.length = (n + 1) * 2 := by
    rw [hrs, List.length_append, zeros_len, List.length_take]
    simp
    omega
  obtain ⟨s1, hs1⟩ : ∃ s1, s1 = s.push (.row rs true) := ⟨_, rfl⟩
  rw [← hs1] at a1
  have hidl := St.get_lt hg
  have k1 : s1.get s.next = some (.row rs true) := by rw [hs1]; exact St.get_push_new _ _
  have o1 : ∀ j, j < s.next → s1.get j = s.get j := fun j hj => by rw [hs1, St.get_push_old _ _ hj]
  have v1 : s1.get vid = some (.row [a, b] true) := by rw [o1 _ (St.get_lt hv)]; exact hv
  have l3 := slcV_lon (id := s.next) (off := 0) (n := n + 1) (i := ix) (by omega)
  have c1 := ins2 (i := ix) (m := n + 1 - ix) (c1 := none) k1 v1 (by omega) (by omega)
  obtain ⟨s2, hs2⟩ : ∃ s2, s2 = s1.put s.next (.row (rs.take (ix * 2) ++ [a, b] ++ rs.drop ((ix + 1) * 2)) true) := ⟨_, rfl⟩
  rw [← hs2] at c1
  have hl1 := St.get_lt k1
  have k2 : s2.get s.next = some (.row (rs.take (ix * 2) ++ [a, b] ++ rs.drop ((ix + 1) * 2)) true) := by rw [hs2]; exact St.get_put_same k1
  have o2 : ∀ j, j < s.next → s2.get j = s.get j := fun j hj => by rw [hs2, St.get_put_ne _ _ hl1 (by omega), o1 j hj]
  have g2 : s2.get id = some (.row cs true) := by rw [o2 _ hidl]; exact hg
  have l4 := slcV_lon (id := s.next) (off := 0) (n := n + 1) (i := ix + 1) (by omega)
  have c2 := gro2 (c1 := some (n - ix)) g2 k2 hl hi (by simp [hrl]; omega)
  have e12 : (rs.take (ix * 2) ++ [a, b] ++ rs.drop ((ix + 1) * 2)).take ((ix + 1) * 2) ++ cs.drop (ix * 2) = insC cs ix [a, b] := by rw [hrs]; exact gro12 rfl hl hi
  rw [e12] at c2
  have gf : (s2.put s.next (.row (insC cs ix [a, b]) true)).get s.next = some (.row (insC cs ix [a, b]) true) := St.get_put_same k2
  have go : ∀ j, j < s.next → (s2.put s.next (.row (insC cs ix [a, b]) true)).get j = s.get j := fun j hj => by
    rw [St.get_put_ne _ _ (St.get_lt k2) (by omega), o2 j hj]
  have gn : (s2.put s.next (.row (insC cs ix [a, b]) true)).next = s.next + 1 := by rw [hs2, hs1]; simp
  have gl : min s.low id ≤ (s2.put s.next (.row (insC cs ix [a, b]) true)).low := by rw [hs2, hs1]; first | (simp; done) | (simp; omega)
  simp (config := {contextual := true, maxDischargeDepth := 12}) only [tb_at, h0, h1, h2, hlen, n10, zin, w1, w2, w3, zk, cap, l1, l2, l3, l4, a1, c1, c2, notV_bool, Bool.not_true, Bool.not_false, decide_true, decide_false, bin_eql, bin_neq, lenV_slI, ↓bD, bU, forall_const, bS, implies_true, isNx, eq_self, ↓wp_cond, ↓wp_loop, ↓reduceIte, reduceCtorEq, Nat.reduceEqDiff, Nat.reduceLT, Nat.reduceAdd, Nat.reduceMul, bT, ↓sg_bsl, ↓st_callf, bX, ap_mkfn, ap_conv, ↓wi_seq, ↓wi_base, ↓wi_block, ↓wi_cond, ↓wi_loop, ↓wi_rf, ↓wy_seq, ↓wy_base, ↓wy_block, ↓wy_cond, ↓wy_loop, ↓wy_yld, ap_cap, ae_appz, ae_clr, ar_ovl, ↓st_ovl, ae_copy, ap_slc4]
  all_goals first | exact ⟨_, rfl, rfl, gf, go, gn, gl⟩ | exact ⟨rfl, gf, go, gn, gl⟩ | exact ⟨gf, go, gn, gl⟩ | skip
theorem w_InsS_e {s : St} {id n vid : Nat} {cs : List AV} {a b : AV} (hg : s.get id = some (.row cs true)) (hv : s.get vid = some (.row [a, b] true)) (hl : cs.length = n * 2) (hb : n ≤ 100000) : ∀ env : Env, elen env = a47.ntmps → (∀ i x_, [.sl id 0 n none 2, .int .i64 (n : Int), .sl vid 0 1 (some 1) 2][i]? = some x_ → E env i = x_) → awp (tb []) a47.body (fun x e t => (∀ i, x ≠ .exit i) ∧ ∃ r, aresults e t a47.results = some r ∧ r = .sl s.next 0 (n + 1) none 2 ∧ t = hidS s id (cs ++ [a, b])) env s := by
  intro env hlen ha
  have h0 : E env 0 = _ := ha 0 _ rfl
  have h1 : E env 1 = _ := ha 1 _ rfl
  have h2 : E env 2 = _ := ha 2 _ rfl
  have hlen : elen env = _ := hlen
  simp only [a47] at hlen
  unfold a47
  try dsimp only [oO, oG]
  have n10 : (((1 : Nat) : Int) = 0) = False := eq_false (by decide)
  have zin := eq_true (show (n : Int) = (n : Int) from rfl)
  have l1 := slcV_lon (id := id) (off := 0) (n := n) (i := n) (Nat.le_refl _)
  have a1 := app_end (by_ := 40) (by decide) hg hv hl hb
  simp (config := {contextual := true, maxDischargeDepth := 12}) only [tb_at, h0, h1, h2, hlen, n10, zin, l1, a1, notV_bool, Bool.not_true, Bool.not_false, decide_true, decide_false, bin_eql, bin_neq, lenV_slI, ↓bD, bU, forall_const, bS, implies_true, isNx, eq_self, ↓wp_cond, ↓wp_loop, ↓reduceIte, reduceCtorEq, Nat.reduceEqDiff, Nat.reduceLT, Nat.reduceAdd, Nat.reduceMul, bT, ↓sg_bsl, ↓st_callf, bX, ap_mkfn, ap_conv, ↓wi_seq, ↓wi_base, ↓wi_block, ↓wi_cond, ↓wi_loop, ↓wi_rf, ↓wy_seq, ↓wy_base, ↓wy_block, ↓wy_cond, ↓wy_loop, ↓wy_yld, ap_cap, ae_appz, ae_clr, ar_ovl, ↓st_ovl, ae_copy, ap_slc4]
  all_goals first | exact ⟨_, rfl, rfl, rfl⟩ | exact ⟨_, rfl, rfl⟩ | exact ⟨rfl, rfl⟩ | skip
theorem w_InsS_n {s : St} {vid : Nat} {a b : AV} (hv : s.get vid = some (.row [a, b] true)) : ∀ env : Env, elen env = a47.ntmps → (∀ i x_, [.nils, .int .i64 0, .sl vid 0 1 (some 1) 2][i]? = some x_ → E env i = x_) → awp (tb []) a47.body (fun x e t => (∀ i, x ≠ .exit i) ∧ ∃ r, aresults e t a47.results = some r ∧ r = .sl s.next 0 1 none 2 ∧ t = s.push (.row [a, b] true)) env s := by
  intro env hlen ha
  have h0 : E env 0 = _ := ha 0 _ rfl
  have h1 : E env 1 = _ := ha 1 _ rfl
  have h2 : E env 2 = _ := ha 2 _ rfl
  have hlen : elen env = _ := hlen
  simp only [a47] at hlen
  unfold a47
  try dsimp only [oO, oG]
  have n10 : (((1 : Nat) : Int) = 0) = False := eq_false (by decide)
  have n00 : ((0 : Int) = 0) = True := eq_true rfl
  have ln : lenV .nils = some (.int .i64 0) := rfl
  have a1 := app_nil2 (by_ := 40) (by decide) hv
  simp (config := {contextual := true, maxDischargeDepth := 12}) only [tb_at, h0, h1, h2, hlen, n10, n00, ln, slcV_nil0, a1, notV_bool, Bool.not_true, Bool.not_false, decide_true, decide_false, bin_eql, bin_neq, lenV_slI, ↓bD, bU, forall_const, bS, implies_true, isNx, eq_self, ↓wp_cond, ↓wp_loop, ↓reduceIte, reduceCtorEq, Nat.reduceEqDiff, Nat.reduceLT, Nat.reduceAdd, Nat.reduceMul, bT, ↓sg_bsl, ↓st_callf, bX, ap_mkfn, ap_conv, ↓wi_seq, ↓wi_base, ↓wi_block, ↓wi_cond, ↓wi_loop, ↓wi_rf, ↓wy_seq, ↓wy_base, ↓wy_block, ↓wy_cond, ↓wy_loop, ↓wy_yld, ap_cap, ae_appz, ae_clr, ar_ovl, ↓st_ovl, ae_copy, ap_slc4]
  all_goals first | exact ⟨_, rfl, rfl, rfl⟩ | exact ⟨_, rfl, rfl⟩ | exact ⟨rfl, rfl⟩ | skip
theorem s_cInsS : SoundAt Try.prog 47 conIns := by
  intro args s r s' h
  unfold conIns at h
  split at h
  · rename_i vid
    split at h
    · rename_i a b hv
      injection h with h
      obtain ⟨rfl, rfl⟩ := Prod.mk.inj h
      obtain ⟨r, t, q1, rfl, rfl⟩ := run_awp (call := tb []) n_InsS (args := [.nils, .int .i64 0, .sl vid 0 1 (some 1) 2]) (s := s) (Q := fun r t => r = .sl s.next 0 1 none 2 ∧ t = s.push (.row [a, b] true)) (by simp [a47]) (w_InsS_n hv)
      exact s_InsS _ _ _ _ q1
    · cases h
  · rename_i id n ix vid
    split at h
    · rename_i cs a b hg hv
      split at h
      · rename_i hc
        obtain ⟨hne, hl, hb, hi0, hi⟩ := hc
        injection h with h
        obtain ⟨rfl, rfl⟩ := Prod.mk.inj h
        obtain ⟨ix, rfl⟩ : ∃ m : Nat, ix = (m : Int) := ⟨ix.toNat, by omega⟩
        rw [Int.toNat_natCast]
        by_cases hin : ix = n
        · subst hin
          obtain ⟨r, t, q1, rfl, rfl⟩ := run_awp (call := tb []) n_InsS (args := [.sl id 0 ix none 2, .int .i64 (ix : Int), .sl vid 0 1 (some 1) 2]) (s := s) (Q := fun r t => r = .sl s.next 0 (ix + 1) none 2 ∧ t = hidS s id (cs ++ [a, b])) (by simp [a47]) (w_InsS_e hg hv hl hb)
          have e : insC cs ix [a, b] = cs ++ [a, b] := by
            unfold insC
            rw [List.take_of_length_le (by omega), List.drop_eq_nil_of_le (by omega), List.append_nil]
          rw [e]
          exact s_InsS _ _ _ _ q1
        · have hlt : ix < n := by omega
          refine ⟨k47, hidS_grow hg, fun ρ w cargs hf hR hv' => ?_⟩
          obtain ⟨x1, x2, rfl, v1, v2⟩ : ∃ x1 x2, cargs = x1 :: x2 ∧ VR ρ (.sl id 0 n none 2) x1 ∧ VRs ρ [.int .i64 (ix : Int), .sl vid 0 1 (some 1) 2] x2 := by
            simp only [VRs] at hv'
            obtain ⟨c1, r1, rfl, e1, c2, r2, rfl, e2, c3, r3, rfl, e3, rfl⟩ := hv'
            exact ⟨c1, [c2, c3], rfl, e1, VRs_cons.2 ⟨e2, VRs_cons.2 ⟨e3, VRs_nil⟩⟩⟩
          have v1' := v1
          simp only [VR] at v1'
          obtain ⟨L, A, c, hL, rfl, hle, _, hc⟩ := v1'
          have vk : VR ρ (.sl id 0 n (some c) 2) (.slice (some A) n c) := by
            simp only [VR]
            exact ⟨L, A, c, hL, rfl, hle, (fun k hk => by injection hk), hc⟩
          by_cases hcn : c = n
          · subst hcn
            obtain ⟨r, t, q1, rfl, gf, go, gn, gl⟩ := run_awp (call := tb []) n_InsS (args := [.sl id 0 c (some c) 2, .int .i64 (ix : Int), .sl vid 0 1 (some 1) 2]) (s := s) (Q := fun r t => r = .sl s.next 0 (c + 1) none 2 ∧ t.get s.next = some (.row (insC cs ix [a, b]) true) ∧ (∀ j, j < s.next → t.get j = s.get j) ∧ t.next = s.next + 1 ∧ min s.low id ≤ t.low) (by simp [a47]) (w_InsS_g hg hv hne hl hlt hb)
            obtain ⟨_, _, hcalls⟩ := s_InsS _ _ _ _ q1
            refine (hcalls ρ w _ hf hR (VRs_cons.2 ⟨vk, v2⟩)).mono fun e w' hp => ?_
            obtain ⟨ρ', v, rfl, k1, k2, k3⟩ := hp
            obtain ⟨m1, m2⟩ := kill_step hg hL k2 k3 gf go gn gl
            exact ⟨ρ', v, rfl, k1, m1, m2⟩
          · obtain ⟨r, t, q1, rfl, gf, go, gn, gl⟩ := run_awp (call := tb []) n_InsS (args := [.sl id 0 n (some c) 2, .int .i64 (ix : Int), .sl vid 0 1 (some 1) 2]) (s := s) (Q := fun r t => r = .sl id 0 (n + 1) (some c) 2 ∧ t.get id = some (.row (insC cs ix [a, b]) true) ∧ (∀ j, j ≠ id → t.get j = s.get j) ∧ t.next = s.next ∧ min s.low id ≤ t.low) (by simp [a47]) (w_InsS_r hg hv hne hl hlt (by omega) hb)
            obtain ⟨_, _, hcalls⟩ := s_InsS _ _ _ _ q1
            refine (hcalls ρ w _ hf hR (VRs_cons.2 ⟨vk, v2⟩)).mono fun e w' hp => ?_
            obtain ⟨ρ', v, rfl, k1, k2, k3⟩ := hp
            obtain ⟨ρ2, m0, m1, m2⟩ := hide_step (post := []) hR hf hg hL k2 k3 (by rw [List.append_nil]; exact gf) go gn gl k1
            exact ⟨ρ2, v, rfl, m0, m1, m2⟩
      · cases h
    · cases h
  · cases h

end Go.AM
end
/-
  Delete. Own work of this project; in part printed by a program of it.
-/
section
set_option maxRecDepth 100000
set_option maxHeartbeats 8000000
namespace Go.AM
open Go Go.Proofs

variable {s t u : St}
noncomputable def R_DelI : Con := runFn (tb []) a44
theorem s_DelI : SoundAt Try.prog 44 R_DelI := run_sound (tb_sound (l := []) (by simp)) mixed Try.func44 k44 c44
theorem n_DelI : noNxtC a44.body = true := by kernel_rfl
theorem w_DelI {s : St} {id n k ix : Nat} {cs : List AV} (hg : s.get id = some (.row cs true)) (hl : cs.length = n * 2) (hi : ix < n) (hk : n ≤ k) (hb : n ≤ 100000) : ∀ env : Env, elen env = a44.ntmps → (∀ i x_, [.sl id 0 n (some k) 2, .int .i64 (ix : Int), .int .i64 ((ix + 1 : Nat) : Int)][i]? = some x_ → E env i = x_) → awp (tb []) a44.body (fun x e t => (∀ i, x ≠ .exit i) ∧ ∃ r, aresults e t a44.results = some r ∧ r = .sl id 0 (n - 1) (some k) 2 ∧ t.get id = some (.row (delC cs ix ++ [.int .i64 0, .str ⟨#[]⟩]) true) ∧ (∀ j, j ≠ id → t.get j = s.get j) ∧ t.next = s.next ∧ min s.low id ≤ t.low) env s := by
  intro env hlen ha
  have h0 : E env 0 = _ := ha 0 _ rfl
  have h1 : E env 1 = _ := ha 1 _ rfl
  have h2 : E env 2 = _ := ha 2 _ rfl
  have hlen : elen env = _ := hlen
  simp only [a44] at hlen
  unfold a44
  try dsimp only [oO, oG]
  have zin := eq_false (show ¬ (ix : Int) = ((ix + 1 : Nat) : Int) by omega)
  have l1 : slc4V 2 (.sl id 0 n (some k) 2) (.int .i64 (ix : Int)) (.int .i64 ((ix + 1 : Nat) : Int)) (.int .i64 (n : Int)) = some (.sl id (ix * 2) 1 (some (n - ix)) 2) := by
    unfold slc4V
    simp only [apure, aev, Option.map_some, Option.isSome_some, Bool.true_and, optNat, asN n k hk, asN (ix + 1) n (by omega), asN ix (ix + 1) (by omega)]
    simp
  have l2 := slcV_hi (id := id) (n := n) (i := ix) (c := k) (by omega)
  have l3 := slcV_lo (id := id) (off := 0) (n := n) (i := ix + 1) (c := k) (by omega)
  have hsh : shown s 2 (.sl id ((ix + 1) * 2) (n - (ix + 1)) (some (k - (ix + 1))) 2) = some (cs.drop ((ix + 1) * 2)) := by
    simp only [shown, hg, if_true]
    rw [if_pos (by omega), List.take_of_length_le (by rw [List.length_drop]; omega)]
  obtain ⟨s1, hap, g1, o1, n1, w1⟩ : ∃ s1, appV s 2 24 (.sl id 0 ix (some k) 2) (.sl id ((ix + 1) * 2) (n - (ix + 1)) (some (k - (ix + 1))) 2) = some (.sl id 0 (n - 1) (some k) 2, s1) ∧ s1.get id = some (.row (delC cs ix ++ (cs.drop ((n - 1) * 2))) true) ∧ (∀ j, j ≠ id → s1.get j = s.get j) ∧ s1.next = s.next ∧ min s.low id ≤ s1.low := by
    have hdl : (cs.drop ((ix + 1) * 2)).length = (n - 1 - ix) * 2 := by rw [List.length_drop]; omega
    simp only [appV, hsh, lenOf, aappend, hg, if_true]
    by_cases h0 : n - (ix + 1) = 0
    · rw [if_pos h0]
      refine ⟨s, by rw [show n - 1 = ix by omega], ?_, fun _ _ => rfl, rfl, by omega⟩
      rw [hg]
      congr 2
      unfold delC
      rw [List.drop_eq_nil_of_le (by omega), List.append_nil, show (n - 1) * 2 = ix * 2 by omega, List.take_append_drop]
    · rw [if_neg h0, if_pos ⟨by omega, by unfold roomBytes; omega⟩, if_pos (by omega), if_pos (by simp; omega)]
      refine ⟨_, by rw [show ix + (n - (ix + 1)) = n - 1 by omega], ?_, fun j hj => St.get_put_ne _ _ (St.get_lt hg) hj, by simp, by first | (simp; done) | (simp; omega)⟩
      rw [St.get_put_same hg]
      congr 2
      unfold setAt delC
      rw [Nat.zero_add, hdl, show ix * 2 + (n - 1 - ix) * 2 = (n - 1) * 2 by omega]
  have l4 := slcV_lohi (id := id) (n := n - 1) (i := n - 1) (j := n) (c := k) hk (by omega)
  rw [show n - (n - 1) = 1 by omega] at l4
  have hpl : (delC cs ix).length = (n - 1) * 2 := by
    unfold delC
    rw [List.length_append, List.length_take, List.length_drop]
    omega
  have hzz : zeros [.int .i64 0, .str ⟨#[]⟩] 1 = [.int .i64 0, .str ⟨#[]⟩] := rfl
  have hcl : clrV s1 [.int .i64 0, .str ⟨#[]⟩] (.sl id ((n - 1) * 2) 1 (some (k - (n - 1))) 2) = some (.tup [], s1.put id (.row (delC cs ix ++ [.int .i64 0, .str ⟨#[]⟩]) true)) := by
    simp only [clrV, g1, hzz]
    rw [if_neg (by decide), if_pos (show 2 = ([.int .i64 0, .str ⟨#[]⟩] : List AV).length from rfl), if_pos (by rw [List.length_append, hpl, List.length_drop]; omega)]
    congr 4
    unfold setAt
    rw [List.take_append_of_le_length (by omega), List.take_of_length_le (by omega), List.drop_eq_nil_of_le (by simp [hpl]; omega), List.append_nil]
  have gf : (s1.put id (.row (delC cs ix ++ [.int .i64 0, .str ⟨#[]⟩]) true)).get id = some (.row (delC cs ix ++ [.int .i64 0, .str ⟨#[]⟩]) true) := St.get_put_same g1
  have go : ∀ j, j ≠ id → (s1.put id (.row (delC cs ix ++ [.int .i64 0, .str ⟨#[]⟩]) true)).get j = s.get j := fun j hj => by
    rw [St.get_put_ne _ _ (St.get_lt g1) hj, o1 j hj]
  have gn : (s1.put id (.row (delC cs ix ++ [.int .i64 0, .str ⟨#[]⟩]) true)).next = s.next := by rw [← n1]; simp
  have gl : min s.low id ≤ (s1.put id (.row (delC cs ix ++ [.int .i64 0, .str ⟨#[]⟩]) true)).low := by first | (simp; done) | (simp; omega)
  simp (config := {contextual := true, maxDischargeDepth := 12}) only [tb_at, reserve0, h0, h1, h2, hlen, zin, l1, l2, l3, hap, l4, hcl, notV_bool, Bool.not_true, Bool.not_false, decide_true, decide_false, bin_eql, bin_neq, lenV_slI, ↓bD, bU, forall_const, bS, implies_true, isNx, eq_self, ↓wp_cond, ↓wp_loop, ↓reduceIte, reduceCtorEq, Nat.reduceEqDiff, Nat.reduceLT, Nat.reduceAdd, Nat.reduceMul, bT, ↓sg_bsl, ↓st_callf, bX, ap_mkfn, ap_conv, ↓wi_seq, ↓wi_base, ↓wi_block, ↓wi_cond, ↓wi_loop, ↓wi_rf, ↓wy_seq, ↓wy_base, ↓wy_block, ↓wy_cond, ↓wy_loop, ↓wy_yld, ap_cap, ae_appz, ae_clr, ar_ovl, ↓st_ovl, ae_copy, ap_slc4]
  all_goals first | exact ⟨_, rfl, rfl, gf, go, gn, gl⟩ | exact ⟨rfl, gf, go, gn, gl⟩ | exact ⟨gf, go, gn, gl⟩ | skip
theorem s_cDelI : SoundAt Try.prog 44 conDel := by
  intro args s r s' h
  unfold conDel at h
  split at h
  · rename_i id n ix j
    split at h
    · rename_i cs hg
      split at h
      · rename_i hc
        obtain ⟨hl, hb, hi0, hi, rfl⟩ := hc
        injection h with h
        obtain ⟨rfl, rfl⟩ := Prod.mk.inj h
        obtain ⟨ix, rfl⟩ : ∃ m : Nat, ix = (m : Int) := ⟨ix.toNat, by omega⟩
        rw [Int.toNat_natCast, show (ix : Int) + 1 = ((ix + 1 : Nat) : Int) by omega]
        refine ⟨k44, hidS_grow hg, fun ρ w cargs hf hR hv' => ?_⟩
        obtain ⟨x1, x2, rfl, v1, v2⟩ : ∃ x1 x2, cargs = x1 :: x2 ∧ VR ρ (.sl id 0 n none 2) x1 ∧ VRs ρ [.int .i64 (ix : Int), .int .i64 ((ix + 1 : Nat) : Int)] x2 := by
          simp only [VRs] at hv'
          obtain ⟨c1, r1, rfl, e1, c2, r2, rfl, e2, c3, r3, rfl, e3, rfl⟩ := hv'
          exact ⟨c1, [c2, c3], rfl, e1, VRs_cons.2 ⟨e2, VRs_cons.2 ⟨e3, VRs_nil⟩⟩⟩
        have v1' := v1
        simp only [VR] at v1'
        obtain ⟨L, A, c, hL, rfl, hle, _, hc⟩ := v1'
        have vk : VR ρ (.sl id 0 n (some c) 2) (.slice (some A) n c) := by
          simp only [VR]
          exact ⟨L, A, c, hL, rfl, hle, (fun k hk => by injection hk), hc⟩
        have hlt : ix < n := by omega
        have hw := w_DelI (k := c) hg hl hlt hle hb
        have hz := run_awp (call := tb []) n_DelI (args := [.sl id 0 n (some c) 2, .int .i64 (ix : Int), .int .i64 ((ix + 1 : Nat) : Int)]) (s := s) (Q := fun r t => r = .sl id 0 (n - 1) (some c) 2 ∧ t.get id = some (.row (delC cs ix ++ [.int .i64 0, .str ⟨#[]⟩]) true) ∧ (∀ j, j ≠ id → t.get j = s.get j) ∧ t.next = s.next ∧ min s.low id ≤ t.low) (by simp [a44])
        replace hz := hz hw
        clear hw
        obtain ⟨r, t, q1, hr, gf, go, gn, gl⟩ := hz
        subst hr
        obtain ⟨_, _, hcalls⟩ := s_DelI _ _ _ _ q1
        refine (hcalls ρ w _ hf hR (VRs_cons.2 ⟨vk, v2⟩)).mono fun e w' hp => ?_
        obtain ⟨ρ', v, rfl, k1, k2, k3⟩ := hp
        obtain ⟨ρ2, m0, m1, m2⟩ := hide_step hR hf hg hL k2 k3 gf go gn gl k1
        exact ⟨ρ2, v, rfl, m0, m1, m2⟩
      · cases h
    · cases h
  · cases h

end Go.AM
end
/-
  Ordered maps: pairs, orders, searching. Own work of this project; in part printed by a program of it.
-/
section
set_option maxRecDepth 100000
set_option maxHeartbeats 8000000
namespace Go.AM
open Go Go.Proofs

variable {s t u : St}

def callvV (call : Nat → List AV → St → Option (AV × St)) (f : AV) (args : List AV) (s : St) : Option (AV × St) := match f with
  | .fn g caps => acall (call g) false (args ++ caps) s
  | _ => none
theorem ae_callvV {call : Nat → List AV → St → Option (AV × St)} {env : Env} (x : AO) (l : List AO) : aeff call env s (.callv x false l) = callvV call (aev env x) (l.map (aev env)) s := nrfl rfl
theorem callvV_fn {call : Nat → List AV → St → Option (AV × St)} (g : Nat) (caps args : List AV) : callvV call (.fn g caps) args s = acall (call g) false (args ++ caps) s := nrfl rfl
theorem run_any {call : Nat → List AV → St → Option (AV × St)} {fn : AFn} (hn : noNxtC fn.body = true) {args : List AV} (hl : args.length ≤ fn.ntmps) {s : St} {Q : AV → St → Prop} (hQ : ∀ r t t', (∀ id, t'.get id = t.get id) → t'.next = t.next → Q r t → Q r t') (hg : ∀ r t, r.ground = true → Keep s t → Q r t → Q r s)
    (h : ∀ env : Env, elen env = fn.ntmps → (∀ i v, args[i]? = some v → E env i = v) → awp call fn.body (fun x e t => (∀ i, x ≠ .exit i) ∧ ∃ r, aresults e t fn.results = some r ∧ Q r t ∧ Keep (lowd s) t) env (lowd s)) :
    ∃ r t, acall (runFn call fn) false args s = some (r, t) ∧ Q r t ∧ Keep s t := by
  obtain ⟨r, t, h1, h2, h3⟩ := run_awp hn hl (Q := fun r t => Q r t ∧ Keep (lowd s) t) h
  have hk0 : Keep s (lowd s) := ⟨Nat.le_refl _, fun _ _ => rfl, Nat.min_le_right _ _⟩
  by_cases hgr : r.ground = true
  · exact ⟨r, s, acall_same h1 h3 hgr, hg r t hgr (hk0.trans h3) h2, .refl s⟩
  · obtain ⟨t', g1, g2, g3, g4⟩ := acall_new h1 (h3.chg []) (.inl (by simpa using hgr))
    exact ⟨r, t', g1, hQ r t t' g2 g3 h2, g4.keep⟩
/-! ### A disk -/
theorem bin_nff (g : Nat) (c : List AV) : binOp .eql .nf (.fn g c) .nilf = some (.bool false) := nrfl rfl
theorem bin_nfn : binOp .eql .nf .nilf .nilf = some (.bool true) := nrfl rfl
theorem bin_nffx (g : Nat) (c : List AV) : binOp .neq .nf (.fn g c) .nilf = some (.bool true) := nrfl rfl
theorem bin_nfnx : binOp .neq .nf .nilf .nilf = some (.bool false) := nrfl rfl
theorem bin_shr1 (n : Nat) : binOp .shr .no (.int .u64 (n : Int)) (.int .u64 1) = some (.int .u64 ((n / 2 : Nat) : Int)) := by
  simp only [binOp, shOp]
  have h1 : ¬ ((1 : Int) < 0) := by decide
  have h2 : (2 : Int) ^ (min (Int.toNat 1) IntKind.u64.bits) = 2 := by decide
  rw [if_neg h1, h2]
  have : Int.fdiv (n : Int) 2 = ((n / 2 : Nat) : Int) := by
    rw [Int.fdiv_eq_ediv_of_nonneg _ (by decide)]
    omega
  simp only [this]
theorem wrap_u64' {n : Nat} (h : n < 4611686018427387904) : IntKind.u64.wrap (n : Int) = (n : Int) := by
  simp only [IntKind.wrap, IntKind.signed, IntKind.bits]
  simp
  omega
abbrev PrS := Int × ByteArray
def prC : Cod PrS where
  sz := 2
  enc := fun x => [.int .i64 x.1, .str x.2]
  dec := fun cs => match cs with
    | [.int .i64 a, .str b] => some (a, b)
    | _ => none
  pos := by decide
  len := fun _ => rfl
  plain := fun _ => rfl
  dec_enc := fun _ => rfl
  enc_dec := fun cs x h => by
    split at h
    · injection h with h; subst h; rfl
    · cases h
theorem prC_sz : prC.sz = 2 := rfl
theorem pr_lods {v : AV} {l : List PrS} (h : AM.read prC s v = some l) {i : Nat} {x : PrS} (hi : l[i]? = some x) : iadV 2 v (.int .i64 (i : Int)) = some (.ptr (bid v) (boff v + i * 2)) ∧ lod s 2 (.ptr (bid v) (boff v + i * 2)) = some (.agg [.int .i64 x.1, .str x.2]) ∧
    lod1 s (.ptr (bid v) (boff v + i * 2)) = some (.int .i64 x.1) ∧ lod1 s (.ptr (bid v) (boff v + i * 2 + 1)) = some (.str x.2) ∧ ltN (bid v) s := by
  have h1 := read_idx h hi .i64
  rw [prC_sz] at h1
  have hl := read_lt h (Keep.refl s) hi
  refine ⟨h1, ?_⟩
  cases v with
  | nils => simp [AM.read] at h; subst h; simp at hi
  | sl id off n cap z =>
    obtain ⟨rfl, rfl, cs, own, hg, _, _, h5⟩ := read_sl h
    show lod s 2 (.ptr id (off + i * 2)) = _ ∧ lod1 s (.ptr id (off + i * 2)) = _ ∧ lod1 s (.ptr id (off + i * 2 + 1)) = _ ∧ _
    have one : ∀ k v, k < 2 → (prC.enc x)[k]? = some v → cs[off + i * 2 + k]? = some v := fun k v hk hv => by
      obtain ⟨_, k2⟩ := h5 i x hi k 1 (by rw [prC_sz]; omega)
      rw [prC_sz] at k2
      have e := congrArg (fun l => l[0]?) k2
      simpa [List.getElem?_take, List.getElem?_drop, hv] using e
    refine ⟨?_, ?_, ?_, hl⟩
    · obtain ⟨k1, k2⟩ := h5 i x hi 0 2 (by rw [prC_sz]; omega)
      rw [prC_sz, Nat.add_zero] at k1 k2
      simp only [lod, hg]
      rw [if_pos (by omega), k2]
      rfl
    · simp only [lod1, hg]; exact one 0 _ (by omega) rfl
    · simp only [lod1, hg]; exact one 1 _ (by omega) rfl
  | _ => simp [AM.read] at h
theorem pr_cells2 (x : PrS) (l : List PrS) : prC.cells (x :: l) = .int .i64 x.1 :: .str x.2 :: prC.cells l := by rw [cells_cons]; rfl
/-! ### Orders -/
def ordV : Bool → AV
  | true => .fn 37 []
  | false => .fn 38 []
def sg (d : Bool) (a : Int) : Int := if d = true then -a else a
theorem sg_inj (d : Bool) (a b : Int) : sg d a = sg d b ↔ a = b := by cases d <;> simp [sg]
def SrtD (d : Bool) (L : List PrS) : Prop := L.Pairwise fun a b => sg d a.1 < sg d b.1
theorem SrtD.lt {d : Bool} {L : List PrS} (h : SrtD d L) {i j : Nat} {x y : PrS} (hx : L[i]? = some x) (hy : L[j]? = some y) (hij : i < j) : sg d x.1 < sg d y.1 := by
  have h1 := getlt hx
  have h2 := getlt hy
  have := List.pairwise_iff_getElem.1 h i j h1 h2 hij
  have e1 := (List.getElem?_eq_some_iff.1 hx).2
  have e2 := (List.getElem?_eq_some_iff.1 hy).2
  rw [e1, e2] at this
  exact this
/-- How many keys come before. -/
def rkD (d : Bool) : List PrS → Int → Nat
  | [], _ => 0
  | x :: r, k => if sg d x.1 < sg d k then rkD d r k + 1 else 0
theorem rk_lt {d : Bool} {k : Int} : ∀ {L : List PrS} {i : Nat} {x : PrS}, i < rkD d L k → L[i]? = some x → sg d x.1 < sg d k
  | [], i, x, h, _ => by simp [rkD] at h
  | y :: r, i, x, h, hx => by
    unfold rkD at h
    split at h
    · rename_i hy
      cases i with
      | zero => simp at hx; subst hx; exact hy
      | succ i => exact rk_lt (L := r) (i := i) (by omega) (by simpa using hx)
    · omega
theorem rk_at {d : Bool} {k : Int} : ∀ {L : List PrS} {x : PrS}, L[rkD d L k]? = some x → ¬ sg d x.1 < sg d k
  | [], x, h => by simp at h
  | y :: r, x, h => by
    unfold rkD at h
    split at h
    · exact rk_at (L := r) (by simpa using h)
    · rename_i hy
      simp at h
      subst h
      exact hy
theorem rk_eq {d : Bool} {k : Int} : ∀ {L : List PrS} {i : Nat}, i ≤ L.length → (∀ (j : Nat) (y : PrS), j < i → L[j]? = some y → sg d y.1 < sg d k) → (∀ y, L[i]? = some y → ¬ sg d y.1 < sg d k) → rkD d L k = i
  | [], i, h, _, _ => by simp at h; subst h; rfl
  | x :: r, 0, _, _, h => by
    unfold rkD
    rw [if_neg (h x rfl)]
  | x :: r, i + 1, h, h1, h2 => by
    unfold rkD
    rw [if_pos (h1 0 x (by omega) rfl), rk_eq (L := r) (i := i) (by simpa using h) (fun j y hj hy => h1 (j + 1) y (by omega) (by simpa using hy)) fun y hy => h2 y (by simpa using hy)]
def gtD (d : Bool) (L : List PrS) (k : Int) : Option ByteArray := match L[rkD d L k]? with
  | some x => if x.1 = k then some x.2 else none
  | none => none
theorem gt_some {d : Bool} {L : List PrS} {k : Int} {v : ByteArray} (h : gtD d L k = some v) : L[rkD d L k]? = some (k, v) := by
  unfold gtD at h
  split at h
  · rename_i x hx
    split at h
    · rename_i e
      injection h with h
      subst h
      subst e
      exact hx
    · cases h
  · cases h
/-! ### The memory -/
def mpV (o : Option Nat) (L : List PrS) : AV := match o with
  | none => .nils
  | some j => .sl j 0 L.length none 2
structure MpR (t : St) (id : Nat) (o : Option Nat) (d : Bool) (L : List PrS) : Prop where
  box : t.get id = some (.row [ordV d, mpV o L] true)
  nol : o = none → L = []
  dat : ∀ j, o = some j → j ≠ id ∧ t.get j = some (.row (prC.cells L) true)
  hn : L.length ≤ 1000
variable {id : Nat} {q : Option Nat} {d : Bool} {L : List PrS}
theorem MpR.keep (h : MpR t id q d L) (hK : Keep t u) : MpR u id q d L := ⟨hK.blk h.box, h.nol, fun j e => ⟨(h.dat j e).1, hK.blk (h.dat j e).2⟩, h.hn⟩
theorem MpR.low (h : MpR s id q d L) : MpR (lowd s) id q d L := h.keep (keep_low s)
theorem MpR.mono (h : MpR t id q d L) (k : ∀ i b, t.get i = some b → u.get i = some b) : MpR u id q d L := ⟨k _ _ h.box, h.nol, fun j e => ⟨(h.dat j e).1, k _ _ (h.dat j e).2⟩, h.hn⟩
theorem MpR.chg {M : List Nat} (h : MpR t id q d L) (hC : Chg M t u) (h1 : id ∉ M) (h2 : ∀ j, q = some j → j ∉ M) : MpR u id q d L := ⟨hC.blk h.box h1, h.nol, fun j e => ⟨(h.dat j e).1, hC.blk (h.dat j e).2 (h2 j e)⟩, h.hn⟩
theorem MpR.rd (h : MpR t id q d L) : AM.read prC t (mpV q L) = some L := by
  cases q with
  | none => rw [h.nol rfl]; rfl
  | some j =>
    refine read_of rfl (h.dat j rfl).2 (by simp [cells_len]) ?_
    rw [List.drop_zero, ← cells_len]
    simp
theorem MpR.lenV (h : MpR t id q d L) : AM.lenV (mpV q L) = some (.int .i64 (L.length : Int)) := lenV_read h.rd
theorem MpR.at (h : MpR t id q d L) {i : Nat} {x : PrS} (hx : L[i]? = some x) : ∃ j, q = some j ∧ iadV 2 (mpV q L) (.int .i64 (i : Int)) = some (.ptr j (i * 2)) ∧ lod t 2 (.ptr j (i * 2)) = some (.agg [.int .i64 x.1, .str x.2]) ∧ lod1 t (.ptr j (i * 2)) = some (.int .i64 x.1) ∧ lod1 t (.ptr j (i * 2 + 1)) = some (.str x.2) ∧ ltN j t := by
  cases q with
  | none => rw [h.nol rfl] at hx; simp at hx
  | some j =>
    refine ⟨j, rfl, ?_⟩
    have := pr_lods h.rd hx
    simpa [mpV, bid, boff] using this
/-- Nil or zero. -/
def ZkM (s : St) (p : AV) : Prop := p = .nilp ∨ ∃ id own v, p = .ptr id 0 ∧ s.get id = some (.row [.nilf, v] own)
theorem ZkM.keep {p : AV} (h : ZkM t p) (hK : Keep t u) : ZkM u p := h.imp (fun q => q) fun ⟨id, own, v, e, g⟩ => ⟨id, own, v, e, hK.blk g⟩
theorem ZkM.low {p : AV} (h : ZkM s p) : ZkM (lowd s) p := h.keep (keep_low s)
end Go.AM
end
/-
  Ordered maps: Get, Rank, At, Floor, Ceil, Set, Delete. Own work of this project; in part printed by a program of it.
-/
section
set_option maxRecDepth 100000
set_option maxHeartbeats 8000000
namespace Go.AM
open Go Go.Proofs

variable {s t u : St}

variable {id : Nat} {q : Option Nat} {d : Bool} {L : List PrS}
def putD (d : Bool) (L : List PrS) (k : Int) (v : ByteArray) : List PrS := L.take (rkD d L k) ++ (k, v) :: L.drop (if (gtD d L k).isSome = true then rkD d L k + 1 else rkD d L k)
theorem fstep_bw0' {x : AV} (hx : x.cells = [x] ∧ x.one = true) (z w : AV) (K : List AV → Option (List AV)) : fstep [z, w] 0 1 x K = K [x, w] := by simp [fstep, hx.1, hx.2, setAt]
theorem fstep_bw1' {x : AV} (hx : x.cells = [x] ∧ x.one = true) (z w : AV) (K : List AV → Option (List AV)) : fstep [z, w] 1 1 x K = K [z, x] := by simp [fstep, hx.1, hx.2, setAt]
theorem gtD_split (d : Bool) (L : List PrS) (k : Int) : (gtD d L k = none ∧ (gtD d L k).isSome = false) ∨ ∃ v, gtD d L k = some v ∧ (gtD d L k).isSome = true := by cases gtD d L k <;> simp
theorem low_put (u : St) (i : Nat) (b : AB) {n : Nat} (h : i < n) : (u.put i b).low < n := by simp; omega
end Go.AM
end
/-
  Functions that range over functions, as the abstract machine runs them. Printed by a program of this project.
-/
section
set_option maxRecDepth 100000
namespace Go.AM
open Go Go.Proofs

/- redpencil/omap.over[int,string]$1 -/
def y63 : AY :=
  .seq (.base (.reg [oO 5 (.load1 (.t 1)),
 oO 6 (.len .sl (.t 5)),
 oO 7 (.mv (.c (.int .i64 0)))]))
 (.block 0 (.loop (.seq (.base (.reg [oO 8 (.bin .lss .no (.t 7) (.t 6))]))
 (.seq (.cond (.t 8) (.base (.skip))
 (.base (.exit 0)))
 (.seq (.block 1 (.seq (.base (.reg [oO 9 (.iad 2 (.t 5) (.t 7)),
 oO 10 (.loadn 2 (.t 9)),
 oO 4 (.alloc [(.int .i64 0), (.str ⟨#[]⟩)]),
 ⟨none, .store 2 (.t 4) (.t 10), none, none, false⟩]))
 (.seq (.yld [oO 11 (.mv (.t 0)),
 oO 12 (.fad 0 (.t 4)),
 oO 13 (.load1 (.t 12)),
 oO 14 (.fad 1 (.t 4)),
 oO 15 (.load1 (.t 14))] (some 16) (.t 11) [(.t 13), (.t 15)] [oO 17 (.un .not (.t 16))])
 (.cond (.t 17) (.base (.ret))
 (.base (.skip))))))
 (.base (.reg [oO 18 (.bin .add .no (.t 7) (.c (.int .i64 1))),
 oO 7 (.mv (.t 18))])))))))
/- redpencil/omap.over[string,[]int]$1 -/
def y69 : AY :=
  .seq (.base (.reg [oO 5 (.load1 (.t 1)),
 oO 6 (.len .sl (.t 5)),
 oO 7 (.mv (.c (.int .i64 0)))]))
 (.block 0 (.loop (.seq (.base (.reg [oO 8 (.bin .lss .no (.t 7) (.t 6))]))
 (.seq (.cond (.t 8) (.base (.skip))
 (.base (.exit 0)))
 (.seq (.block 1 (.seq (.base (.reg [oO 9 (.iad 2 (.t 5) (.t 7)),
 oO 10 (.loadn 2 (.t 9)),
 oO 4 (.alloc [(.str ⟨#[]⟩), .nils]),
 ⟨none, .store 2 (.t 4) (.t 10), none, none, false⟩]))
 (.seq (.yld [oO 11 (.mv (.t 0)),
 oO 12 (.fad 0 (.t 4)),
 oO 13 (.load1 (.t 12)),
 oO 14 (.fad 1 (.t 4)),
 oO 15 (.load1 (.t 14))] (some 16) (.t 11) [(.t 13), (.t 15)] [oO 17 (.un .not (.t 16))])
 (.cond (.t 17) (.base (.ret))
 (.base (.skip))))))
 (.base (.reg [oO 18 (.bin .add .no (.t 7) (.c (.int .i64 1))),
 oO 7 (.mv (.t 18))])))))))
/- redpencil/redpencillaw08.OmapIterates -/
/- redpencil/redpencillaw08.OmapStrings -/
def ai4 : AFnI := ⟨117, [.cell1 2],
  .seq (.base (.reg [oO 2 (.alloc [(.bool false)])]))
 (.seq (.base (.seq (.reg [oO 14 (.mv (.t 0)),
 oO 15 (.len .sl (.t 14)),
 oO 16 (.bin .gtr .no (.t 15) (.c (.int .i64 40)))])
 (.cond (.t 16) (.seq (.reg [oO 17 (.call 9 false []),
 ⟨none, .store 1 (.t 2) (.t 17), none, none, false⟩])
 (.ret))
 (.skip))))
 (.seq (.base (.reg [oO 18 (.call 19 false [(.f 20)]),
 oO 3 (.mv (.t 18))]))
 (.seq (.base (.seq (.reg [oO 19 (.mv (.t 3)),
 oO 20 (.bin .eql .np (.t 19) (.c .nilp))])
 (.cond (.t 20) (.seq (.reg [⟨none, .store 1 (.t 2) (.c (.bool false)), none, none, false⟩])
 (.ret))
 (.skip))))
 (.seq (.base (.reg [oO 21 (.mkmap none),
 oO 4 (.alloc [.nilm]),
 ⟨none, .store 1 (.t 4) (.t 21), none, none, false⟩]))
 (.seq (.base (.reg [oO 22 (.mkmap none),
 oO 5 (.alloc [.nilm]),
 ⟨none, .store 1 (.t 5) (.t 22), none, none, false⟩]))
 (.seq (.base (.seq (.reg [oO 23 (.mv (.t 0)),
 oO 24 (.len .sl (.t 23)),
 oO 25 (.mv (.c (.int .i64 0)))])
 (.block 0 (.loop (.seq (.reg [oO 26 (.bin .lss .no (.t 25) (.t 24))])
 (.seq (.cond (.t 26) (.skip)
 (.exit 0))
 (.seq (.block 1 (.seq (.reg [oO 27 (.mv (.t 25)),
 oO 28 (.iad 1 (.t 23) (.t 25)),
 oO 29 (.load1 (.t 28)),
 oO 6 (.mv (.t 27)),
 oO 7 (.mv (.t 29))])
 (.seq (.seq (.reg [oO 30 (.mv (.t 7)),
 oO 31 (.len .st (.t 30)),
 oO 32 (.bin .gtr .no (.t 31) (.c (.int .i64 100)))])
 (.cond (.t 32) (.seq (.reg [oO 33 (.call 9 false []),
 ⟨none, .store 1 (.t 2) (.t 33), none, none, false⟩])
 (.ret))
 (.skip)))
 (.seq (.reg [oO 35 (.mv (.t 3)),
 oO 36 (.mv (.t 7)),
 oO 37 (.call 21 false [(.t 35), (.t 36)]),
 oO 34 (.mv (.t 37)),
 oO 38 (.ext (.t 34) 0),
 oO 39 (.ext (.t 34) 1),
 oO 8 (.mv (.t 38)),
 oO 9 (.mv (.t 39))])
 (.seq (.seq (.reg [oO 40 (.mv (.t 9)),
 oO 41 (.load1 (.t 5)),
 oO 42 (.mv (.t 7)),
 oO 43 (.len .st (.t 42)),
 oO 44 (.look (.int .i64 0) (.ky .i) false (.t 41) (.t 43)),
 oO 45 (.bin .gtr .no (.t 44) (.c (.int .i64 0))),
 oO 46 (.bin .neq .bo (.t 40) (.t 45)),
 oO 47 (.mv (.t 46)),
 oG 48 (.mv (.t 8)) 47 false,
 oG 49 (.len .sl (.t 48)) 47 false,
 oG 50 (.load1 (.t 5)) 47 false,
 oG 51 (.mv (.t 7)) 47 false,
 oG 52 (.len .st (.t 51)) 47 false,
 oG 53 (.look (.int .i64 0) (.ky .i) false (.t 50) (.t 52)) 47 false,
 oG 54 (.bin .neq .no (.t 49) (.t 53)) 47 false,
 oO 55 (.pick (.t 47) (.c (.bool true)) (.t 54))])
 (.cond (.t 55) (.seq (.reg [⟨none, .store 1 (.t 2) (.c (.bool false)), none, none, false⟩])
 (.ret))
 (.skip)))
 (.seq (.reg [oO 56 (.mv (.t 3)),
 oO 57 (.mv (.t 7)),
 oO 58 (.mv (.t 8)),
 oO 59 (.app 1 8 [(.int .i64 0)] (.c .nils) (.t 58)),
 oO 60 (.mv (.t 6)),
 oO 61 (.bsl [(.int .i64 0)] 1 1 [(0, (.t 60))]),
 oO 62 (.app 1 8 [(.int .i64 0)] (.t 59) (.t 61)),
 oO 63 (.call 22 false [(.t 56), (.t 57), (.t 62)])])
 (.seq (.seq (.reg [oO 64 (.load1 (.t 5)),
 oO 65 (.mv (.t 7)),
 oO 66 (.len .st (.t 65)),
 oO 67 (.look (.int .i64 0) (.ky .i) false (.t 64) (.t 66)),
 oO 68 (.bin .eql .no (.t 67) (.c (.int .i64 0)))])
 (.cond (.t 68) (.reg [oO 69 (.load1 (.t 4)),
 oO 70 (.mv (.t 7)),
 oO 71 (.len .st (.t 70)),
 oO 72 (.mv (.t 7)),
 ⟨none, .mset (.ky .i) (.t 69) (.t 71) (.t 72), none, none, false⟩])
 (.skip)))
 (.reg [oO 73 (.load1 (.t 5)),
 oO 74 (.mv (.t 7)),
 oO 75 (.len .st (.t 74)),
 oO 76 (.look (.int .i64 0) (.ky .i) false (.t 73) (.t 75)),
 oO 77 (.bin .add .no (.t 76) (.c (.int .i64 1))),
 ⟨none, .mset (.ky .i) (.t 73) (.t 75) (.t 77), none, none, false⟩]))))))))
 (.reg [oO 78 (.bin .add .no (.t 25) (.c (.int .i64 1))),
 oO 25 (.mv (.t 78))]))))))))
 (.seq (.base (.reg [oO 10 (.alloc [(.int .i64 0)]),
 ⟨none, .store 1 (.t 10) (.c (.int .i64 (-1))), none, none, false⟩]))
 (.seq (.base (.reg [oO 79 (.mv (.t 3)),
 oO 80 (.call 23 false [(.t 79)]),
 oO 11 (.mv (.t 80))]))
 (.seq (.base (.seq (.reg [oO 81 (.mv (.t 11)),
 oO 82 (.bin .eql .nf (.t 81) (.c .nilf))])
 (.cond (.t 82) (.seq (.reg [⟨none, .store 1 (.t 2) (.c (.bool false)), none, none, false⟩])
 (.ret))
 (.skip))))
 (.seq (.seq (.base (.reg [oO 83 (.mv (.t 11))]))
 (.block 2 (.rf (.t 83) [84, 85] (.seq (.reg [oO 12 (.mv (.t 84))])
 (.reg [oO 13 (.mv (.t 85))]))
 (.block 3 (.seq (.seq (.reg [oO 86 (.mv (.t 12)),
 oO 87 (.len .st (.t 86)),
 oO 88 (.load1 (.t 10)),
 oO 89 (.bin .leq .no (.t 87) (.t 88)),
 oO 90 (.mv (.t 89)),
 oG 91 (.mv (.t 12)) 90 false,
 oG 92 (.load1 (.t 4)) 90 false,
 oG 93 (.mv (.t 12)) 90 false,
 oG 94 (.len .st (.t 93)) 90 false,
 oG 95 (.look (.str ⟨#[]⟩) (.ky .i) false (.t 92) (.t 94)) 90 false,
 oG 96 (.bin .neq .no (.t 91) (.t 95)) 90 false,
 oO 97 (.pick (.t 90) (.c (.bool true)) (.t 96)),
 oO 98 (.mv (.t 97)),
 oG 99 (.mv (.t 13)) 98 false,
 oG 100 (.len .sl (.t 99)) 98 false,
 oG 101 (.load1 (.t 5)) 98 false,
 oG 102 (.mv (.t 12)) 98 false,
 oG 103 (.len .st (.t 102)) 98 false,
 oG 104 (.look (.int .i64 0) (.ky .i) false (.t 101) (.t 103)) 98 false,
 oG 105 (.bin .neq .no (.t 100) (.t 104)) 98 false,
 oO 106 (.pick (.t 98) (.c (.bool true)) (.t 105))])
 (.cond (.t 106) (.seq (.reg [⟨none, .store 1 (.t 2) (.c (.bool false)), none, none, false⟩])
 (.ret))
 (.skip)))
 (.reg [oO 107 (.mv (.t 12)),
 oO 108 (.len .st (.t 107)),
 ⟨none, .store 1 (.t 10) (.t 108), none, none, false⟩]))) [(63, 19, y63), (69, 19, y69)])))
 (.base (.seq (.regw [oO 109 (.mv (.t 3)),
 oO 110 (.call 24 false [(.t 109)]),
 oO 111 (.load1 (.t 5)),
 oO 112 (.len .mp (.t 111)),
 oO 113 (.bin .eql .no (.t 110) (.t 112)),
 oO 114 (.mv (.t 113)),
 oG 115 (.call 9 false []) 114 true,
 oO 116 (.pick (.t 114) (.t 115) (.c (.bool false))),
 ⟨none, .store 1 (.t 2) (.t 116), none, none, false⟩] [(111, 5)])
 (.ret)))))))))))))⟩
/- redpencil/redpencillaw08.pairs -/
def ai16 : AFnI := ⟨28, [.t 4],
  .seq (.base (.reg [oO 3 (.box 1 (.t 1)),
 oO 4 (.mv (.c .nils))]))
 (.seq (.base (.reg [oO 5 (.alloc [.nils])]))
 (.seq (.base (.seq (.reg [oO 8 (.mv (.t 0)),
 oO 9 (.bin .eql .nf (.t 8) (.c .nilf)),
 oO 10 (.mv (.t 9)),
 oG 11 (.load1 (.t 3)) 10 false,
 oG 12 (.bin .lss .no (.t 11) (.c (.int .i64 1))) 10 false,
 oO 13 (.pick (.t 10) (.c (.bool true)) (.t 12))])
 (.cond (.t 13) (.seq (.reg [oO 4 (.mv (.c .nils))])
 (.ret))
 (.skip))))
 (.seq (.seq (.base (.reg [oO 14 (.mv (.t 0))]))
 (.block 0 (.rf (.t 14) [15, 16] (.seq (.reg [oO 6 (.mv (.t 15))])
 (.reg [oO 7 (.mv (.t 16))]))
 (.block 1 (.seq (.reg [oO 17 (.load1 (.t 5)),
 oO 18 (.mv (.t 6)),
 oO 19 (.mv (.t 7)),
 oO 20 (.build [(.int .i64 0), (.str ⟨#[]⟩)] [(0, 1, (.t 18)), (1, 1, (.t 19))]),
 oO 21 (.bsl [(.int .i64 0), (.str ⟨#[]⟩)] 1 2 [(0, (.t 20))]),
 oO 22 (.app 2 24 [(.int .i64 0), (.str ⟨#[]⟩)] (.t 17) (.t 21)),
 ⟨none, .store 1 (.t 5) (.t 22), none, none, false⟩])
 (.seq (.reg [oO 23 (.load1 (.t 5)),
 oO 24 (.len .sl (.t 23)),
 oO 25 (.load1 (.t 3)),
 oO 26 (.bin .geq .no (.t 24) (.t 25))])
 (.cond (.t 26) (.exit 0)
 (.skip))))) [(63, 19, y63), (69, 19, y69)])))
 (.base (.seq (.reg [oO 27 (.load1 (.t 5)),
 oO 4 (.mv (.t 27))])
 (.ret))))))⟩
/- (*redpencil/omap.Map[int, string]).Copy -/
theorem ci4 : cfnI Try.prog [63, 69] Try.f4 = some ai4 := by kernel_rfl
theorem ki4 : callable Try.prog 4 = true := by kernel_rfl
theorem ci16 : cfnI Try.prog [63, 69] Try.f16 = some ai16 := by kernel_rfl
theorem ki16 : callable Try.prog 16 = true := by kernel_rfl
end Go.AM
end
/-
  Ordered maps: All, From, ranges over pairs. Own work of this project; in part printed by a program of it.
-/
section
set_option maxRecDepth 100000
set_option maxHeartbeats 8000000
namespace Go.AM
open Go Go.Proofs

variable {s t u : St}

/-- A list that was made since, or nil. -/
def NwP (s t : St) (w : AV) (l : List PrS) : Prop := (w = .nils ∧ l = []) ∨ ∃ j cap, w = .sl j 0 l.length cap 2 ∧ s.next ≤ j ∧ t.get j = some (.row (prC.cells l) true)
theorem NwP.mono {w : AV} {l : List PrS} (h : NwP s t w l) (k : ∀ id b, t.get id = some b → u.get id = some b) : NwP s u w l := h.imp (fun q => q) fun ⟨j, cap, e, h1, h2⟩ => ⟨j, cap, e, h1, k _ _ h2⟩
theorem NwP.chg {M : List Nat} {w : AV} {l : List PrS} (h : NwP s t w l) (hC : Chg M t u) (hM : ∀ i ∈ M, ¬ (s.next ≤ i ∧ ∃ n cap, w = .sl i 0 n cap 2)) : NwP s u w l := h.imp (fun q => q) fun ⟨j, cap, e, h1, h2⟩ => ⟨j, cap, e, h1, hC.blk h2 fun q => hM j q ⟨h1, _, _, e⟩⟩
theorem NwP.rd {w : AV} {l : List PrS} (h : NwP s t w l) : AM.read prC t w = some l := by
  rcases h with ⟨rfl, rfl⟩ | ⟨j, cap, rfl, h1, h2⟩
  · rfl
  · refine read_of rfl h2 (by simp [cells_len]) ?_
    rw [List.drop_zero, ← cells_len]
    simp
theorem NwP.from {s0 : St} {w : AV} {l : List PrS} (h : NwP s t w l) (hn : s0.next ≤ s.next) : NwP s0 t w l := h.imp (fun q => q) fun ⟨j, cap, e, h1, h2⟩ => ⟨j, cap, e, by omega, h2⟩
theorem NwP.one {w : AV} {l : List PrS} (h : NwP s t w l) : w.cells = [w] ∧ w.one = true := by rcases h with ⟨rfl, _⟩ | ⟨j, cap, rfl, _⟩ <;> exact ⟨rfl, rfl⟩
/-- An iterator over a list. -/
def ItR (s t : St) (f : AV) (l : List PrS) : Prop := ∃ b w, f = .fn 63 [.ptr b 0] ∧ s.next ≤ b ∧ t.get b = some (.row [w] true) ∧ NwP s t w l ∧ (∀ n cap, w ≠ .sl b 0 n cap 2)
theorem ItR.mono {f : AV} {l : List PrS} (h : ItR s t f l) (k : ∀ id b, t.get id = some b → u.get id = some b) : ItR s u f l := by
  obtain ⟨b, w, e, h1, h2, h3, h4⟩ := h
  exact ⟨b, w, e, h1, k _ _ h2, h3.mono k, h4⟩
theorem ItR.keep {f : AV} {l : List PrS} (h : ItR s t f l) (hK : Keep t u) : ItR s u f l := h.mono fun _ _ => hK.blk
theorem ItR.from {s0 : St} {f : AV} {l : List PrS} (h : ItR s t f l) (hn : s0.next ≤ s.next) : ItR s0 t f l := by
  obtain ⟨b, w, e, h1, h2, h3, h4⟩ := h
  exact ⟨b, w, e, by omega, h2, h3.from hn, h4⟩
theorem sto_z2 {m : Nat} {t : St} (h : sameN m t) {a b : AV} (ha : a.one = true) (hb : b.one = true) (cs : List AV) (hcs : cs.length = 2) : AM.sto (t.push (.row cs true)) 2 (.ptr m 0) (.agg [a, b]) = some (.und, t.lowed.push (.row [a, b] true)) := by
  unfold sameN at h
  subst h
  have hg : (t.push (.row cs true)).get t.next = some (.row cs true) := St.get_push_new t _
  simp only [AM.sto, hg]
  rw [if_pos ⟨rfl, by simp [AV.cells, ha, hb], by omega⟩]
  simp [setAt, AV.cells, hcs, St.push, St.put, St.lowed]
/-! ### A range over such an iterator -/
theorem rf_over {call : Nat → List AV → St → Option (AV × St)} {env : Env} {g : AO} {p1 p2 : Nat} {asg body : AC} {Q : AEx → Env → St → Prop} {b : Nat} {w : AV} {l : List PrS} {own : Bool} (hg : aev env g = .fn 63 [.ptr b 0]) (hl : l.length ≤ 100000) (hb : s.get b = some (.row [w] own)) (J : Nat → St → Prop)
    (h0 : J 0 s) (hrd : ∀ i t, J i t → AM.read prC t w = some l)
    (hstep : ∀ i y t t', J i t → l[i]? = some y → Keep t t' → awp call asg (fun x e t1 => x = .nor ∧ awp call body (fun x _ t2 => match x with
      | .nor => J (i + 1) t2
      | .exit k => Q (.exit k) env t2
      | .ret => Q .ret env t2) e t1) (setPs env [p1, p2] [.int .i64 y.1, .str y.2]) t')
    (hend : ∀ t, J l.length t → Q .nor env t) : @rfwp call g [p1, p2] asg body [(63, 19, y63), (69, 19, y69)] env s ⟨Q⟩ := by
  refine rf_start (f := 63) (n := 19) (caps := [.ptr b 0]) (y := y63) hg rfl fun yl => ?_
  refine start_env (args := [.yd yl, .ptr b 0]) (n := 19) (p := fun env1 => awpY _ _ _ y63 none _ env1 s) (by simp) fun env1 hl1 ha1 => ?_
  have a0 : E env1 0 = _ := ha1 0 _ rfl
  have a1 : E env1 1 = _ := ha1 1 _ rfl
  unfold y63
  try dsimp only [oO, oG]
  obtain ⟨b0, blt⟩ := row1_lod hb
  have hL := lenV_read (hrd 0 s h0)
  simp (config := {contextual := true, maxDischargeDepth := 12, maxSteps := 4000000}) only [tb_at, a0, a1, hl1, b0, blt, hL, notV_bool, Bool.not_true, Bool.not_false, pickV_t, pickV_f, bin_eql, bin_neq, bin_neb, bin_npn, bin_np, bin_npnx, gcall_tt, gpure_tf, beq_self_eq_true, Bool.true_and, Bool.and_true, decide_true, decide_false, ↓bD, bU, forall_const, bS, implies_true, isNx, eq_self, ↓wp_cond, ↓wp_loop, ↓reduceIte, reduceCtorEq, Nat.reduceEqDiff, Nat.reduceLT, Nat.reduceAdd, Nat.reduceMul, bT, ↓sg_bsl, ↓st_callf, bX, ap_mkfn, ap_conv, ↓wi_seq, ↓wi_base, ↓wi_block, ↓wi_cond, ↓wi_loop, ↓wi_rf, ↓wy_seq, ↓wy_base, ↓wy_block, ↓wy_cond, ↓wy_loop, ↓wy_yld, ae_callvV, callvV_fn, List.append_nil, List.cons_append, List.nil_append, bin_nff, bin_nfn, bin_nffx, bin_nfnx]
  obtain ⟨I, hI⟩ : ∃ I : Nat → Env → St → Prop, ∀ n e t, I n e t = (∃ i, n + i = l.length ∧ elen e = 19 ∧ E e 0 = .yd yl ∧ E e 5 = w ∧ E e 6 = .int .i64 (l.length : Int) ∧ E e 7 = .int .i64 (i : Int) ∧ J i t) := ⟨fun n e t => (∃ i, n + i = l.length ∧ elen e = 19 ∧ E e 0 = .yd yl ∧ E e 5 = w ∧ E e 6 = .int .i64 (l.length : Int) ∧ E e 7 = .int .i64 (i : Int) ∧ J i t), fun _ _ _ => rfl⟩
  refine lwpY_inv roundY_mono I (n := l.length) ?_ ?_
  · rw [hI]
    exact ⟨0, by omega, (by simp only [bE, Nat.reduceEqDiff, bN, Nat.reduceLT, hl1, a0, a1]; try rfl), (by simp only [bE, Nat.reduceEqDiff, bN, Nat.reduceLT, hl1, a0, a1]; try rfl), (by simp only [bE, Nat.reduceEqDiff, bN, Nat.reduceLT, hl1, a0, a1]; try rfl), (by simp only [bE, Nat.reduceEqDiff, bN, Nat.reduceLT, hl1, a0, a1]; try rfl), (by simp only [bE, Nat.reduceEqDiff, bN, Nat.reduceLT, hl1, a0, a1]; try rfl), h0⟩
  clear a0 a1 hl1 ha1
  intro n e t hi
  rw [hI] at hi
  obtain ⟨i, hni, he, e0, e5, e6, e7, hJ⟩ := hi
  by_cases hlt : i < l.length
  rotate_left
  · have hz := eq_false (show ¬ (i : Int) < (l.length : Int) by omega)
    obtain rfl : i = l.length := by omega
    simp (config := {contextual := true, maxDischargeDepth := 12, maxSteps := 4000000}) only [tb_at, he, e0, e5, e6, e7, hz, notV_bool, Bool.not_true, Bool.not_false, pickV_t, pickV_f, bin_eql, bin_neq, bin_neb, bin_npn, bin_np, bin_npnx, gcall_tt, gpure_tf, beq_self_eq_true, Bool.true_and, Bool.and_true, decide_true, decide_false, ↓bD, bU, forall_const, bS, implies_true, isNx, eq_self, ↓wp_cond, ↓wp_loop, ↓reduceIte, reduceCtorEq, Nat.reduceEqDiff, Nat.reduceLT, Nat.reduceAdd, Nat.reduceMul, bT, ↓sg_bsl, ↓st_callf, bX, ap_mkfn, ap_conv, ↓wi_seq, ↓wi_base, ↓wi_block, ↓wi_cond, ↓wi_loop, ↓wi_rf, ↓wy_seq, ↓wy_base, ↓wy_block, ↓wy_cond, ↓wy_loop, ↓wy_yld, ae_callvV, callvV_fn, List.append_nil, List.cons_append, List.nil_append, bin_nff, bin_nfn, bin_nffx, bin_nfnx]
    exact hend t hJ
  have hz := eq_true (show (i : Int) < (l.length : Int) by omega)
  have hw := wrap_add1 (n := i) (by omega)
  obtain ⟨y, hy⟩ := getsome hlt
  obtain ⟨i1, a1, _, _, a4⟩ := pr_lods (hrd i t hJ) hy
  have st1 := sto_z2 (m := t.next) (t := t) rfl (a := .int .i64 y.1) (b := .str y.2) rfl rfl [.int .i64 0, .str ⟨#[]⟩] rfl
  have hK1 : Keep t (t.lowed.push (.row [.int .i64 y.1, .str y.2] true)) := (keep_lowed t).push _
  obtain ⟨t1, ht1⟩ : ∃ t1, t1 = t.lowed.push (.row [.int .i64 y.1, .str y.2] true) := ⟨_, rfl⟩
  have hg1 : t1.get t.next = some (.row [.int .i64 y.1, .str y.2] true) := by rw [ht1]; exact St.get_push_new t.lowed _
  rw [← ht1] at st1 hK1
  obtain ⟨c0, c1, clt⟩ := row2_lod hg1
  simp (config := {contextual := true, maxDischargeDepth := 12, maxSteps := 4000000}) only [tb_at, he, e0, e5, e6, e7, hz, i1, a1, a4, st1, c0, c1, clt, notV_bool, Bool.not_true, Bool.not_false, pickV_t, pickV_f, bin_eql, bin_neq, bin_neb, bin_npn, bin_np, bin_npnx, gcall_tt, gpure_tf, beq_self_eq_true, Bool.true_and, Bool.and_true, decide_true, decide_false, ↓bD, bU, forall_const, bS, implies_true, isNx, eq_self, ↓wp_cond, ↓wp_loop, ↓reduceIte, reduceCtorEq, Nat.reduceEqDiff, Nat.reduceLT, Nat.reduceAdd, Nat.reduceMul, bT, ↓sg_bsl, ↓st_callf, bX, ap_mkfn, ap_conv, ↓wi_seq, ↓wi_base, ↓wi_block, ↓wi_cond, ↓wi_loop, ↓wi_rf, ↓wy_seq, ↓wy_base, ↓wy_block, ↓wy_cond, ↓wy_loop, ↓wy_yld, ae_callvV, callvV_fn, List.append_nil, List.cons_append, List.nil_append, bin_nff, bin_nfn, bin_nffx, bin_nfnx]
  refine ystep_round rfl ?_
  refine awp_mono asg (fun x e2 t2 k => ⟨k.1, awp_mono body (fun x _ t3 k => ?_) k.2⟩) (hstep i y t t1 hJ hy hK1)
  cases x with
  | nor =>
    simp (config := {contextual := true, maxDischargeDepth := 12, maxSteps := 4000000}) only [tb_at, he, e0, e5, e6, e7, hw, putE_pE, notV_bool, Bool.not_true, Bool.not_false, pickV_t, pickV_f, bin_eql, bin_neq, bin_neb, bin_npn, bin_np, bin_npnx, gcall_tt, gpure_tf, beq_self_eq_true, Bool.true_and, Bool.and_true, decide_true, decide_false, ↓bD, bU, forall_const, bS, implies_true, isNx, eq_self, ↓wp_cond, ↓wp_loop, ↓reduceIte, reduceCtorEq, Nat.reduceEqDiff, Nat.reduceLT, Nat.reduceAdd, Nat.reduceMul, bT, ↓sg_bsl, ↓st_callf, bX, ap_mkfn, ap_conv, ↓wi_seq, ↓wi_base, ↓wi_block, ↓wi_cond, ↓wi_loop, ↓wi_rf, ↓wy_seq, ↓wy_base, ↓wy_block, ↓wy_cond, ↓wy_loop, ↓wy_yld, ae_callvV, callvV_fn, List.append_nil, List.cons_append, List.nil_append, bin_nff, bin_nfn, bin_nffx, bin_nfnx]
    refine ⟨n - 1, by omega, ?_⟩
    rw [hI]
    exact ⟨i + 1, by omega, (by simp only [bE, Nat.reduceEqDiff, bN, Nat.reduceLT, he, e0, e5, e6, e7]; try rfl), (by simp only [bE, Nat.reduceEqDiff, bN, Nat.reduceLT, he, e0, e5, e6, e7]; try rfl), (by simp only [bE, Nat.reduceEqDiff, bN, Nat.reduceLT, he, e0, e5, e6, e7]; try rfl), (by simp only [bE, Nat.reduceEqDiff, bN, Nat.reduceLT, he, e0, e5, e6, e7]; try rfl), (by simp only [bE, Nat.reduceEqDiff, bN, Nat.reduceLT, he, e0, e5, e6, e7]; try rfl), k⟩
  | exit j =>
    simp (config := {contextual := true, maxDischargeDepth := 12, maxSteps := 4000000}) only [tb_at, he, e0, e5, e6, e7, hw, putE_pE, notV_bool, Bool.not_true, Bool.not_false, pickV_t, pickV_f, bin_eql, bin_neq, bin_neb, bin_npn, bin_np, bin_npnx, gcall_tt, gpure_tf, beq_self_eq_true, Bool.true_and, Bool.and_true, decide_true, decide_false, ↓bD, bU, forall_const, bS, implies_true, isNx, eq_self, ↓wp_cond, ↓wp_loop, ↓reduceIte, reduceCtorEq, Nat.reduceEqDiff, Nat.reduceLT, Nat.reduceAdd, Nat.reduceMul, bT, ↓sg_bsl, ↓st_callf, bX, ap_mkfn, ap_conv, ↓wi_seq, ↓wi_base, ↓wi_block, ↓wi_cond, ↓wi_loop, ↓wi_rf, ↓wy_seq, ↓wy_base, ↓wy_block, ↓wy_cond, ↓wy_loop, ↓wy_yld, ae_callvV, callvV_fn, List.append_nil, List.cons_append, List.nil_append, bin_nff, bin_nfn, bin_nffx, bin_nfnx]
    exact k
  | ret =>
    simp (config := {contextual := true, maxDischargeDepth := 12, maxSteps := 4000000}) only [tb_at, he, e0, e5, e6, e7, hw, putE_pE, notV_bool, Bool.not_true, Bool.not_false, pickV_t, pickV_f, bin_eql, bin_neq, bin_neb, bin_npn, bin_np, bin_npnx, gcall_tt, gpure_tf, beq_self_eq_true, Bool.true_and, Bool.and_true, decide_true, decide_false, ↓bD, bU, forall_const, bS, implies_true, isNx, eq_self, ↓wp_cond, ↓wp_loop, ↓reduceIte, reduceCtorEq, Nat.reduceEqDiff, Nat.reduceLT, Nat.reduceAdd, Nat.reduceMul, bT, ↓sg_bsl, ↓st_callf, bX, ap_mkfn, ap_conv, ↓wi_seq, ↓wi_base, ↓wi_block, ↓wi_cond, ↓wi_loop, ↓wi_rf, ↓wy_seq, ↓wy_base, ↓wy_block, ↓wy_cond, ↓wy_loop, ↓wy_yld, ae_callvV, callvV_fn, List.append_nil, List.cons_append, List.nil_append, bin_nff, bin_nfn, bin_nffx, bin_nfnx]
    exact k

end Go.AM
end
/-
  Ordered maps: what iterators yield; the helpers of the statements. Own work of this project; in part printed by a program of it.
-/
section
set_option maxRecDepth 100000
set_option maxHeartbeats 8000000
namespace Go.AM
open Go Go.Proofs

variable {s t u : St}

theorem own_ne {β : Type} {C : Cod β} {lv : AV} {l : List β} (h : Own C s t lv l) {id : Nat} {cs : List AV} {own : Bool} (hg : t.get id = some (.row cs own)) (hc : cs.length < C.sz) : ∀ o n c z, lv ≠ .sl id o n c z := by
  rintro o n c z rfl
  rcases h with ⟨h, _⟩ | ⟨j, h, h0, h1, h2⟩
  · cases h
  · injection h with h
    subst h
    rw [hg] at h2
    injection h2 with h2
    injection h2 with h2 _
    have := congrArg List.length h2
    rw [cells_len] at this
    cases l with
    | nil => exact h0 rfl
    | cons y r =>
      rw [List.length_cons, Nat.succ_mul] at this
      omega
theorem own_one1 {β : Type} {C : Cod β} {lv : AV} {l : List β} (h : Own C s t lv l) : lv.cells = [lv] ∧ lv.one = true := by rcases h with ⟨rfl, _⟩ | ⟨j, rfl, _⟩ <;> exact ⟨rfl, rfl⟩
/-- A list in a box, one element more. -/
theorem box1_app {β : Type} {C : Cod β} {lv : AV} {l : List β} {ib : Nat} (hK : Keep s t) (hb : t.get ib = some (.row [lv] true)) (hib : s.next ≤ ib) (hO : Own C s t lv l) (hsz : 1 < C.sz) (y : β) (bytes : Nat) (hr : (l.length + 1) * bytes ≤ roomBytes) :
    ∃ lv' t', appV (t.push (.row (C.enc y) true)) C.sz bytes lv (.sl t.next 0 1 (some 1) C.sz) = some (lv', t') ∧ AM.sto t' 1 (.ptr ib 0) lv' = some (.und, t'.put ib (.row [lv'] true)) ∧ ltN ib t' ∧ Keep s (t'.put ib (.row [lv'] true)) ∧ (t'.put ib (.row [lv'] true)).get ib = some (.row [lv'] true) ∧ Own C s (t'.put ib (.row [lv'] true)) lv' (l ++ [y]) ∧
      ∀ id b, t.get id = some b → id ≠ ib → (∀ o n c z, lv ≠ .sl id o n c z) → (t'.put ib (.row [lv'] true)).get id = some b := by
  obtain ⟨lv', t', hap, hK', hO'⟩ := appV_one (C := C) hK hO y bytes hr
  have fr : ∀ id b, t.get id = some b → (∀ o n c z, lv ≠ .sl id o n c z) → t'.get id = some b := fun id b hg hn => appV_frame hap hn (get_push_some _ hg)
  have hb' := fr ib _ hb (own_ne hO hb hsz)
  have hlt := St.get_lt hb'
  have hO2 : Own C s (t'.put ib (.row [lv'] true)) lv' (l ++ [y]) := by
    have hne := own_ne hO' hb' hsz
    rcases hO' with q | ⟨j, q, h0, h1, h2⟩
    · exact .inl q
    · refine .inr ⟨j, q, h0, h1, ?_⟩
      rw [St.get_put_ne _ _ hlt fun e => hne 0 _ none _ (by rw [q, e])]
      exact h2
  exact ⟨lv', t', hap, row1_sto hb' (own_one1 hO'), hlt, hK'.put _ hib hlt, St.get_put_same hb', hO2, fun id b hg hi hn => by rw [St.get_put_ne _ _ hlt hi]; exact fr id b hg hn⟩
theorem bin_streq (k : EK) (a b : ByteArray) : binOp .eql k (.str a) (.str b) = some (.bool (decide (a = b))) := by
  have : (a.toList == b.toList) = decide (a = b) := by
    by_cases h : a = b
    · subst h; simp
    · rw [decide_eq_false h]
      have : a.toList ≠ b.toList := fun e => h (by
        rw [ByteArray.toList_eq, ByteArray.toList_eq] at e
        cases a; cases b
        simp only at e
        congr 1
        exact Array.toList_inj.1 e)
      simpa using this
  show strOp .eql a b = _
  simp only [strOp, this]
def pPairs : List AV → St → Option (List PrS × Option AV) := fun xs s => match xs with
  | [.fn 63 [.ptr b 0], .int .i64 m] => match s.get b with
    | some (.row [w] true) => match AM.read prC s w with
      | some l => if l.length ≤ 10000 then some (if m < 1 then [] else l.take m.toNat, none) else none
      | none => none
    | _ => none
  | _ => none
theorem a_pairs {s : St} {b : Nat} {w : AV} {l : List PrS} {m : Int} (hb : s.get b = some (.row [w] true)) (hr : AM.read prC s w = some l) (hl : l.length ≤ 10000) : ∀ env : Env, elen env = ai16.ntmps → (∀ i x_, [.fn 63 [.ptr b 0], .int .i64 m][i]? = some x_ → E env i = x_) → awpI (tb []) ai16.body (fun x e t => (∀ i, x ≠ .exit i) ∧ Keep s t ∧ ∃ v, aresults e t ai16.results = some (mkR none v) ∧ Own prC s t v (if m < 1 then [] else l.take m.toNat)) env s := by
  intro env hlen ha
  have h0 : E env 0 = _ := ha 0 _ rfl
  have h1 : E env 1 = _ := ha 1 _ rfl
  have hlen : elen env = _ := hlen
  simp only [ai16] at hlen
  unfold ai16
  try dsimp only [oO, oG]
  have hbx : boxV 1 (.int .i64 m) = some (fun id => .ptr id 0, .row [.int .i64 m] true) := rfl
  have hK1 : Keep s (s.push (.row [.int .i64 m] true)) := (Keep.refl s).push _
  have hK2 : Keep s ((s.push (.row [.int .i64 m] true)).push (.row [.nils] true)) := hK1.push _
  have g3 : ((s.push (.row [.int .i64 m] true)).push (.row [.nils] true)).get s.next = some (.row [.int .i64 m] true) := get_push_some _ (St.get_push_new s _)
  have g5 : ((s.push (.row [.int .i64 m] true)).push (.row [.nils] true)).get (s.next + 1) = some (.row [.nils] true) := St.get_push_new (s.push (.row [.int .i64 m] true)) _
  have hnn : (s.push (.row [.int .i64 m] true)).next = s.next + 1 := rfl
  obtain ⟨u, hu⟩ : ∃ u, u = (s.push (.row [.int .i64 m] true)).push (.row [.nils] true) := ⟨_, rfl⟩
  rw [← hu] at hK2 g3 g5
  obtain ⟨a3, a3l⟩ := row1_lod g3
  obtain ⟨a5, a5l⟩ := row1_lod g5
  by_cases hm : m < 1
  · have z1 := eq_true hm
    rw [if_pos hm]
    simp (config := {contextual := true, maxDischargeDepth := 12, maxSteps := 4000000}) only [tb_at, h0, h1, hlen, hbx, hnn, ← hu, a3, a3l, z1, notV_bool, Bool.not_true, Bool.not_false, pickV_t, pickV_f, bin_eql, bin_neq, bin_neb, bin_npn, bin_np, bin_npnx, gcall_tt, gpure_tf, beq_self_eq_true, Bool.true_and, Bool.and_true, decide_true, decide_false, ↓bD, bU, forall_const, bS, implies_true, isNx, eq_self, ↓wp_cond, ↓wp_loop, ↓reduceIte, reduceCtorEq, Nat.reduceEqDiff, Nat.reduceLT, Nat.reduceAdd, Nat.reduceMul, bT, ↓sg_bsl, ↓st_callf, bX, ap_mkfn, ap_conv, ↓wi_seq, ↓wi_base, ↓wi_block, ↓wi_cond, ↓wi_loop, ↓wi_rf, ↓wy_seq, ↓wy_base, ↓wy_block, ↓wy_cond, ↓wy_loop, ↓wy_yld, ae_callvV, callvV_fn, List.append_nil, List.cons_append, List.nil_append, bin_nff, bin_nfn, bin_nffx, bin_nfnx, bin_streq]
    first | exact ⟨hK2, _, rfl, .nil _ _ _⟩ | exact ⟨_, rfl, .nil _ _ _⟩ | exact ⟨hK2, .nil _ _ _⟩
  have z1 := eq_false hm
  rw [if_neg hm]
  simp (config := {contextual := true, maxDischargeDepth := 12, maxSteps := 4000000}) only [tb_at, h0, h1, hlen, hbx, hnn, ← hu, a3, a3l, z1, notV_bool, Bool.not_true, Bool.not_false, pickV_t, pickV_f, bin_eql, bin_neq, bin_neb, bin_npn, bin_np, bin_npnx, gcall_tt, gpure_tf, beq_self_eq_true, Bool.true_and, Bool.and_true, decide_true, decide_false, ↓bD, bU, forall_const, bS, implies_true, isNx, eq_self, ↓wp_cond, ↓wp_loop, ↓reduceIte, reduceCtorEq, Nat.reduceEqDiff, Nat.reduceLT, Nat.reduceAdd, Nat.reduceMul, bT, ↓sg_bsl, ↓st_callf, bX, ap_mkfn, ap_conv, ↓wi_seq, ↓wi_base, ↓wi_block, ↓wi_cond, ↓wi_loop, ↓wi_rf, ↓wy_seq, ↓wy_base, ↓wy_block, ↓wy_cond, ↓wy_loop, ↓wy_yld, ae_callvV, callvV_fn, List.append_nil, List.cons_append, List.nil_append, bin_nff, bin_nfn, bin_nffx, bin_nfnx, bin_streq]
  refine rf_gen (fun e => elen e = 28 ∧ E e 3 = .ptr s.next 0 ∧ E e 5 = .ptr (s.next + 1) 0 ∧ E e 14 = .fn 63 [.ptr b 0]) ⟨(by simp only [bE, Nat.reduceEqDiff, bN, Nat.reduceLT, hlen, h0]; try rfl), (by simp only [bE, Nat.reduceEqDiff, bN, Nat.reduceLT, hlen, h0]; try rfl), (by simp only [bE, Nat.reduceEqDiff, bN, Nat.reduceLT, hlen, h0]; try rfl), (by simp only [bE, Nat.reduceEqDiff, bN, Nat.reduceLT, hlen, h0]; try rfl)⟩ ?_
  clear h0 h1 ha hlen
  rintro e0 ⟨he0, x3, x5, x14⟩
  refine rf_over (by rw [aev_t]; exact x14) (by omega) (hK2.blk hb) (fun i t => Keep s t ∧ (i : Int) < m ∧ t.get s.next = some (.row [.int .i64 m] true) ∧ ∃ lv, t.get (s.next + 1) = some (.row [lv] true) ∧ Own prC s t lv (l.take i)) ⟨hK2, by omega, g3, .nils, g5, .nil _ _ _⟩ (fun i t h => h.1.read hr) (fun i y t t' hJ hy hKt => ?_) (fun t hJ => ?_)
  · obtain ⟨hK, hi, q3, lv, q5, hO⟩ := hJ
    have hil := getlt hy
    have hset : ∀ a c, setPs e0 [15, 16] [a, c] = pE (pE e0 (some 15) a) (some 16) c := fun a c => by unfold pE; rfl
    rw [hset]
    have hK' := hK.trans hKt
    have q3' := hKt.blk q3
    have q5' := hKt.blk q5
    have hO' := hO.mono fun _ _ => hKt.blk
    obtain ⟨b5, b5l⟩ := row1_lod q5'
    have fs0 := fstep_bw0' (x := .int .i64 y.1) ⟨rfl, rfl⟩ (.int .i64 0) (.str ⟨#[]⟩)
    have fs1 := fstep_bw1' (x := .str y.2) ⟨rfl, rfl⟩ (.int .i64 y.1) (.str ⟨#[]⟩)
    have hbs : bslV [.int .i64 0, .str ⟨#[]⟩] 1 2 [(0, .agg [.int .i64 y.1, .str y.2])] = some (fun id => .sl id 0 1 (some 1) 2, .row [.int .i64 y.1, .str y.2] true) := by
      simp [bslV, fillP, aev, AV.cells, AV.one, setAt]
    obtain ⟨lv', t2, hap, hst, hlt, hK2', g5', hO2, hfr⟩ := box1_app hK' q5' (by omega) hO' (by decide) y 24 (by rw [List.length_take]; unfold roomBytes; omega)
    rw [← take_snoc hy] at hO2
    have g3' := hfr _ _ q3' (by omega) (own_ne hO' q3' (by rw [prC_sz]; simp))
    have hap : appV (t'.push (.row [.int .i64 y.1, .str y.2] true)) 2 24 lv (.sl t'.next 0 1 (some 1) 2) = some (lv', t2) := hap
    obtain ⟨c3, c3l⟩ := row1_lod g3'
    obtain ⟨c5, c5l⟩ := row1_lod g5'
    have hLv := lenV_read hO2.read
    rw [List.length_take, Nat.min_eq_left (by omega)] at hLv
    by_cases hlast : m ≤ ((i + 1 : Nat) : Int)
    · have z2 := eq_true hlast
      have hm1 : m.toNat = i + 1 := by omega
      simp (config := {contextual := true, maxDischargeDepth := 12, maxSteps := 4000000}) only [tb_at, he0, x3, x5, x14, b5, b5l, ap_build, fillP_nil, fillP_cons, fs0, fs1, hbs, hap, hst, hlt, c3, c3l, c5, c5l, hLv, z2, notV_bool, Bool.not_true, Bool.not_false, pickV_t, pickV_f, bin_eql, bin_neq, bin_neb, bin_npn, bin_np, bin_npnx, gcall_tt, gpure_tf, beq_self_eq_true, Bool.true_and, Bool.and_true, decide_true, decide_false, ↓bD, bU, forall_const, bS, implies_true, isNx, eq_self, ↓wp_cond, ↓wp_loop, ↓reduceIte, reduceCtorEq, Nat.reduceEqDiff, Nat.reduceLT, Nat.reduceAdd, Nat.reduceMul, bT, ↓sg_bsl, ↓st_callf, bX, ap_mkfn, ap_conv, ↓wi_seq, ↓wi_base, ↓wi_block, ↓wi_cond, ↓wi_loop, ↓wi_rf, ↓wy_seq, ↓wy_base, ↓wy_block, ↓wy_cond, ↓wy_loop, ↓wy_yld, ae_callvV, callvV_fn, List.append_nil, List.cons_append, List.nil_append, bin_nff, bin_nfn, bin_nffx, bin_nfnx, bin_streq]
      rw [hm1]
      first | exact ⟨hK2', _, rfl, hO2⟩ | exact ⟨hK2', hO2⟩ | exact ⟨_, rfl, hO2⟩
    · have z2 := eq_false hlast
      simp (config := {contextual := true, maxDischargeDepth := 12, maxSteps := 4000000}) only [tb_at, he0, x3, x5, x14, b5, b5l, ap_build, fillP_nil, fillP_cons, fs0, fs1, hbs, hap, hst, hlt, c3, c3l, c5, c5l, hLv, z2, notV_bool, Bool.not_true, Bool.not_false, pickV_t, pickV_f, bin_eql, bin_neq, bin_neb, bin_npn, bin_np, bin_npnx, gcall_tt, gpure_tf, beq_self_eq_true, Bool.true_and, Bool.and_true, decide_true, decide_false, ↓bD, bU, forall_const, bS, implies_true, isNx, eq_self, ↓wp_cond, ↓wp_loop, ↓reduceIte, reduceCtorEq, Nat.reduceEqDiff, Nat.reduceLT, Nat.reduceAdd, Nat.reduceMul, bT, ↓sg_bsl, ↓st_callf, bX, ap_mkfn, ap_conv, ↓wi_seq, ↓wi_base, ↓wi_block, ↓wi_cond, ↓wi_loop, ↓wi_rf, ↓wy_seq, ↓wy_base, ↓wy_block, ↓wy_cond, ↓wy_loop, ↓wy_yld, ae_callvV, callvV_fn, List.append_nil, List.cons_append, List.nil_append, bin_nff, bin_nfn, bin_nffx, bin_nfnx, bin_streq]
      exact ⟨hK2', by omega, g3', lv', g5', hO2⟩
  · obtain ⟨hK, hi, q3, lv, q5, hO⟩ := hJ
    obtain ⟨b5, b5l⟩ := row1_lod q5
    rw [List.take_length] at hO
    have : l.take m.toNat = l := List.take_of_length_le (by omega)
    simp (config := {contextual := true, maxDischargeDepth := 12, maxSteps := 4000000}) only [tb_at, he0, x3, x5, x14, b5, b5l, notV_bool, Bool.not_true, Bool.not_false, pickV_t, pickV_f, bin_eql, bin_neq, bin_neb, bin_npn, bin_np, bin_npnx, gcall_tt, gpure_tf, beq_self_eq_true, Bool.true_and, Bool.and_true, decide_true, decide_false, ↓bD, bU, forall_const, bS, implies_true, isNx, eq_self, ↓wp_cond, ↓wp_loop, ↓reduceIte, reduceCtorEq, Nat.reduceEqDiff, Nat.reduceLT, Nat.reduceAdd, Nat.reduceMul, bT, ↓sg_bsl, ↓st_callf, bX, ap_mkfn, ap_conv, ↓wi_seq, ↓wi_base, ↓wi_block, ↓wi_cond, ↓wi_loop, ↓wi_rf, ↓wy_seq, ↓wy_base, ↓wy_block, ↓wy_cond, ↓wy_loop, ↓wy_yld, ae_callvV, callvV_fn, List.append_nil, List.cons_append, List.nil_append, bin_nff, bin_nfn, bin_nffx, bin_nfnx, bin_streq]
    rw [this]
    first | exact ⟨hK, _, rfl, hO⟩ | exact ⟨hK, hO⟩ | exact ⟨_, rfl, hO⟩
theorem s_pairs : SoundAt Try.prog 16 (conF prC pPairs) :=
  con_freshI (tb_sound (l := []) (by simp)) mixed Try.func16 ki16 ci16 fun args s l e h => by
    unfold pPairs at h
    split at h
    · split at h
      · rename_i hb
        split at h
        · rename_i hr
          split at h
          · rename_i hl
            injection h with h
            obtain ⟨rfl, rfl⟩ := Prod.mk.inj h
            exact ⟨(fun x hx => by cases hx), by simp [ai16], a_pairs hb hr hl⟩
          · cases h
        · cases h
      · cases h
    · cases h
end Go.AM
end
/-
  Ordered maps: New, the helpers of the statements, Copy. Own work of this project; in part printed by a program of it.
-/
section
set_option maxRecDepth 100000
set_option maxHeartbeats 8000000
namespace Go.AM
open Go Go.Proofs

variable {s t u : St}

theorem bin_bo_same (a : Bool) : binOp .eql .bo (.bool a) (.bool a) = some (.bool true) := by cases a <;> rfl
end Go.AM
end
/-
  Ordered maps: Copy. Own work of this project; in part printed by a program of it.
-/
section
set_option maxRecDepth 100000
set_option maxHeartbeats 8000000
namespace Go.AM
open Go Go.Proofs

variable {s t u : St}

variable {id : Nat} {q : Option Nat} {d : Bool} {L : List PrS}
theorem SrtD.take (h : SrtD d L) (i : Nat) : SrtD d (L.take i) := List.Pairwise.sublist (List.take_sublist i L) h
end Go.AM
end
/-
  Ordered maps: the reference. Own work of this project; in part printed by a program of it.
-/
section
set_option maxRecDepth 100000
set_option maxHeartbeats 8000000
namespace Go.AM
open Go Go.Proofs

variable {s t u : St}

def oldA (base : Nat) : AV → Bool
  | .ptr id _ => decide (id < base)
  | _ => false
def lstep (base : Nat) (a : AV) (o : Option AV) (K : AV → Prop) : Prop := match o with
  | some v => oldA base a = true ∧ K v
  | none => False
@[congr] theorem lstep_congr {base : Nat} {a a' : AV} {o o' : Option AV} (ha : a = a') (h : o = o') (K : AV → Prop) : lstep base a o K = lstep base a' o' K := by rw [ha, h]
theorem lstep_some {base : Nat} {a : AV} (h : oldA base a = true) (v : AV) (K : AV → Prop) : lstep base a (some v) K = K v := by simp [lstep, h]
theorem st_loadnf {call : Nat → List AV → St → Option (AV × St)} {base : Nat} {d r : Option Nat} {rest : List AOper} {Q : Env → St → Prop} {env : Env} {s : St} (n : Nat) (x : AO) : awops call base (⟨d, .loadn n x, none, r, true⟩ :: rest) Q env s = lstep base (aev env x) (aread call env s (.loadn n x)) fun v => awops call base rest Q (pE env d v) s := by
  rw [awops_cons (by simp)]
  have h1 : aalloc env (.loadn n x) = none := rfl
  have h2 : apure env (.loadn n x) = none := rfl
  have h3 : ∀ s, aeff call env s (.loadn n x) = none := fun _ => rfl
  have h4 : oldLoad base env (.loadn n x) = oldA base (aev env x) := by
    show (match aev env x with | .ptr id _ => decide (id < base) | _ => false) = _
    unfold oldA
    cases aev env x <;> rfl
  simp only [aop, h1, h2, h3, Bool.true_and]
  cases aread call env s (.loadn n x) with
  | none => simp [lstep, estep]
  | some v =>
    rw [show oldLoad base env (AOp.loadn n x) = oldA base (aev env x) from h4]
    by_cases hb : oldA base (aev env x) = true
    · simp [lstep, estep, hb]
    · simp [lstep, estep, hb]
theorem st_load1nf {call : Nat → List AV → St → Option (AV × St)} {base : Nat} {d r : Option Nat} {rest : List AOper} {Q : Env → St → Prop} {env : Env} {s : St} (x : AO) : awops call base (⟨d, .load1 x, none, r, true⟩ :: rest) Q env s = lstep base (aev env x) (aread call env s (.load1 x)) fun v => awops call base rest Q (pE env d v) s := by
  rw [awops_cons (by simp)]
  have h1 : aalloc env (.load1 x) = none := rfl
  have h2 : apure env (.load1 x) = none := rfl
  have h3 : ∀ s, aeff call env s (.load1 x) = none := fun _ => rfl
  have h4 : oldLoad base env (.load1 x) = oldA base (aev env x) := by
    show (match aev env x with | .ptr id _ => decide (id < base) | _ => false) = _
    unfold oldA
    cases aev env x <;> rfl
  simp only [aop, h1, h2, h3, Bool.true_and]
  cases aread call env s (.load1 x) with
  | none => simp [lstep, estep]
  | some v =>
    rw [show oldLoad base env (AOp.load1 x) = oldA base (aev env x) from h4]
    by_cases hb : oldA base (aev env x) = true
    · simp [lstep, estep, hb]
    · simp [lstep, estep, hb]
def appG (base : Nat) (s : St) (sz bytes : Nat) (a x : AV) : Option (AV × St) := match appV (lowd s) sz bytes a x with
  | some (v, t) => if base ≤ t.low then some (v, { heap := t.heap, next := t.next, low := min s.low t.low }) else none
  | none => none
theorem st_appr {call : Nat → List AV → St → Option (AV × St)} {base : Nat} {d : Option Nat} {rest : List AOper} {Q : Env → St → Prop} {env : Env} {s : St} (sz b : Nat) (z : List AV) (a x : AO) (k : Nat) : awops call base (⟨d, .app sz b z a x, none, some k, true⟩ :: rest) Q env s = estep (appG base s sz b (aev env a) (aev env x)) fun v t => awops call base rest Q (pE env d v) t := by
  rw [st_efff (op := .app sz b z a x) (by simp) rfl rfl rfl]
  simp only [ae_app, appG, AOper.floor, AOper.stores, AOp.isApp, AOp.isStore, Option.isSome_some, Bool.and_true, Bool.false_or, if_true]
  show estep (appV (lowd s) sz b (aev env a) (aev env x)) _ = _
  cases appV (lowd s) sz b (aev env a) (aev env x) with
  | none => rfl
  | some q =>
    obtain ⟨v, t⟩ := q
    simp only [estep]
    by_cases h : base ≤ t.low
    · rw [if_pos h, if_pos h]
    · rw [if_neg h, if_neg h]
theorem st_appf0 {call : Nat → List AV → St → Option (AV × St)} {base : Nat} {d : Option Nat} {rest : List AOper} {Q : Env → St → Prop} {env : Env} {s : St} (sz b : Nat) (z : List AV) (a x : AO) : awops call base (⟨d, .app sz b z a x, none, none, true⟩ :: rest) Q env s = estep (appG s.next s sz b (aev env a) (aev env x)) fun v t => awops call base rest Q (pE env d v) t := by
  rw [st_efff (op := .app sz b z a x) (by simp) rfl rfl rfl]
  simp only [ae_app, appG, AOper.floor, AOper.stores, AOp.isApp, AOp.isStore, Option.isSome_none, Bool.and_false, Bool.false_or, Bool.false_eq_true, if_false]
  show estep (appV (lowd s) sz b (aev env a) (aev env x)) _ = _
  cases appV (lowd s) sz b (aev env a) (aev env x) with
  | none => rfl
  | some q =>
    obtain ⟨v, t⟩ := q
    simp only [estep]
    by_cases h : s.next ≤ t.low
    · rw [if_pos h, if_pos h]
    · rw [if_neg h, if_neg h]
theorem boxV_m {a b : AV} (ha : a.one = true) (hb : b.one = true) : boxV 2 (.agg [a, b]) = some (fun id => .ptr id 0, .row [a, b] true) := by
  unfold boxV
  simp [AV.cells, ha, hb]
end Go.AM
end
/-
  Ordered maps: the reference, continued. Own work of this project; in part printed by a program of it.
-/
section
set_option maxRecDepth 100000
set_option maxHeartbeats 8000000
namespace Go.AM
open Go Go.Proofs

variable {s t u : St}

theorem bin_nfls (a : Int) (b : ByteArray) : binOp .neq (.fl [.i, .s]) (.agg [.int .i64 a, .str b]) (.agg [.int .i64 a, .str b]) = some (.bool false) := by
  have hb : (b == b) = true := by
    cases b
    simp [BEq.beq, ByteArray.beq]
    rw [Array.isEqv_eq_decide]
    simp
  simp [binOp, eqV, eqL, eqF, hb]
def dropK (k : Int) (L : List PrS) : List PrS := L.filter fun y => decide (y.1 ≠ k)
def putR (d : Bool) (L : List PrS) (k : Int) (v : ByteArray) : List PrS := (dropK k L).take (rkD d (dropK k L) k) ++ (k, v) :: (dropK k L).drop (rkD d (dropK k L) k)
end Go.AM
end
/-
  Ordered maps: Set of the reference, Same, light; plain laws. Own work of this project; in part printed by a program of it.
-/
section
set_option maxRecDepth 100000
set_option maxHeartbeats 8000000
namespace Go.AM
open Go Go.Proofs

variable {s t u : St}
def lensV : AV → Option AV
  | .str b => some (.int .i64 (b.size : Int))
  | _ => none
theorem ap_lens {env : Env} (x : AO) : apure env (.len .st x) = lensV (aev env x) := by
  simp only [apure, lensV] <;> (cases aev env x <;> rfl)
theorem lensV_str (b : ByteArray) : lensV (.str b) = some (.int .i64 (b.size : Int)) := nrfl rfl
/-! ### Plain laws -/
variable {d : Bool} {L : List PrS}
theorem srt_rk (h : SrtD d L) {k : Int} {j : Nat} {y : PrS} (hy : L[j]? = some y) (hj : rkD d L k ≤ j) : ¬ sg d y.1 < sg d k := by
  have hjl := getlt hy
  obtain ⟨z, hz⟩ := getsome (show rkD d L k < L.length by omega)
  have h1 := rk_at hz
  by_cases e : j = rkD d L k
  · subst e
    rw [hz] at hy; injection hy with hy; rw [← hy]; exact h1
  · have := h.lt hz hy (by omega)
    omega
theorem drop_hit (h : SrtD d L) {k : Int} {v : ByteArray} (hg : gtD d L k = some v) : dropK k L = L.take (rkD d L k) ++ L.drop (rkD d L k + 1) := by
  have hx := gt_some hg
  have hi := getlt hx
  unfold dropK
  conv => lhs; rw [← List.take_append_drop (rkD d L k) L]
  rw [List.filter_append, List.drop_eq_getElem_cons hi, List.filter_cons]
  have e : L[rkD d L k] = (k, v) := (List.getElem?_eq_some_iff.1 hx).2
  rw [e]
  simp only [ne_eq, not_true_eq_false, decide_false, Bool.false_eq_true, if_false]
  congr 1
  · rw [List.filter_eq_self]
    intro y hy
    obtain ⟨j, hj⟩ := List.mem_iff_getElem?.1 hy
    have hj1 := getlt hj
    rw [List.length_take] at hj1
    rw [List.getElem?_take_of_lt (by omega)] at hj
    have := rk_lt (d := d) (k := k) (show j < rkD d L k by omega) hj
    have hne : y.1 ≠ k := fun q => by rw [q] at this; omega
    simp [hne]
  · rw [List.filter_eq_self]
    intro y hy
    obtain ⟨j, hj⟩ := List.mem_iff_getElem?.1 hy
    rw [List.getElem?_drop] at hj
    have := h.lt hx hj (by omega)
    have hne : y.1 ≠ k := fun q => by rw [q] at this; simp at this
    simp [hne]
theorem drop_miss (h : SrtD d L) {k : Int} (hg : gtD d L k = none) : dropK k L = L := by
  unfold dropK
  rw [List.filter_eq_self]
  intro y hy
  obtain ⟨j, hj⟩ := List.mem_iff_getElem?.1 hy
  have hne : y.1 ≠ k := fun q => by
    have h1 : ¬ j < rkD d L k := fun hlt => by
      have := rk_lt (d := d) (k := k) hlt hj
      rw [q] at this
      omega
    have h2 : ¬ rkD d L k < j := fun hlt => by
      obtain ⟨z, hz⟩ := getsome (show rkD d L k < L.length by have := getlt hj; omega)
      have h3 := h.lt hz hj hlt
      have h4 := rk_at hz
      rw [q] at h3
      omega
    have e : j = rkD d L k := by omega
    subst e
    unfold gtD at hg
    rw [hj] at hg
    simp [q] at hg
  simp [hne]
theorem putR_put (h : SrtD d L) (k : Int) (v : ByteArray) : putR d L k v = putD d L k v := by
  unfold putR putD
  rcases gtD_split d L k with ⟨hg, hg1⟩ | ⟨v0, hg, hg1⟩
  · rw [hg1, drop_miss h hg]; rfl
  · have hx := gt_some hg
    have hi := getlt hx
    have hlt : (L.take (rkD d L k)).length = rkD d L k := by rw [List.length_take]; omega
    have hrk : rkD d (dropK k L) k = rkD d L k := by
      rw [drop_hit h hg]
      refine rk_eq (by rw [List.length_append]; omega) (fun j y hj hy => ?_) (fun y hy => ?_)
      · rw [List.getElem?_append_left (by omega), List.getElem?_take_of_lt hj] at hy
        exact rk_lt hj hy
      · rw [List.getElem?_append_right (by omega), hlt, Nat.sub_self, List.getElem?_drop] at hy
        have := h.lt hx hy (by omega)
        simp at this
        omega
    rw [hg1, hrk, drop_hit h hg, List.take_append_of_le_length (by omega), List.drop_append_of_le_length (by omega), List.take_of_length_le (by omega), List.drop_eq_nil_of_le (by omega)]
    rfl
theorem srt_app {A B : List PrS} {x : PrS} (hA : SrtD d A) (hB : SrtD d B) (h1 : ∀ a ∈ A, sg d a.1 < sg d x.1) (h2 : ∀ b ∈ B, sg d x.1 < sg d b.1) : SrtD d (A ++ x :: B) := by
  unfold SrtD
  rw [List.pairwise_append, List.pairwise_cons]
  refine ⟨hA, ⟨h2, hB⟩, fun a ha b hb => ?_⟩
  rcases List.mem_cons.1 hb with rfl | hb
  · exact h1 a ha
  · have := h1 a ha
    have := h2 b hb
    omega
theorem SrtD.drop (h : SrtD d L) (i : Nat) : SrtD d (L.drop i) := List.Pairwise.sublist (List.drop_sublist i L) h
theorem put_srt (h : SrtD d L) (k : Int) (v : ByteArray) : SrtD d (putD d L k v) := by
  unfold putD
  refine srt_app (h.take _) (h.drop _) (fun a ha => ?_) (fun b hb => ?_)
  · obtain ⟨j, hj⟩ := List.mem_iff_getElem?.1 ha
    have hj1 := getlt hj
    rw [List.length_take] at hj1
    rw [List.getElem?_take_of_lt (by omega)] at hj
    exact rk_lt (show j < rkD d L k by omega) hj
  · obtain ⟨j, hj⟩ := List.mem_iff_getElem?.1 hb
    rw [List.getElem?_drop] at hj
    show sg d k < sg d b.1
    rcases gtD_split d L k with ⟨hg, hg1⟩ | ⟨v0, hg, hg1⟩
    · rw [hg1] at hj
      simp only [Bool.false_eq_true, if_false] at hj
      have h1 := srt_rk (k := k) h hj (by omega)
      have hne : b.1 ≠ k := fun q => by
        have hb' : b ∈ dropK k L := by rw [drop_miss h hg]; exact List.mem_of_getElem? hj
        unfold dropK at hb'
        rw [List.mem_filter] at hb'
        simp [q] at hb'
      have := mt (sg_inj d b.1 k).1 hne
      omega
    · rw [hg1] at hj
      simp only [if_true] at hj
      have := h.lt (gt_some hg) hj (by omega)
      exact this
end Go.AM
end
/-
  Ordered maps: a map looks like the reference. Own work of this project; in part printed by a program of it.
-/
section
set_option maxRecDepth 100000
set_option maxHeartbeats 8000000
namespace Go.AM
open Go Go.Proofs

variable {s t u : St}

theorem sg_callf3 {call : Nat → List AV → St → Option (AV × St)} {base : Nat} {d : Option Nat} {r : Option Nat} {rest : List AOper} {Q : Env → St → Prop} {env : Env} {s : St} (f : Nat) (l : List AO) (t : Nat) (w : Bool) : awops call base (⟨d, .call f false l, some (t, w), r, true⟩ :: rest) Q env s = gcall s (E env t) w (acallF (call f) (l.map (aev env)) s) fun v t => awops call base rest Q (pE env d v) t := by
  rw [st_guard, st_callf]
  rfl
theorem gpure_ff0 (x : AV) (K : AV → Prop) : gpure (.bool false) false (some x) K = K x := nrfl rfl
end Go.AM
end
/-
  The chapter's examples: 'known' answers true. Own work of this project; in part printed by a program of it.
-/
section
set_option maxRecDepth 100000
set_option maxHeartbeats 8000000
namespace Go.AM
open Go Go.Proofs

variable {s t u : St}

def tabK : Nat → AFun
  | 9 => .code a9
  | 10 => .code a10
  | 30 => .code a30
  | 28 => .code a28
  | 27 => .code a27
  | 34 => .code a34
  | 35 => .code a35
  | 50 => .code a50
  | 38 => .code a38
  | 15 => .code a15
  | 36 => .code a36
  | 11 => .code a11
  | 51 => .code a51
  | 17 => .code a17
  | 25 => .code a25
  | 49 => .code a49
  | 26 => .code a26
  | 55 => .code a55
  | 56 => .code a56
  | 13 => .code a13
  | 14 => .code a14
  | 40 => .code a40
  | 39 => .code a39
  | 58 => .code a58
  | 43 => .code a43
  | 62 => .code a62
  | 57 => .code a57
  | 16 => .con (conF prC pPairs)
  | 41 => .con (conIns)
  | 44 => .con (conDel)
  | _ => .no
theorem tabK_ok : ∀ f, FunOk Try.prog f (tabK f) := by
  intro f
  unfold tabK
  split
  · exact ⟨k9, _, Try.func9, c9⟩
  · exact ⟨k10, _, Try.func10, c10⟩
  · exact ⟨k30, _, Try.func30, c30⟩
  · exact ⟨k28, _, Try.func28, c28⟩
  · exact ⟨k27, _, Try.func27, c27⟩
  · exact ⟨k34, _, Try.func34, c34⟩
  · exact ⟨k35, _, Try.func35, c35⟩
  · exact ⟨k50, _, Try.func50, c50⟩
  · exact ⟨k38, _, Try.func38, c38⟩
  · exact ⟨k15, _, Try.func15, c15⟩
  · exact ⟨k36, _, Try.func36, c36⟩
  · exact ⟨k11, _, Try.func11, c11⟩
  · exact ⟨k51, _, Try.func51, c51⟩
  · exact ⟨k17, _, Try.func17, c17⟩
  · exact ⟨k25, _, Try.func25, c25⟩
  · exact ⟨k49, _, Try.func49, c49⟩
  · exact ⟨k26, _, Try.func26, c26⟩
  · exact ⟨k55, _, Try.func55, c55⟩
  · exact ⟨k56, _, Try.func56, c56⟩
  · exact ⟨k13, _, Try.func13, c13⟩
  · exact ⟨k14, _, Try.func14, c14⟩
  · exact ⟨k40, _, Try.func40, c40⟩
  · exact ⟨k39, _, Try.func39, c39⟩
  · exact ⟨k58, _, Try.func58, c58⟩
  · exact ⟨k43, _, Try.func43, c43⟩
  · exact ⟨k62, _, Try.func62, c62⟩
  · exact ⟨k57, _, Try.func57, c57⟩
  · exact s_pairs
  · exact s_cInsI
  · exact s_cDelI
  · trivial
theorem known_run : isTrue (acalls tabK 1000 16 9 [] St.empty) = true := by kernel_rfl
theorem s_known : SoundAt Try.prog 9 (closed [] (.bool true)) := by
  obtain ⟨s, hs⟩ := isTrue_ex known_run
  exact closed_sound (acalls_sound mixed tabK_ok 16 _) hs rfl
theorem q_known (cl : Bool) {s : St} : acall (closed [] (.bool true)) cl [] s = some (.bool true, s) := by simp [acall, closed, AV.ground, AV.plain, AV.plains]

end Go.AM
end
/-
  The row's last part: a call that leaves what was there alone, and answers true. Own work of this project.
-/
section
namespace Go.AM
open Go Go.ChangeShapes Go.WideShapes Go.ChangeAt Go.RowKit

variable {H : Type} {enc : TypeId × Value → H} {P : Program}

theorem Clean.below {W W' : World} (h : Clean W W') : Below W.heap.size W W' := ⟨h.os, h.tape, h.output, h.size, h.block⟩
theorem Clean.frozen {W W' : World} (h : Clean W W') {a : Addr} (ha : a.block < W.heap.size) : W'.frozen? a = W.frozen? a := h.below.frozen ha

theorem trodAll_clean (hl : laidOutB P = true) {W W' : World} (hc : Clean W W') (sp : Nat → Bool) : ∀ {ts : List TypeId} {vs : List Value} {ds : List (DataW H)} {ps : List MemPlace}, (∀ t ∈ ts, P.readableRec t = true ∧ t < P.types.size) →
    DataW.TrodAll enc P W 0 (fun _ => true) true ts vs ds ps → (∀ p ∈ ps, sp p.block = true) → DataW.TrodAll enc P W' 0 sp true ts vs ds ps
  | [], vs, ds, ps, _, h, _ => by
    obtain ⟨rfl, rfl, rfl⟩ := trodAll_nil h
    rfl
  | t :: ts, vs, ds, ps, hr, h, hs => by
    obtain ⟨v, vs1, d, ds1, a, b, rfl, rfl, rfl, h1, h2⟩ := trodAll_cons h
    have hlt := DataW.TrodAll.lt h
    refine ⟨a, b, ?_, trodAll_clean hl hc sp (fun t ht => hr t (by simp [ht])) h2 fun p hp => hs p (by simp [hp]), rfl⟩
    exact WideElems.Trod_stays hl (hr t (by simp)).1 (hr t (by simp)).2 h1 (fun x hx => hc.below.same (hlt x (by simp [hx]))) fun x hx => hs x (by simp [hx])

theorem post_of_clean {f : Func} {s : ChangeSpec} {apart fresh handsOn again : Bool} {W W' : World} {args : Array Value} {ds gs : List (DataW H)} {before : List MemPlace} {tb : TypeId} (hl : laidOutB P = true)
    (hread : ∀ t ∈ f.params.toList, P.readableRec t = true ∧ t < P.types.size) (hW : DataW.Whole enc P f.params.toList s.vars apart W args.toList ds gs before) (hv : s.vars = [])
    (hres : (s.fn H (ds ++ gs)).results = [.lit (.bool true)]) (hargs : (s.fn H (ds ++ gs)).args = ds) (hvars : (s.fn H (ds ++ gs)).vars = []) (hrt : f.resultTypes = #[tb]) (hb : P.underlying tb = some .bool) (hc : Clean W W') :
    s.post enc P f apart fresh handsOn again W args (.bool true) W' := by
  have hlt : ∀ p ∈ before, p.block < W.heap.size := hW.lt
  have hW0 := hW
  obtain ⟨pa, pv, hA, hV, rfl, hz, hn⟩ := hW
  have hpv : pv = [] := by
    rw [hv] at hV
    cases gs with
    | nil => exact hV
    | cons g gs => exact hV.elim
  subst hpv
  simp only [List.append_nil] at hW0 hlt hz hn
  have hR : ∀ (b : Nat) (sp : Nat → Bool) (hd : Bool), DataW.TrodAll enc P W' b sp hd [tb] [.bool true] [.lit (.bool true)] [] := fun b sp hd => trodAll_mk1 (shut_bool hb true)
  have hrl : (Value.bool true).resultList f.resultTypes.size = [.bool true] := by simp [hrt, Value.resultList]
  refine ⟨ds, gs, pa, [], pa, [], hW0, ?_, ?_, ?_, ?_, fun _ => ⟨fun j t r h1 h2 => ?_, ?_⟩⟩
  · rw [hrl, hres, hrt]
    exact hR _ _ _
  · rw [hargs]
    exact trodAll_clean hl hc _ hread hA fun p hp => by simpa using hlt p hp
  · rw [hvars, hv]
    rfl
  · exact hc.below.frame _
  · rw [hrl] at h2
    rw [hrt] at h1
    cases j with
    | zero =>
      simp at h1 h2
      subst h1; subst h2
      simp [Value.okWide, hb, Cell.okWide, Cell.ok]
    | succ j => simp at h1
  · refine ⟨[.lit (.bool true)] ++ ds, [], pa, ⟨[] ++ pa, [], ?_, ?_, by simp, ?_, ?_⟩, fun p hp _ => hp⟩
    · rw [hrl, hrt]
      exact trodAll_append (trodAll_clean hl hc _ hread hA fun _ _ => rfl) (hR _ _ _)
    · rw [hv]
      rfl
    · intro b off hp
      rw [hc.frozen (hlt _ hp)]
      exact hz b off hp
    · intro ha
      simpa using hn ha

end Go.AM
end
/-
  From a row's reading of an argument to the abstract machine's memory. Own work of this project.
-/
section
namespace Go.AM
open Go Go.ChangeShapes Go.WideShapes Go.ChangeAt Go.RowKit Go.Deep

/-- The kinds of plain cells. -/
inductive CK where
  | b | i (k : IntKind) | s
def CK.ok : CK → AV → Prop
  | .b, v => ∃ x, v = .bool x
  | .i k, v => ∃ n, v = .int k n ∧ (Lit.int k n).wf = true
  | .s, v => ∃ x, v = .str x
def CKs : List CK → List AV → Prop
  | [], vs => vs = []
  | k :: ks, vs => ∃ v r, vs = v :: r ∧ k.ok v ∧ CKs ks r
theorem CKs.append : ∀ {ks ks' : List CK} {vs vs' : List AV}, CKs ks vs → CKs ks' vs' → CKs (ks ++ ks') (vs ++ vs')
  | [], ks', vs, vs', h, h' => by simp only [CKs] at h; subst h; exact h'
  | k :: ks, ks', vs, vs', h, h' => by
    simp only [CKs] at h
    obtain ⟨v, r, rfl, h1, h2⟩ := h
    exact ⟨v, r ++ vs', rfl, h1, CKs.append h2 h'⟩
theorem CKs.len : ∀ {ks : List CK} {vs : List AV}, CKs ks vs → vs.length = ks.length
  | [], vs, h => by simp only [CKs] at h; subst h; rfl
  | k :: ks, vs, h => by
    simp only [CKs] at h
    obtain ⟨v, r, rfl, h1, h2⟩ := h
    simp [CKs.len h2]
theorem CK.ok_one {k : CK} {v : AV} (h : k.ok v) : v.one = true := by
  cases k <;> simp only [CK.ok] at h
  · obtain ⟨x, rfl⟩ := h; rfl
  · obtain ⟨x, rfl, _⟩ := h; rfl
  · obtain ⟨x, rfl⟩ := h; rfl
theorem CKs.one : ∀ {ks : List CK} {vs : List AV}, CKs ks vs → vs.all AV.one = true
  | [], vs, h => by simp only [CKs] at h; subst h; rfl
  | k :: ks, vs, h => by
    simp only [CKs] at h
    obtain ⟨v, r, rfl, h1, h2⟩ := h
    simp [CK.ok_one h1, CKs.one h2]

variable (P : Program)
variable {P}
variable {H : Type} {enc : TypeId × Value → H} {w : World} {base : Nat} {spare : Nat → Bool} {held : Bool}
theorem cell_some {a : Addr} {v : Value} (h : w.cell? a = some v) : ∃ cells el fr, w.heap[a.block]? = some (.cells cells el fr) ∧ a.spot = none := by
  unfold World.cell? at h
  split at h
  · rename_i c el fr hh
    split at h
    · cases h
    · rename_i hs
      exact ⟨c, el, fr, hh, by simpa using hs⟩
  · cases h
theorem addr_block (a : Addr) (i : Nat) : (a.add i).block = a.block := by unfold Addr.add; split <;> rfl
theorem addr_spot (a : Addr) (i : Nat) (h : (a.add i).spot = none) (h0 : i = 0 ∨ True) : i = 0 → a.spot = none := by
  intro hi
  subst hi
  unfold Addr.add at h
  simpa using h

/-- Cells, each kind in its turn, again and again. -/
def Rows (ks : List CK) (rows : List (List AV)) : Prop := ∀ r ∈ rows, CKs ks r
end Go.AM
end
/-
  Arguments with slices in slices and in structs, opened into the abstract machine's memory. Own work of this project.
-/
section
set_option maxRecDepth 100000
namespace Go.AM
open Go Go.ChangeShapes Go.WideShapes Go.ChangeAt Go.RowKit Go.Deep

/-- Some block of cells is there. -/
def HasCellsD (W : World) : Prop := ∃ (b : Nat) (cs : Array Value) (e : TypeId) (fr : Nat × Nat), W.heap[b]? = some (Obj.cells cs e fr)
theorem dummyD {W : World} (h : HasCellsD W) : ∃ L : Loc, L.b < W.heap.size ∧ ∀ ρ, BlkOk ρ L W (.row [] false) := by
  obtain ⟨b, cs, e, fr, hb⟩ := h
  refine ⟨⟨b, 0, cs.size⟩, (Array.getElem?_eq_some_iff.1 hb).1, fun ρ => ?_⟩
  simp only [BlkOk]
  exact ⟨cs, e, fr, hb, rfl, by simp, fun i v h => by simp at h, by simp, rfl⟩

section
variable (P : Program)
/-- What the memory shows at cells of a type. -/
def RdF (ok : TypeId → List AV → Prop) : List Field → List AV → Prop
  | [], vs => vs = []
  | f :: r, vs => ∃ a b, vs = a ++ b ∧ ok f.type a ∧ RdF ok r b
def RdT (s : St) : Nat → TypeId → List AV → Prop
  | 0, _, _ => False
  | d + 1, t, vs => match P.underlying t with
    | some .bool => ∃ x, vs = [.bool x]
    | some (.int k) => ∃ n, vs = [.int k n] ∧ (Lit.int k n).wf = true
    | some .string => ∃ x, vs = [.str x]
    | some (.struct fs) => RdF (RdT s d) fs.toList vs
    | some (.slice e) => vs = [.nils] ∨ ∃ (id n cap : Nat) (rows : List (List AV)), vs = [.sl id 0 n (some cap) (P.cellsOf e)] ∧ n ≤ cap ∧ cap ≤ maxLen ∧ rows.length = cap ∧ s.get id = some (.row rows.flatten false) ∧ ∀ r ∈ rows, RdT s d e r ∧ r.length = P.cellsOf e
    | _ => False
def okF (ok : TypeId → Bool) : List Field → Nat → Nat → Bool
  | [], at_, sz => decide (sz = at_)
  | f :: r, at_, sz => decide (f.offset = at_) && ok f.type && okF ok r (at_ + P.cellsOf f.type) sz
def okT : Nat → TypeId → Bool
  | 0, _ => false
  | d + 1, t => match P.underlying t with
    | some .bool | some (.int _) | some .string => true
    | some (.struct fs) => okF P (okT d) fs.toList 0 (P.cellsOf t)
    | some (.slice e) => decide (P.cellsOf e ≠ 0) && okT d e
    | _ => false
end

variable {P : Program} {H : Type} {enc : TypeId × Value → H} {W : World} {base : Nat} {held : Bool}
/-- Cells, and the blocks that they reach, numbered from 'start' on. -/
structure Opn (W : World) (Q : St → List AV → Prop) (start : Nat) (cs : List Value) (vs : List AV) (bl : List (AB × Loc)) : Prop where
  lt : ∀ p ∈ bl, p.2.b < W.heap.size
  own : ∀ p ∈ bl, p.1.owned = false
  vr : ∀ ρ : Ren, (∀ i p, bl[i]? = some p → ρ (start + i) = some p.2) → VRs ρ vs cs ∧ ∀ p ∈ bl, BlkOk ρ p.2 W p.1
  rd : ∀ s : St, (∀ i p, bl[i]? = some p → s.get (start + i) = some p.1) → Q s vs
  one : vs.all AV.one = true
  len : vs.length = cs.length
theorem Opn.plain {Q : St → List AV → Prop} {start : Nat} {cs : List Value} {vs : List AV} (h : ∀ ρ, VRs ρ vs cs) (hq : ∀ s, Q s vs) (ho : vs.all AV.one = true) (hl : vs.length = cs.length) : Opn W Q start cs vs [] :=
  ⟨by simp, by simp, fun ρ _ => ⟨h ρ, by simp⟩, fun s _ => hq s, ho, hl⟩
theorem Opn.app {Q1 Q2 : St → List AV → Prop} {start : Nat} {c1 c2 : List Value} {v1 v2 : List AV} {b1 b2 : List (AB × Loc)} (h : Opn W Q1 start c1 v1 b1) (k : Opn W Q2 (start + b1.length) c2 v2 b2) :
    Opn W (fun s _ => Q1 s v1 ∧ Q2 s v2) start (c1 ++ c2) (v1 ++ v2) (b1 ++ b2) := by
  have e1 : ∀ {i : Nat} {p}, b1[i]? = some p → (b1 ++ b2)[i]? = some p := fun {i p} hp => by
    rw [List.getElem?_append_left (List.getElem?_eq_some_iff.1 hp).1]; exact hp
  have e2 : ∀ {i : Nat} {p}, b2[i]? = some p → (b1 ++ b2)[b1.length + i]? = some p := fun {i p} hp => by
    rw [List.getElem?_append_right (by omega), Nat.add_sub_cancel_left]; exact hp
  refine ⟨fun p hp => ?_, fun p hp => ?_, fun ρ hρ => ?_, fun s hs => ⟨h.rd s fun i p hp => hs i p (e1 hp), k.rd s fun i p hp => ?_⟩, by simp [h.one, k.one], by simp [h.len, k.len]⟩
  · rcases List.mem_append.1 hp with q | q
    · exact h.lt p q
    · exact k.lt p q
  · rcases List.mem_append.1 hp with q | q
    · exact h.own p q
    · exact k.own p q
  · obtain ⟨r1, r2⟩ := h.vr ρ fun i p hp => hρ i p (e1 hp)
    obtain ⟨r3, r4⟩ := k.vr ρ fun i p hp => by have := hρ _ p (e2 hp); rwa [← Nat.add_assoc] at this
    refine ⟨r1.append r3, fun p hp => ?_⟩
    rcases List.mem_append.1 hp with q | q
    · exact r2 p q
    · exact r4 p q
  · have := hs _ p (e2 hp)
    rwa [← Nat.add_assoc] at this
theorem Opn.imp {Q Q' : St → List AV → Prop} {start : Nat} {cs : List Value} {vs : List AV} {bl : List (AB × Loc)} (h : Opn W Q start cs vs bl) (k : ∀ s, Q s vs → Q' s vs) : Opn W Q' start cs vs bl :=
  ⟨h.lt, h.own, h.vr, fun s hs => k s (h.rd s hs), h.one, h.len⟩

/-- A slice's place, its elements as they are read one by one. -/
theorem slice_geo {t e : TypeId} {fuel : Nat} {cs : List Value} {x : DataW H × List MemPlace} (hu : P.underlying t = some (.slice e)) (h0 : P.cellsOf e ≠ 0)
    (h : DataW.trod enc P W base (fun _ => true) held fuel t cs = some x) : cs = [.slice none 0 0] ∨ (∃ a, cs = [.slice (some a) 0 0]) ∨
    ∃ (b off len cap : Nat) (cells : Array Value) (el : TypeId) (fr : Nat × Nat) (n : Nat), cs = [.slice (some ⟨b, off, none⟩) len cap] ∧ 0 < cap ∧ len ≤ cap ∧ cap ≤ maxLen ∧ W.heap[b]? = some (.cells cells el fr) ∧ off + cap * P.cellsOf e ≤ cells.size ∧
      ∀ i, i < cap → ∃ x, DataW.trod enc P W base (fun _ => true) held n e ((cells.toList.drop (off + i * P.cellsOf e)).take (P.cellsOf e)) = some x := by
  rcases open_slice hu h with ⟨rfl, _⟩ | ⟨a, len, cap, m, n, D, Pl, rfl, hb, hl, hm, hmm, _, hx⟩
  · exact .inl rfl
  right
  simp only [if_true] at hmm
  subst hmm
  by_cases hc : m = 0
  · left
    subst hc
    have : len = 0 := by omega
    subst this
    exact ⟨a, rfl⟩
  right
  obtain ⟨cs0, h1, _⟩ := hx 0 (by omega)
  obtain ⟨_, hl0, hat0⟩ := World.cells?_some h1
  have hc0 := hat0 0 (by omega)
  obtain ⟨b, off, spot⟩ := a
  have hsome : ∃ v, cs0[0]? = some v := ⟨cs0[0]'(by omega), by simp⟩
  obtain ⟨v0, hv0⟩ := hsome
  rw [hv0] at hc0
  obtain ⟨cells, el, fr, hh, hsp⟩ := cell_some hc0
  rw [addr_block, addr_block] at hh
  simp only at hh
  have hspot : spot = none := by
    have h2 := addr_spot _ 0 hsp (.inl rfl) rfl
    have h3 := addr_spot _ (0 * P.cellsOf e) h2 (.inr trivial) (by simp)
    exact h3
  subst hspot
  have hat : ∀ i, i < m → off + (i + 1) * P.cellsOf e ≤ cells.size ∧ ∃ x, DataW.trod enc P W base (fun _ => true) held n e ((cells.toList.drop (off + i * P.cellsOf e)).take (P.cellsOf e)) = some x := by
    intro i hi
    obtain ⟨cs', e1, e2⟩ := hx i hi
    obtain ⟨_, hl', hat'⟩ := World.cells?_some e1
    have hget : ∀ j, j < P.cellsOf e → cells[off + i * P.cellsOf e + j]? = cs'[j]? := by
      intro j hj
      have := hat' j hj
      rw [addr_add, addr_add, cell_at hh] at this
      exact this
    have hsz : off + (i + 1) * P.cellsOf e ≤ cells.size := by
      have hj : P.cellsOf e - 1 < P.cellsOf e := by omega
      have := hget _ hj
      rw [List.getElem?_eq_getElem (by omega)] at this
      have hlt := (Array.getElem?_eq_some_iff.1 this).1
      rw [Nat.succ_mul]
      omega
    refine ⟨hsz, (D i, Pl i), ?_⟩
    have : (cells.toList.drop (off + i * P.cellsOf e)).take (P.cellsOf e) = cs' := by
      apply List.ext_getElem?
      intro j
      by_cases hj : j < P.cellsOf e
      · rw [List.getElem?_take_of_lt hj, List.getElem?_drop]
        have := hget j (by omega)
        simpa using this
      · rw [List.getElem?_eq_none (by simp; omega), List.getElem?_eq_none (by omega)]
    rw [this]
    exact e2
  obtain ⟨q2, _⟩ := hat (m - 1) (by omega)
  rw [show m - 1 + 1 = m by omega] at q2
  exact ⟨b, off, len, m, cells, el, fr, n, rfl, by omega, hl, hm, hh, q2, fun i hi => (hat i hi).2⟩

def DeepOk (P : Program) (enc : TypeId × Value → H) (W : World) (base : Nat) (held : Bool) (d : Nat) (t : TypeId) : Prop :=
  ∀ (fuel : Nat) (cs : List Value) (x : DataW H × List MemPlace), DataW.trod enc P W base (fun _ => true) held fuel t cs = some x → ∀ start, ∃ vs bl, Opn W (fun s vs => RdT P s d t vs) start cs vs bl

theorem deep_fields {d : Nat} (IH : ∀ t, okT P d t = true → DeepOk P enc W base held d t) {n : Nat} {cs : List Value} {sz : Nat} (hcs : cs.length = sz) : ∀ (fs : List Field) (at_ : Nat), okF P (okT P d) fs at_ sz = true →
    (∀ f ∈ fs, ∃ x, DataW.trod enc P W base (fun _ => true) held n f.type ((cs.drop f.offset).take (P.cellsOf f.type)) = some x) → ∀ start, ∃ vs bl, Opn W (fun s vs => RdF (RdT P s d) fs vs) start (cs.drop at_) vs bl
  | [], at_, h, _, start => by
    simp only [okF, decide_eq_true_eq] at h
    rw [List.drop_eq_nil_of_le (by omega)]
    exact ⟨[], [], .plain (fun _ => VRs_nil) (fun _ => rfl) rfl rfl⟩
  | f :: r, at_, h, hx, start => by
    simp only [okF, Bool.and_eq_true, decide_eq_true_eq] at h
    obtain ⟨⟨hoff, hok⟩, hr⟩ := h
    obtain ⟨x, hxf⟩ := hx f (by simp)
    obtain ⟨v1, b1, o1⟩ := IH f.type hok n _ x hxf start
    obtain ⟨v2, b2, o2⟩ := deep_fields IH hcs r (at_ + P.cellsOf f.type) hr (fun g hg => hx g (by simp [hg])) (start + b1.length)
    refine ⟨v1 ++ v2, b1 ++ b2, ?_⟩
    have := o1.app o2
    rw [hoff, ← List.drop_drop, List.take_append_drop] at this
    exact this.imp fun s q => ⟨v1, v2, rfl, q⟩
theorem deep_rows {d : Nat} {e : TypeId} {n : Nat} (IH : DeepOk P enc W base held d e) (cells : List Value) (off : Nat) : ∀ (k : Nat), off + k * P.cellsOf e ≤ cells.length →
    (∀ i, i < k → ∃ x, DataW.trod enc P W base (fun _ => true) held n e ((cells.drop (off + i * P.cellsOf e)).take (P.cellsOf e)) = some x) → ∀ start, ∃ (rows : List (List AV)) (bl : List (AB × Loc)), rows.length = k ∧
      Opn W (fun s _ => ∀ r ∈ rows, RdT P s d e r ∧ r.length = P.cellsOf e) start ((cells.drop off).take (k * P.cellsOf e)) rows.flatten bl
  | 0, _, _, start => ⟨[], [], rfl, .plain (fun _ => by simpa using VRs_nil) (fun _ r hr => by simp at hr) rfl (by simp)⟩
  | k + 1, hle, hx, start => by
    obtain ⟨rows, b1, h1, o1⟩ := deep_rows IH cells off k (by rw [Nat.succ_mul] at hle; omega) (fun i hi => hx i (by omega)) start
    obtain ⟨x, hxk⟩ := hx k (by omega)
    obtain ⟨v2, b2, o2⟩ := IH n _ x hxk (start + b1.length)
    refine ⟨rows ++ [v2], b1 ++ b2, by simp [h1], ?_⟩
    have hl2 : v2.length = P.cellsOf e := by
      rw [o2.len, List.length_take, List.length_drop]
      rw [Nat.succ_mul] at hle
      omega
    have := o1.app o2
    rw [List.flatten_append, List.flatten_singleton, Nat.succ_mul, List.take_add, List.drop_drop]
    refine this.imp fun s hq r hr => ?_
    rcases List.mem_append.1 hr with q | q
    · exact hq.1 r q
    · simp at q
      subst q
      exact ⟨hq.2, hl2⟩
theorem VRs.cell {ρ : Ren} {vs : List AV} {cs : List Value} (h : VRs ρ vs cs) {i : Nat} {v : AV} (hi : vs[i]? = some v) : ∃ c, cs[i]? = some c ∧ VR ρ v c := VRs.at_ i h hi
theorem deep_open (hc : HasCellsD W) : ∀ (d : Nat) (t : TypeId), okT P d t = true → DeepOk P enc W base held d t
  | 0, t, h => by simp [okT] at h
  | d + 1, t, h => by
    intro fuel cs x hx start
    simp only [okT] at h
    split at h
    · rename_i hu
      obtain ⟨b, rfl, _⟩ := DataW.trod_bool hu hx
      exact ⟨[.bool b], [], .plain (fun ρ => VRs_cons.2 ⟨by simp [VR], VRs_nil⟩) (fun s => by simp only [RdT, hu]; exact ⟨b, rfl⟩) rfl rfl⟩
    · rename_i k hu
      obtain ⟨b, rfl, _, hw⟩ := DataW.trod_int hu hx
      exact ⟨[.int k b], [], .plain (fun ρ => VRs_cons.2 ⟨by simp [VR], VRs_nil⟩) (fun s => by simp only [RdT, hu]; exact ⟨b, rfl, hw⟩) rfl rfl⟩
    · rename_i hu
      obtain ⟨b, rfl, _⟩ := DataW.trod_string hu hx
      exact ⟨[.str b], [], .plain (fun ρ => VRs_cons.2 ⟨by simp [VR], VRs_nil⟩) (fun s => by simp only [RdT, hu]; exact ⟨b, rfl⟩) rfl rfl⟩
    · rename_i fs hu
      obtain ⟨xs, n, _, _, hl, hxl, hf⟩ := DataW.trod_struct hu hx
      obtain ⟨vs, bl, ho⟩ := deep_fields (fun t hk => deep_open hc d t hk) hl fs.toList 0 h (n := n) (fun f hmem => by
        obtain ⟨i, hi⟩ := List.getElem?_of_mem hmem
        have hi' : fs[i]? = some f := by simpa using hi
        have hlt : i < xs.length := by
          have := (Array.getElem?_eq_some_iff.1 hi').1
          omega
        exact ⟨xs[i], by rw [hf i f hi']; simp [hlt]⟩) start
      rw [List.drop_zero] at ho
      exact ⟨vs, bl, ho.imp fun s q => by simp only [RdT, hu]; exact q⟩
    · rename_i e hu
      simp only [Bool.and_eq_true, decide_eq_true_eq] at h
      obtain ⟨L, hL1, hL2⟩ := dummyD hc
      rcases slice_geo hu h.1 hx with rfl | ⟨a, rfl⟩ | ⟨b, off, len, cap, cells, el, fr, n, rfl, h2, h3, h4, h5, h6, h7⟩
      · exact ⟨[.nils], [], .plain (fun ρ => VRs_cons.2 ⟨by simp [VR], VRs_nil⟩) (fun s => by simp only [RdT, hu]; exact .inl (by trivial)) rfl rfl⟩
      · refine ⟨[.sl start 0 0 (some 0) (P.cellsOf e)], [(.row [] false, L)], ?_, ?_, fun ρ hρ => ⟨VRs_cons.2 ⟨?_, VRs_nil⟩, ?_⟩, fun s hs => ?_, rfl, rfl⟩
        · intro p hp
          simp at hp
          subst hp
          exact hL1
        · intro p hp
          simp at hp
          subst hp
          rfl
        · simp only [VR]
          exact ⟨L, a, 0, hρ 0 _ rfl, rfl, Nat.le_refl _, fun k hk => by injection hk, .inl rfl⟩
        · intro p hp
          simp at hp
          subst hp
          exact hL2 ρ
        · simp only [RdT, hu]
          exact .inr ⟨start, 0, 0, [], rfl, Nat.le_refl _, Nat.zero_le _, rfl, hs 0 _ rfl, fun r hr => by simp at hr⟩
      · have hlt := (Array.getElem?_eq_some_iff.1 h5).1
        obtain ⟨rows, bl, hr1, ho⟩ := deep_rows (deep_open hc d e h.2) cells.toList off cap (by simpa using h6) h7 (start + 1)
        have hfl : rows.flatten.length = cap * P.cellsOf e := by
          rw [ho.len, List.length_take, List.length_drop]
          simp
          omega
        have hup : ∀ {ρ : Ren}, (∀ i p, ((AB.row rows.flatten false, (⟨b, off, cells.size⟩ : Loc)) :: bl)[i]? = some p → ρ (start + i) = some p.2) → ∀ i p, bl[i]? = some p → ρ (start + 1 + i) = some p.2 := fun hρ i p hp => by
          have := hρ (i + 1) p (by simpa using hp)
          rwa [show start + (i + 1) = start + 1 + i by omega] at this
        refine ⟨[.sl start 0 len (some cap) (P.cellsOf e)], (.row rows.flatten false, ⟨b, off, cells.size⟩) :: bl, ?_, ?_, fun ρ hρ => ?_, fun s hs => ?_, rfl, rfl⟩
        · intro p hp
          rcases List.mem_cons.1 hp with rfl | hp
          · exact hlt
          · exact ho.lt p hp
        · intro p hp
          rcases List.mem_cons.1 hp with rfl | hp
          · rfl
          · exact ho.own p hp
        · obtain ⟨r1, r2⟩ := ho.vr ρ (hup hρ)
          refine ⟨VRs_cons.2 ⟨?_, VRs_nil⟩, fun p hp => ?_⟩
          · simp only [VR]
            exact ⟨⟨b, off, cells.size⟩, ⟨b, off, none⟩, cap, hρ 0 _ rfl, rfl, h3, fun k hk => by injection hk, .inr ⟨by simp, by simpa using h6⟩⟩
          · rcases List.mem_cons.1 hp with rfl | hp
            · simp only [BlkOk]
              refine ⟨cells, el, fr, h5, rfl, by rw [hfl]; exact h6, fun i v hi => ?_, by simp, ho.one⟩
              have hi' := (List.getElem?_eq_some_iff.1 hi).1
              obtain ⟨c, hc1, hc2⟩ := r1.cell hi
              refine ⟨c, ?_, hc2⟩
              rw [List.getElem?_take_of_lt (by omega), List.getElem?_drop] at hc1
              simpa using hc1
            · exact r2 p hp
        · simp only [RdT, hu]
          refine .inr ⟨start, len, cap, rows, rfl, h3, h4, hr1, hs 0 _ rfl, ?_⟩
          refine ho.rd s fun i p hp => ?_
          have := hs (i + 1) p (by simpa using hp)
          rwa [show start + (i + 1) = start + 1 + i by omega] at this
    · cases h

/-! ### All arguments of a call -/
def argAV (P : Program) (t : TypeId) (vs : List AV) : AV := match P.underlying t with
  | some (.struct _) => .agg vs
  | _ => vs.headD .und
def RdA (P : Program) (s : St) (d : Nat) (t : TypeId) (v : AV) : Prop := ∃ vs, RdT P s d t vs ∧ v = argAV P t vs
def RdAs (P : Program) (s : St) (d : Nat) : List TypeId → List AV → Prop
  | [], xs => xs = []
  | t :: ts, xs => ∃ v r, xs = v :: r ∧ RdA P s d t v ∧ RdAs P s d ts r
structure OpnA (W : World) (Q : St → List AV → Prop) (start : Nat) (cs : List Value) (vs : List AV) (bl : List (AB × Loc)) : Prop where
  lt : ∀ p ∈ bl, p.2.b < W.heap.size
  own : ∀ p ∈ bl, p.1.owned = false
  vr : ∀ ρ : Ren, (∀ i p, bl[i]? = some p → ρ (start + i) = some p.2) → VRs ρ vs cs ∧ ∀ p ∈ bl, BlkOk ρ p.2 W p.1
  rd : ∀ s : St, (∀ i p, bl[i]? = some p → s.get (start + i) = some p.1) → Q s vs
theorem OpnA.cons {Q1 Q2 : St → List AV → Prop} {start : Nat} {c : Value} {cs : List Value} {v : AV} {vs : List AV} {b1 b2 : List (AB × Loc)} (h : OpnA W Q1 start [c] [v] b1) (k : OpnA W Q2 (start + b1.length) cs vs b2) :
    OpnA W (fun s _ => Q1 s [v] ∧ Q2 s vs) start (c :: cs) (v :: vs) (b1 ++ b2) := by
  have e1 : ∀ {i : Nat} {p}, b1[i]? = some p → (b1 ++ b2)[i]? = some p := fun {i p} hp => by
    rw [List.getElem?_append_left (List.getElem?_eq_some_iff.1 hp).1]; exact hp
  have e2 : ∀ {i : Nat} {p}, b2[i]? = some p → (b1 ++ b2)[b1.length + i]? = some p := fun {i p} hp => by
    rw [List.getElem?_append_right (by omega), Nat.add_sub_cancel_left]; exact hp
  refine ⟨fun p hp => ?_, fun p hp => ?_, fun ρ hρ => ?_, fun s hs => ⟨h.rd s fun i p hp => hs i p (e1 hp), k.rd s fun i p hp => ?_⟩⟩
  · rcases List.mem_append.1 hp with q | q
    · exact h.lt p q
    · exact k.lt p q
  · rcases List.mem_append.1 hp with q | q
    · exact h.own p q
    · exact k.own p q
  · obtain ⟨r1, r2⟩ := h.vr ρ fun i p hp => hρ i p (e1 hp)
    obtain ⟨r3, r4⟩ := k.vr ρ fun i p hp => by have := hρ _ p (e2 hp); rwa [← Nat.add_assoc] at this
    refine ⟨r1.append r3, fun p hp => ?_⟩
    rcases List.mem_append.1 hp with q | q
    · exact r2 p q
    · exact r4 p q
  · have := hs _ p (e2 hp)
    rwa [← Nat.add_assoc] at this
theorem arg_deep (hc : HasCellsD W) {d : Nat} {t : TypeId} (hok : okT P (d + 1) t = true) {v : Value} {x : DataW H} {p : List MemPlace} (h : DataW.Trod enc P W base (fun _ => true) held t v x p) {b0 : Nat} (hval : Value.okWide P W .any b0 t v) (start : Nat) :
    ∃ a bl, OpnA W (fun s _ => RdA P s (d + 1) t a) start [v] [a] bl := by
  obtain ⟨fuel, h⟩ := h
  obtain ⟨vs, bl, ho⟩ := deep_open hc (d + 1) t hok fuel _ _ h start
  have hone : ∀ (hv : v.cells.toList = [v]) (ha : argAV P t vs = vs.headD .und), ∃ a bl, OpnA W (fun s _ => RdA P s (d + 1) t a) start [v] [a] bl := by
    intro hv ha
    have hl := ho.len
    rw [hv] at hl
    match vs, hl with
    | [a], _ =>
      refine ⟨a, bl, ho.lt, ho.own, fun ρ hρ => ?_, fun s hs => ⟨[a], ho.rd s hs, by rw [ha]; rfl⟩⟩
      have := ho.vr ρ hρ
      rw [hv] at this
      exact this
  simp only [okT] at hok
  split at hok
  · rename_i hu
    obtain ⟨b, rfl⟩ := okWide_bool hu hval
    exact hone rfl (by simp [argAV, hu])
  · rename_i k hu
    obtain ⟨b, rfl⟩ := okWide_int hu hval
    exact hone rfl (by simp [argAV, hu])
  · rename_i hu
    obtain ⟨b, rfl⟩ := okWide_string hu hval
    exact hone rfl (by simp [argAV, hu])
  · rename_i fs hu
    obtain ⟨cs, rfl, _⟩ := okWide_struct hu hval
    refine ⟨.agg vs, bl, ho.lt, ho.own, fun ρ hρ => ?_, fun s hs => ⟨vs, ho.rd s hs, by simp [argAV, hu]⟩⟩
    obtain ⟨r1, r2⟩ := ho.vr ρ hρ
    refine ⟨VRs_cons.2 ⟨?_, VRs_nil⟩, r2⟩
    simp only [VR]
    exact ⟨cs.toList, by simp, r1⟩
  · rename_i e hu
    obtain ⟨a, len, cap, rfl⟩ := okWide_slice hu hval
    exact hone rfl (by simp [argAV, hu])
  · cases hok
theorem args_deep (hc : HasCellsD W) {d : Nat} : ∀ {ts : List TypeId} {vs : List Value} {ds : List (DataW H)} {ps : List MemPlace}, (∀ t ∈ ts, okT P (d + 1) t = true) → DataW.TrodAll enc P W base (fun _ => true) held ts vs ds ps →
    (∀ (j : Nat) t v, ts[j]? = some t → vs[j]? = some v → ∃ b0, Value.okWide P W .any b0 t v) → ∀ start, ∃ xs bl, OpnA W (fun s _ => RdAs P s (d + 1) ts xs) start vs xs bl
  | [], vs, ds, ps, _, h, _, start => by
    obtain ⟨rfl, rfl, rfl⟩ := trodAll_nil h
    exact ⟨[], [], by simp, by simp, fun ρ _ => ⟨VRs_nil, by simp⟩, fun s _ => rfl⟩
  | t :: ts, vs, ds, ps, hok, h, hval, start => by
    obtain ⟨v, vs1, x, ds1, a, b, rfl, rfl, rfl, h1, h2⟩ := trodAll_cons h
    obtain ⟨b0, hv⟩ := hval 0 t v rfl rfl
    obtain ⟨av, bl1, o1⟩ := arg_deep hc (hok t (by simp)) h1 hv start
    obtain ⟨xs, bl2, o2⟩ := args_deep hc (fun t' ht => hok t' (by simp [ht])) h2 (fun j t' v' e1 e2 => hval (j + 1) t' v' (by simpa using e1) (by simpa using e2)) (start + bl1.length)
    have := o1.cons o2
    exact ⟨av :: xs, bl1 ++ bl2, this.lt, this.own, this.vr, fun s hs => ⟨av, xs, rfl, this.rd s hs⟩⟩
open Classical in
noncomputable def lawC (P : Program) (d : Nat) (ts : List TypeId) : List AV → St → Option (AV × St) := fun xs s => if RdAs P s d ts xs then some (.bool true, { heap := s.heap, next := s.next, low := min s.low s.next }) else none
theorem deep_call {d : Nat} {ts : List TypeId} {args : List Value} {xs : List AV} {bl : List (AB × Loc)} (ho : OpnA W (fun s _ => RdAs P s d ts xs) 0 args xs bl) {f : Nat} (hs : SoundAt P f (lawC P d ts)) : Calls P f args.toArray W fun e W' => e = .returned (.bool true) ∧ Clean W W' := by
  obtain ⟨s0, hs0⟩ : ∃ s0 : St, s0 = ⟨(bl.map (·.1)).reverse, bl.length, 0⟩ := ⟨_, rfl⟩
  have hnx : s0.next = bl.length := by rw [hs0]
  have hget : ∀ i, s0.get i = (bl[i]?).map (·.1) := by
    intro i
    subst hs0
    unfold St.get
    simp only
    split
    · rename_i h
      rw [List.getElem?_reverse (by simp; omega)]
      simp only [List.length_map, List.getElem?_map]
      rw [show bl.length - 1 - (bl.length - 1 - i) = i by omega]
    · rename_i h
      rw [List.getElem?_eq_none (by omega)]
      rfl
  have hown : ∀ i b, s0.get i = some b → b.owned = false := by
    intro i b h
    rw [hget] at h
    obtain ⟨p, hp, rfl⟩ := Option.map_eq_some_iff.1 h
    exact ho.own p (List.mem_of_getElem? hp)
  obtain ⟨ρ, hρ⟩ : ∃ ρ : Ren, ρ = fun i => (bl[i]?).map (·.2) := ⟨_, rfl⟩
  have hρ1 : ∀ i p, bl[i]? = some p → ρ (0 + i) = some p.2 := fun i p hp => by rw [hρ, Nat.zero_add]; simp [hp]
  obtain ⟨hv, hb⟩ := ho.vr ρ hρ1
  have hR : R s0 ρ W := by
    refine ⟨fun i L h => ?_, fun i b L h1 h2 => ?_, fun i j L M bi bj _ _ _ e3 _ e5 _ => ?_⟩
    · rw [hρ] at h
      obtain ⟨p, hp, rfl⟩ := Option.map_eq_some_iff.1 h
      exact ho.lt p (List.mem_of_getElem? hp)
    · rw [hget] at h1
      rw [hρ] at h2
      obtain ⟨p, hp, rfl⟩ := Option.map_eq_some_iff.1 h1
      simp [hp] at h2
      subst h2
      exact hb p (List.mem_of_getElem? hp)
    · rw [hown i bi e3] at e5; cases e5
  have hrd := ho.rd s0 fun i p hp => by rw [Nat.zero_add, hget, hp]; rfl
  obtain ⟨_, _, h⟩ := hs xs s0 _ _ (by unfold lawC; rw [if_pos hrd])
  have := h ρ W args (fun i hi => by rw [hρ]; simp; omega) hR hv
  refine this.mono fun e W' hp => ?_
  obtain ⟨ρ', v, rfl, hv', hst, _⟩ := hp
  simp only [VR] at hv'
  subst hv'
  exact ⟨rfl, hst.size, hst.os, hst.tape, hst.output, hst.drawn, fun b hb => hst.frame b hb fun id L blk _ _ h1 h2 => by rw [hown id blk h1] at h2; cases h2⟩
theorem trodAll_len : ∀ {ts : List TypeId} {vs : List Value} {ds : List (DataW H)} {ps : List MemPlace}, DataW.TrodAll enc P W base (fun _ => true) held ts vs ds ps → ds.length = ts.length
  | [], vs, ds, ps, h => by
    obtain ⟨rfl, rfl, rfl⟩ := trodAll_nil h
    rfl
  | t :: ts, vs, ds, ps, h => by
    obtain ⟨v, vs1, x, ds1, a, b, rfl, rfl, rfl, h1, h2⟩ := trodAll_cons h
    simp [trodAll_len h2]
end Go.AM
end
/-
  What the arguments of the statements show: numbers, nodes, states, lists of states. Own work of this project.
-/
section
set_option maxRecDepth 100000
namespace Go.AM
open Go Go.Proofs

variable {P : Program} {s : St}
theorem rd_slice {d : Nat} {t e : TypeId} {vs : List AV} (hu : P.underlying t = some (.slice e)) (h : RdT P s (d + 1) t vs) : vs = [.nils] ∨ ∃ (id n cap : Nat) (rows : List (List AV)), vs = [.sl id 0 n (some cap) (P.cellsOf e)] ∧ n ≤ cap ∧ cap ≤ maxLen ∧ rows.length = cap ∧ s.get id = some (.row rows.flatten false) ∧ ∀ r ∈ rows, RdT P s d e r ∧ r.length = P.cellsOf e := by
  simp only [RdT, hu] at h
  exact h
theorem lawC_some {d : Nat} {ts : List TypeId} {xs : List AV} {r : AV} {s' : St} (h : lawC P d ts xs s = some (r, s')) : RdAs P s d ts xs ∧ r = .bool true ∧ s' = s.lowed := by
  unfold lawC at h
  split at h
  · rename_i hr
    injection h with h
    obtain ⟨rfl, rfl⟩ := Prod.mk.inj h
    exact ⟨hr, rfl, rfl⟩
  · cases h
theorem rdas_1 {d : Nat} {t : TypeId} {xs : List AV} (h : RdAs P s d [t] xs) : ∃ v, xs = [v] ∧ RdA P s d t v := by
  obtain ⟨v, r, rfl, h1, h2⟩ := h
  simp only [RdAs] at h2
  subst h2
  exact ⟨v, rfl, h1⟩
end Go.AM
end
/-
  Arguments that are structs, field by field. Own work of this project.
-/
section
namespace Go.AM
open Go

variable {s t u : St}
section
variable {P : Program}
end
end Go.AM
end
/-
  OmapPlays. Own work of this project; in part printed by a program of it.
-/
section
set_option maxRecDepth 100000
set_option maxHeartbeats 8000000
namespace Go.AM
open Go Go.Proofs

variable {s t u : St}

theorem rd_strK {P : Program} {d : Nat} {t : TypeId} {vs : List AV} (hu : P.underlying t = some .string) (h : RdT P s (d + 1) t vs) : ∃ n, vs = [.str n] := by
  simp only [RdT, hu] at h
  exact h
theorem MpR.nb {id : Nat} {q : Option Nat} {d : Bool} {L : List PrS} (h : MpR t id q d L) {b : Nat} {x : Bool} {w : AV} {own : Bool} (hg : t.get b = some (.row [.bool x, w] own)) : b ∉ id :: q.toList := by
  have h1 : b ≠ id := by
    rintro rfl
    have := h.box
    rw [hg] at this
    injection this with this
    injection this with this _
    injection this with this _
    cases d <;> cases this
  cases q with
  | none => simp [h1]
  | some j =>
    have h2 : b ≠ j := by
      rintro rfl
      have := (h.dat b rfl).2
      rw [hg] at this
      injection this with this
      injection this with this _
      cases L with
      | nil => cases this
      | cons y r =>
        rw [pr_cells2] at this
        injection this with this _
        cases this
    simp [h1, h2]
theorem MpR.n3 {id : Nat} {q : Option Nat} {d : Bool} {L : List PrS} (h : MpR t id q d L) {b : Nat} {cs : List AV} {own : Bool} (hg : t.get b = some (.row cs own)) (hc : cs.length = 3 ∨ cs.length = 1) : b ∉ id :: q.toList := by
  have h1 : b ≠ id := by
    rintro rfl
    have := h.box
    rw [hg] at this
    injection this with this
    injection this with this _
    rw [this] at hc
    simp at hc
  cases q with
  | none => simp [h1]
  | some j =>
    have h2 : b ≠ j := by
      rintro rfl
      have := (h.dat b rfl).2
      rw [hg] at this
      injection this with this
      injection this with this _
      have hl := congrArg List.length this
      rw [cells_len, prC_sz] at hl
      omega
    simp [h1, h2]
/-- A map and the reference's: the same pairs. -/
structure PlM (s t : St) (rb id : Nat) (q : Option Nat) (d : Bool) (L : List PrS) (rv : AV) : Prop where
  mp : MpR t id q d L
  hid : s.next ≤ id
  hq : ∀ j, q = some j → s.next ≤ j
  rb : t.get rb = some (.row [.bool d, rv] true)
  own : Own prC s t rv L
  sep : ∀ j, q = some j → ∀ o n c z, rv ≠ .sl j o n c z
  srt : SrtD d L
variable {rb id : Nat} {q : Option Nat} {d : Bool} {L : List PrS} {rv : AV}
theorem PlM.keep (h : PlM s t rb id q d L rv) (hK : Keep t u) : PlM s u rb id q d L rv := ⟨h.mp.keep hK, h.hid, h.hq, hK.blk h.rb, h.own.mono fun _ _ => hK.blk, h.sep, h.srt⟩
/-- Behind a change of the map. -/
theorem PlM.chg (h : PlM s t rb id q d L rv) (hC : Chg (id :: q.toList) t u) {q' : Option Nat} (hq' : ∀ j, q' = some j → q = some j ∨ t.next ≤ j) :
    u.get rb = some (.row [.bool d, rv] true) ∧ Own prC s u rv L ∧ (∀ j, q' = some j → ∀ o n c z, rv ≠ .sl j o n c z) ∧ (∀ j, q' = some j → s.next ≤ j ∧ (j < t.next ∨ t.next ≤ j)) := by
  have hO : Own prC s u rv L := by
    have h0 := h.own
    rcases h0 with e | ⟨j, e, h1, h2, h3⟩
    · exact .inl e
    · refine .inr ⟨j, e, h1, h2, hC.blk h3 fun hm => ?_⟩
      rcases List.mem_cons.1 hm with rfl | hm
      · have := h.mp.box
        rw [h3] at this
        injection this with this
        injection this with this _
        cases L with
        | nil => exact h1 rfl
        | cons y r =>
          rw [pr_cells2] at this
          injection this with this _
          cases d <;> cases this
      · cases hq : q with
        | none => rw [hq] at hm; simp at hm
        | some j0 =>
          rw [hq] at hm
          simp at hm
          subst hm
          exact h.sep j hq 0 _ none _ e
  refine ⟨hC.blk h.rb (h.mp.nb h.rb), hO, fun j hj o n c z e => ?_, fun j hj => ?_⟩
  · rcases hq' j hj with e' | e'
    · exact h.sep j e' o n c z e
    · rcases h.own with ⟨e2, _⟩ | ⟨j2, e2, _, _, h3⟩
      · rw [e2] at e; cases e
      · rw [e2] at e
        injection e with e
        have := St.get_lt h3
        omega
  · rcases hq' j hj with e' | e'
    · exact ⟨h.hq j e', by omega⟩
    · have h1 := h.hid
      have := St.get_lt h.mp.box
      exact ⟨by omega, by omega⟩
/-- The reference has made a new list. -/
theorem PlM.next {t0 t1 u : St} {rv' : AV} {L' : List PrS} {q' : Option Nat} (hm : MpR t1 id q' d L') (hid : s.next ≤ id) (hq : ∀ j, q' = some j → s.next ≤ j) (hb : t1.get rb = some (.row [.bool d, rv] true)) (hs : s.next ≤ t1.next) (hO : Own prC t1 t0 rv' L') (hK : Keep t1 t0) (hsr : SrtD d L') (hu : u = t0.put rb (.row [.bool d, rv'] true)) (hrb : s.next ≤ rb) (hKs : Keep s t0) :
    PlM s u rb id q' d L' rv' ∧ Keep s u := by
  have hb0 := hK.blk hb
  have hlt := St.get_lt hb0
  have hrbl := St.get_lt hb
  have hnb := hm.nb hb
  have hne : ∀ j, q' = some j → j ≠ rb := fun j e => by
    rintro rfl
    apply hnb
    rw [e]
    simp
  have hni : id ≠ rb := fun e => hnb (by rw [e]; simp)
  subst hu
  refine ⟨⟨⟨?_, hm.nol, fun j e => ⟨(hm.dat j e).1, ?_⟩, hm.hn⟩, hid, hq, St.get_put_same hb0, ?_, fun j e o n c z e2 => ?_, hsr⟩, hKs.put _ hrb hlt⟩
  · rw [St.get_put_ne _ _ hlt hni]
    exact hK.blk hm.box
  · rw [St.get_put_ne _ _ hlt (hne j e)]
    exact hK.blk (hm.dat j e).2
  · rcases hO with e | ⟨j, e, h1, h2, h3⟩
    · exact .inl e
    · refine .inr ⟨j, e, h1, by omega, ?_⟩
      rw [St.get_put_ne _ _ hlt (by omega)]
      exact h3
  · rcases hO with ⟨e3, _⟩ | ⟨j2, e3, _, h2, _⟩
    · rw [e3] at e2; cases e2
    · rw [e3] at e2
      injection e2 with e2
      have := St.get_lt (hm.dat j e).2
      omega
end Go.AM
end
/-
  OmapHolds. Own work of this project; in part printed by a program of it.
-/
section
set_option maxRecDepth 100000
set_option maxHeartbeats 8000000
namespace Go.AM
open Go Go.Proofs

variable {s t u : St}

variable {rb id : Nat} {q : Option Nat} {d : Bool} {L : List PrS} {rv : AV}
theorem own_chg (h : MpR t id q d L) {A : List PrS} (hO : Own prC s t rv A) (hsep : ∀ j, q = some j → ∀ o n c z, rv ≠ .sl j o n c z) (hC : Chg (id :: q.toList) t u) {q' : Option Nat} (hq' : ∀ j, q' = some j → q = some j ∨ t.next ≤ j) :
    Own prC s u rv A ∧ ∀ j, q' = some j → ∀ o n c z, rv ≠ .sl j o n c z := by
  constructor
  · rcases hO with e | ⟨j, e, h1, h2, h3⟩
    · exact .inl e
    · refine .inr ⟨j, e, h1, h2, hC.blk h3 fun hm => ?_⟩
      rcases List.mem_cons.1 hm with rfl | hm
      · have := h.box
        rw [h3] at this
        injection this with this
        injection this with this _
        cases A with
        | nil => exact h1 rfl
        | cons y r =>
          rw [pr_cells2] at this
          injection this with this _
          cases d <;> cases this
      · cases hq : q with
        | none => rw [hq] at hm; simp at hm
        | some j0 =>
          rw [hq] at hm
          simp at hm
          subst hm
          exact hsep j hq 0 _ none _ e
  · intro j hj o n c z e
    rcases hq' j hj with e' | e'
    · exact hsep j e' o n c z e
    · rcases hO with ⟨e2, _⟩ | ⟨j2, e2, _, _, h3⟩
      · rw [e2] at e; cases e
      · rw [e2] at e
        injection e with e
        have := St.get_lt h3
        omega
/-! ### Plain laws -/
theorem rk_self (h : SrtD d L) {i : Nat} {y : PrS} (hy : L[i]? = some y) : rkD d L y.1 = i := rk_eq (Nat.le_of_lt (getlt hy)) (fun j z hj hz => h.lt hz hy hj) fun z hz => by
  rw [hy] at hz; injection hz with hz; rw [← hz]; omega
theorem mem_put (h : SrtD d L) (k : Int) (v : ByteArray) (y : PrS) : y ∈ putD d L k v ↔ y = (k, v) ∨ (y ∈ L ∧ y.1 ≠ k) := by
  rw [← putR_put h]
  unfold putR
  have e : y ∈ dropK k L ↔ y ∈ L ∧ y.1 ≠ k := by
    unfold dropK
    rw [List.mem_filter]
    simp
  rw [← e]
  conv => rhs; rhs; rw [← List.take_append_drop (rkD d (dropK k L) k) (dropK k L)]
  simp only [List.mem_append, List.mem_cons]
  constructor
  · rintro (h | h | h)
    · exact .inr (.inl h)
    · exact .inl h
    · exact .inr (.inr h)
  · rintro (h | h | h)
    · exact .inr (.inl h)
    · exact .inl h
    · exact .inr (.inr h)
theorem srt_ext : ∀ {A B : List PrS}, SrtD d A → SrtD d B → (∀ y, y ∈ A ↔ y ∈ B) → A = B
  | [], [], _, _, _ => rfl
  | [], b :: B, _, _, h => absurd ((h b).2 (by simp)) (by simp)
  | a :: A, [], _, _, h => absurd ((h a).1 (by simp)) (by simp)
  | a :: A, b :: B, hA, hB, h => by
    unfold SrtD at hA hB
    rw [List.pairwise_cons] at hA hB
    have e : a = b := by
      rcases List.mem_cons.1 ((h a).1 (by simp)) with e | e
      · exact e
      · rcases List.mem_cons.1 ((h b).2 (by simp)) with e2 | e2
        · exact e2.symm
        · have h1 := hB.1 a e
          have h2 := hA.1 b e2
          omega
    subst e
    rw [srt_ext hA.2 hB.2 fun y => ?_]
    constructor
    · intro hy
      rcases List.mem_cons.1 ((h y).1 (List.mem_cons_of_mem _ hy)) with e | e
      · have := hA.1 y hy
        rw [e] at this
        omega
      · exact e
    · intro hy
      rcases List.mem_cons.1 ((h y).2 (List.mem_cons_of_mem _ hy)) with e | e
      · have := hB.1 y hy
        rw [e] at this
        omega
      · exact e
/-- What has been set of a list, from one place on around. -/
def GotR (d : Bool) (L : List PrS) (tn i : Nat) (N : List PrS) : Prop := SrtD d N ∧ (∀ y ∈ N, y ∈ L) ∧ ∀ j, j < i → ∀ y, L[(j + tn) % L.length]? = some y → y ∈ N
theorem GotR.step {tn i : Nat} {N : List PrS} (hL : SrtD d L) (h : GotR d L tn i N) {y : PrS} (hy : L[(i + tn) % L.length]? = some y) : GotR d L tn (i + 1) (putD d N y.1 y.2) := by
  obtain ⟨h1, h2, h3⟩ := h
  have uniq : ∀ a ∈ L, a.1 = y.1 → a = y := fun a ha e => by
    obtain ⟨j, hj⟩ := List.mem_iff_getElem?.1 ha
    have e1 := rk_self hL hj
    have e2 := rk_self hL hy
    rw [e, e2] at e1
    rw [← e1, hy] at hj
    injection hj with hj
    exact hj.symm
  refine ⟨put_srt h1 _ _, fun a ha => ?_, fun j hj a ha => ?_⟩
  · rcases (mem_put h1 _ _ a).1 ha with rfl | ⟨h, _⟩
    · exact List.mem_of_getElem? hy
    · exact h2 a h
  · rw [mem_put h1]
    by_cases e : j = i
    · subst e
      rw [hy] at ha
      injection ha with ha
      exact .inl ha.symm
    · have hm := h3 j (by omega) a ha
      by_cases e2 : a.1 = y.1
      · exact .inl (uniq a (h2 a hm) e2)
      · exact .inr ⟨hm, e2⟩
theorem GotR.all {tn : Nat} {N : List PrS} (hL : SrtD d L) (h : GotR d L tn L.length N) : N = L := by
  obtain ⟨h1, h2, h3⟩ := h
  refine srt_ext h1 hL fun y => ⟨h2 y, fun hy => ?_⟩
  obtain ⟨k, hk⟩ := List.mem_iff_getElem?.1 hy
  have hkl := getlt hk
  have hpos : 0 < L.length := by omega
  have hm := Nat.mod_lt tn hpos
  by_cases c : tn % L.length ≤ k
  · refine h3 (k - tn % L.length) (by omega) y ?_
    have e : (k - tn % L.length + tn) % L.length = k := by
      rw [Nat.add_mod, Nat.mod_eq_of_lt (show k - tn % L.length < L.length by omega), show k - tn % L.length + tn % L.length = k by omega, Nat.mod_eq_of_lt hkl]
    rw [e]; exact hk
  · refine h3 (k + L.length - tn % L.length) (by omega) y ?_
    have e : (k + L.length - tn % L.length + tn) % L.length = k := by
      rw [Nat.add_mod, Nat.mod_eq_of_lt (show k + L.length - tn % L.length < L.length by omega), show k + L.length - tn % L.length + tn % L.length = k + L.length by omega, Nat.add_mod_right, Nat.mod_eq_of_lt hkl]
    rw [e]; exact hk
end Go.AM
end
/-
  OmapIterates. Own work of this project; in part printed by a program of it.
-/
section
set_option maxRecDepth 100000
set_option maxHeartbeats 8000000
namespace Go.AM
open Go Go.Proofs

variable {s t u : St}

theorem appV_oneC {β : Type} {C : Cod β} {M : List Nat} {s t : St} {v : AV} {l : List β} (hK : Chg M s t) (hO : Own C s t v l) (x : β) (bytes : Nat) (hb : (l.length + 1) * bytes ≤ roomBytes) :
    ∃ v' t', appV (t.push (.row (C.enc x) true)) C.sz bytes v (.sl t.next 0 1 (some 1) C.sz) = some (v', t') ∧ Chg M s t' ∧ Own C s t' v' (l ++ [x]) ∧ ∃ n, v' = .sl (t.next + 1) 0 n none C.sz := by
  have hr : AM.read C (t.push (.row (C.enc x) true)) (.sl t.next 0 1 (some 1) C.sz) = some [x] := by
    refine read_of rfl (St.get_push_new _ _) (by simp [C.len]) ?_
    rw [cells_one, List.drop_zero, Nat.one_mul, ← C.len x]
    simp
  have hK' := hK.push (.row (C.enc x) true)
  rcases hO.push (.row (C.enc x) true) with ⟨rfl, rfl⟩ | ⟨j, rfl, h0, h1, h⟩
  · refine ⟨.sl (t.push (.row (C.enc x) true)).next 0 1 none C.sz, (t.push (.row (C.enc x) true)).push (.row (C.enc x) true), ?_, hK'.push _, .inr ⟨(t.push (.row (C.enc x) true)).next, by simp, by simp, hK'.next, ?_⟩, 1, rfl⟩
    · simp only [appV, read_shown hr, read_len hr, aappend]
      rw [if_neg (by simp), if_pos (by simpa using hb), cells_one]
      rfl
    · rw [List.nil_append, cells_one]
      exact St.get_push_new _ _
  · refine ⟨.sl (t.push (.row (C.enc x) true)).next 0 (l.length + 1) none C.sz, ((t.push (.row (C.enc x) true)).put j .dead).push (.row (C.cells (l ++ [x])) true), ?_, (hK'.put .dead (.inr h1) (St.get_lt h)).push _, .inr ⟨(t.push (.row (C.enc x) true)).next, by simp, by simp, hK'.next, by simpa using St.get_push_new ((t.push (.row (C.enc x) true)).put j .dead) _⟩, l.length + 1, rfl⟩
    simp only [appV, read_shown hr, read_len hr, aappend, if_true, h]
    rw [if_neg (by simp), if_pos ⟨by simp [cells_len], by simpa using hb⟩]
    have e : (C.cells l).take (l.length * C.sz) = C.cells l := by rw [← cells_len]; simp
    rw [List.drop_zero, e, cells_append]
    rfl
theorem box1C {β : Type} {C : Cod β} {M : List Nat} {u t : St} {lv : AV} {l : List β} {ib : Nat} (hC : Chg M u t) (hm : ib ∈ M) (hib : ib < u.next) (hb : t.get ib = some (.row [lv] true)) (hO : Own C u t lv l) (hsz : 1 < C.sz) (y : β) (bytes : Nat) (hr : (l.length + 1) * bytes ≤ roomBytes) :
    ∃ lv' t', appV (t.push (.row (C.enc y) true)) C.sz bytes lv (.sl t.next 0 1 (some 1) C.sz) = some (lv', t') ∧ AM.sto t' 1 (.ptr ib 0) lv' = some (.und, t'.put ib (.row [lv'] true)) ∧ ltN ib t' ∧ Chg M u (t'.put ib (.row [lv'] true)) ∧ (t'.put ib (.row [lv'] true)).get ib = some (.row [lv'] true) ∧ Own C u (t'.put ib (.row [lv'] true)) lv' (l ++ [y]) ∧
      (∀ j, j ≤ t.next → ∀ o n c z, lv' ≠ .sl j o n c z) ∧ ∀ id b, t.get id = some b → id ≠ ib → (∀ o n c z, lv ≠ .sl id o n c z) → (t'.put ib (.row [lv'] true)).get id = some b := by
  obtain ⟨lv', t', hap, hC', hO', nn, hnew⟩ := appV_oneC hC hO y bytes hr
  have fr : ∀ id b, t.get id = some b → (∀ o n c z, lv ≠ .sl id o n c z) → t'.get id = some b := fun id b hg hn => appV_frame hap hn (get_push_some _ hg)
  have hb' := fr ib _ hb (own_ne hO hb hsz)
  have hlt := St.get_lt hb'
  have hO2 : Own C u (t'.put ib (.row [lv'] true)) lv' (l ++ [y]) := by
    rcases hO' with q | ⟨j, q, h0, h1, h2⟩
    · exact .inl q
    · refine .inr ⟨j, q, h0, h1, ?_⟩
      rw [St.get_put_ne _ _ hlt (by omega)]
      exact h2
  refine ⟨lv', t', hap, row1_sto hb' (own_one1 hO'), hlt, hC'.put _ (.inl hm) hlt, St.get_put_same hb', hO2, fun j hj o n c z e => ?_, fun id b hg hi hn => by rw [St.get_put_ne _ _ hlt hi]; exact fr id b hg hn⟩
  rw [hnew] at e
  injection e with e
  omega
variable {rb id : Nat} {q : Option Nat} {d : Bool} {L : List PrS} {rv : AV}
theorem own_nmp (h : MpR t id q d L) {A : List PrS} (hO : Own prC s t rv A) : ∀ o n c z, rv ≠ .sl id o n c z := by
  rintro o n c z rfl
  rcases hO with ⟨e, _⟩ | ⟨j, e, h1, h2, h3⟩
  · cases e
  · injection e with e
    subst e
    have := h.box
    rw [h3] at this
    injection this with this
    injection this with this _
    cases A with
    | nil => exact h1 rfl
    | cons y r =>
      rw [pr_cells2] at this
      injection this with this _
      cases d <;> cases this
theorem MpR.frame (h : MpR t id q d L) {ib : Nat} {w : AV} {own : Bool} (hg : t.get ib = some (.row [w] own)) {A : List PrS} (hO : Own prC s t rv A) (hsep : ∀ j, q = some j → ∀ o n c z, rv ≠ .sl j o n c z) (hf : ∀ x b, t.get x = some b → x ≠ ib → (∀ o n c z, rv ≠ .sl x o n c z) → u.get x = some b) : MpR u id q d L := by
  have hnm := h.n3 hg (.inr rfl)
  refine ⟨hf _ _ h.box (fun e => hnm (by rw [e]; simp)) (own_nmp h hO), h.nol, fun j e => ⟨(h.dat j e).1, hf _ _ (h.dat j e).2 (fun e' => hnm (by rw [← e', e]; simp)) (hsep j e)⟩, h.hn⟩
theorem ares_c1 (env : Env) (s : St) (a : Nat) : aresult env s (.cell1 a) = lod1 s (E env a) := by
  unfold E lod1
  simp only [aresult]
  generalize env.getD a .und = v
  cases v <;> first | rfl | (split <;> rfl)
theorem res_cell1 (env : Env) (s : St) (a : Nat) : aresults env s [.cell1 a] = lod1 s (E env a) := by
  simp only [aresults, List.mapM_cons, List.mapM_nil, ares_c1]
  cases lod1 s (E env a) <;> rfl
structure Gt (u t : St) (b16 id : Nat) (q : Option Nat) (d : Bool) (N : List PrS) (q' : Option Nat) (gv : AV) (l : List PrS) : Prop where
  ch : Chg (b16 :: id :: q.toList) u t
  mp : MpR t id q' d N
  qn : ∀ j, q' = some j → q = some j ∨ u.next ≤ j
  srt : SrtD d N
  bx : t.get b16 = some (.row [gv] true)
  own : Own prC u t gv l
  sep : ∀ j, q' = some j → ∀ o n c z, gv ≠ .sl j o n c z
variable {u t2 : St} {b16 : Nat} {N N2 : List PrS} {q' q2 : Option Nat} {gv : AV} {l : List PrS}
theorem Gt.keep (h : Gt u t b16 id q d N q' gv l) (hK : Keep t t2) : Gt u t2 b16 id q d N q' gv l := ⟨h.ch.trans (hK.chg []) (by simp), h.mp.keep hK, h.qn, h.srt, hK.blk h.bx, h.own.mono fun _ _ => hK.blk, h.sep⟩
theorem Gt.chg (h : Gt u t b16 id q d N q' gv l) (hC : Chg (id :: q'.toList) t t2) (hm : MpR t2 id q2 d N2) (hq2 : ∀ j, q2 = some j → q' = some j ∨ t.next ≤ j) (hs : SrtD d N2) : Gt u t2 b16 id q d N2 q2 gv l := by
  obtain ⟨h1, h2⟩ := own_chg h.mp h.own h.sep hC hq2
  refine ⟨h.ch.trans hC fun x hx => ?_, hm, fun j e => ?_, hs, hC.blk h.bx (h.mp.n3 h.bx (.inr rfl)), h1, h2⟩
  · rcases List.mem_cons.1 hx with rfl | hx
    · exact .inl (by simp)
    · cases e : q' with
      | none => rw [e] at hx; simp at hx
      | some j =>
        rw [e] at hx
        simp only [Option.toList_some, List.mem_singleton] at hx
        subst hx
        rcases h.qn x e with e' | e'
        · rw [e']
          exact .inl (by simp)
        · exact .inr e'
  · rcases hq2 j e with e' | e'
    · exact h.qn j e'
    · have := h.ch.next
      exact .inr (by omega)
theorem Gt.app (h : Gt u t b16 id q d N q' gv l) (hib : b16 < u.next) (y : PrS) (hl : l.length < 100000) : ∃ lv' t', appV (t.push (.row (prC.enc y) true)) 2 24 gv (.sl t.next 0 1 (some 1) 2) = some (lv', t') ∧ AM.sto t' 1 (.ptr b16 0) lv' = some (.und, t'.put b16 (.row [lv'] true)) ∧ ltN b16 t' ∧ Gt u (t'.put b16 (.row [lv'] true)) b16 id q d N q' lv' (l ++ [y]) := by
  obtain ⟨lv', t', h1, h2, h3, h4, h5, h6, h7, h8⟩ := box1C h.ch (by simp) hib h.bx h.own (by decide) y 24 (by unfold roomBytes; omega)
  refine ⟨lv', t', h1, h2, h3, h4, h.mp.frame h.bx h.own h.sep h8, h.qn, h.srt, h5, h6, fun j e => h7 j ?_⟩
  have := St.get_lt (h.mp.dat j e).2
  omega
end Go.AM
end
