/-
  Ranges over functions, the second part: code with such statements, what holds behind it, and its soundness. Own work of this project.
-/
import Derived.Test.YtmgfhkkcgdagpaaP2
import Derived.Test.YtmgfhkkcgdagpaaProg
import Derived.KernelRfl
set_option linter.unusedVariables false
set_option linter.unusedSimpArgs false
section
namespace Go.AM
open Go

/-- An iterator's code: regions in which yield is called stand apart. -/
inductive AY where
  | base (c : AC)
  | seq (a b : AY)
  | cond (c : AO) (a b : AY)
  | block (id : Nat) (c : AY)
  | loop (c : AY)
  | yld (pre : List AOper) (dst : Option Nat) (x : AO) (args : List AO) (post : List AOper)
/-- A function's code. 'rf': the function that is ranged over, yield's parameters, the assignment, the body; the iterators that may come up: number, temporaries, code. -/
inductive AI where
  | base (c : AC)
  | seq (a b : AI)
  | cond (c : AO) (a b : AI)
  | block (id : Nat) (c : AI)
  | loop (c : AI)
  | rf (g : AO) (ps : List Nat) (asg body : AC) (its : List (Nat × Nat × AY))
structure AFnI where
  ntmps : Nat
  results : List AR
  body : AI

def splitY : List AOper → Option (List AOper × Option Nat × AO × List AO × List AOper)
  | [] => none
  | o :: r => match o.op, o.guard with
    | .callv x false args, none => some ([], o.dst, x, args, r)
    | _, _ => (splitY r).map fun (a, d, x, args, b) => (o :: a, d, x, args, b)
variable (P : Program) in
def ccodeY : Code → AY
  | .seq a b => .seq (ccodeY a) (ccodeY b)
  | .cond c a b => if (copd c).ok then .cond (copd c) (ccodeY a) (ccodeY b) else .base .bad
  | .block id c => .block id (ccodeY c)
  | .loop c => .loop (ccodeY c)
  | .region id ops false => match cregP P ops ops.toList with
    | some l => match splitY l with
      | some (a, d, x, args, b) => .yld a d x args b
      | none => .base (ccode P (.region id ops false))
    | none => .base .bad
  | c => .base (ccode P c)
def hasRf : Code → Bool
  | .rangeFunc .. => true
  | .seq a b | .cond _ a b => hasRf a || hasRf b
  | .block _ c | .loop c => hasRf c
  | _ => false
variable (P : Program) (its : List Nat) in
def iters : List (Nat × Nat × AY) := its.filterMap fun f => match P.funcs[f]? with
  | some fn => if callable P f && fn.results.size == 0 then fn.body.map fun c => (f, fn.ntmps, ccodeY P c) else none
  | none => none
variable (P : Program) (its : List Nat) in
def ccodeI : Code → AI
  | .rangeFunc g ps asg body => if (copd g).ok && noDefer asg && noDefer body then .rf (copd g) ps.toList (ccode P asg) (ccode P body) (iters P its) else .base .bad
  | .seq a b => if hasRf a || hasRf b then .seq (ccodeI a) (ccodeI b) else .base (ccode P (.seq a b))
  | .cond c a b => if hasRf a || hasRf b then (if (copd c).ok then .cond (copd c) (ccodeI a) (ccodeI b) else .base .bad) else .base (ccode P (.cond c a b))
  | .block id c => if hasRf c then .block id (ccodeI c) else .base (ccode P (.block id c))
  | .loop c => if hasRf c then .loop (ccodeI c) else .base (ccode P (.loop c))
  | c => .base (ccode P c)
def cfnI (P : Program) (its : List Nat) (fn : Func) : Option AFnI :=
  match fn.body, cres P fn.results.toList with
  | some c, some rs => some { ntmps := fn.ntmps, results := rs, body := ccodeI P its c }
  | _, _ => none

def setPs (env : Env) : List Nat → List AV → Env
  | p :: ps, v :: vs => setPs (env.set p v) ps vs
  | _, _ => env
abbrev YP := Option AEx
def aroundsY (body : YP → (YP → AEx → Env → St → Prop) → Env → St → Prop) (Q : YP → AEx → Env → St → Prop) : Nat → YP → Env → St → Prop
  | 0, _, _, _ => False
  | n + 1, p, env, s => body p (fun p x e t => match x with
    | .nor => aroundsY body Q n p e t
    | x => Q p x e t) env s
/-- What holds behind an iterator's code; 'p': how a round has left the statement, if one has. -/
def awpY (call : Nat → List AV → St → Option (AV × St)) (yv : AV) (Yd : List AV → (YP → AV → St → Prop) → St → Prop) : AY → YP → (YP → AEx → Env → St → Prop) → Env → St → Prop
  | .base c, p, Q, env, s => awp call c (Q p) env s
  | .seq a b, p, Q, env, s => awpY call yv Yd a p (fun p x e t => match x with
    | .nor => awpY call yv Yd b p Q e t
    | x => Q p x e t) env s
  | .cond c a b, p, Q, env, s => match aev env c with
    | .bool true => awpY call yv Yd a p Q env s
    | .bool false => awpY call yv Yd b p Q env s
    | _ => False
  | .block id c, p, Q, env, s => awpY call yv Yd c p (fun p x e t => match x with
    | .exit i => if i = id then Q p .nor e t else Q p (.exit i) e t
    | x => Q p x e t) env s
  | .loop c, p, Q, env, s => ∃ n, aroundsY (awpY call yv Yd c) Q n p env s
  | .yld pre dst x args post, p, Q, env, s => awops call s.next pre (fun e t => aev e x = yv ∧ p = none ∧ Yd (args.map (aev e)) (fun p' v t' => awops call t'.next post (Q p' .nor) (putE e dst v) t') t) env s
/-- A round. -/
def roundY (call : Nat → List AV → St → Option (AV × St)) (ps : List Nat) (asg body : AC) (env : Env) (args : List AV) (K : YP → AV → St → Prop) (t : St) : Prop :=
  args.length = ps.length ∧ awp call asg (fun x e t1 => x = .nor ∧ awp call body (fun x _ t2 => match x with
    | .nor => K none (.bool true) t2
    | x => K (some x) (.bool false) t2) e t1) (setPs env ps args) t
def findI (f : Nat) : List (Nat × Nat × AY) → Option (Nat × AY)
  | [] => none
  | (g, n, y) :: r => if f = g then some (n, y) else findI f r
def awpI (call : Nat → List AV → St → Option (AV × St)) : AI → (AEx → Env → St → Prop) → Env → St → Prop
  | .base c, Q, env, s => awp call c Q env s
  | .seq a b, Q, env, s => awpI call a (fun x e t => match x with
    | .nor => awpI call b Q e t
    | x => Q x e t) env s
  | .cond c a b, Q, env, s => match aev env c with
    | .bool true => awpI call a Q env s
    | .bool false => awpI call b Q env s
    | _ => False
  | .block id c, Q, env, s => awpI call c (fun x e t => match x with
    | .exit i => if i = id then Q .nor e t else Q (.exit i) e t
    | x => Q x e t) env s
  | .loop c, Q, env, s => ∃ n, arounds (awpI call c) Q n env s
  | .rf g ps asg body its, Q, env, s => match aev env g with
    | .fn f caps => match findI f its with
      | some (n, y) => ∀ l, awpY call (.yd l) (roundY call ps asg body env) y none (fun p x _ t => (∀ i, x ≠ .exit i) ∧ match p with
          | none => Q .nor env t
          | some x => Q x env t) ((.yd l :: caps) ++ List.replicate (n - (AV.yd l :: caps).length) .und) s
      | none => False
    | _ => False

variable {P : Program} {ρ : Ren}

/-! ### Blocks that no abstract block stands for -/
def isSys : Obj → Bool
  | .loop _ | .deferred _ => true
  | _ => false
theorem sys_ne {s : St} {w : World} (hR : R s ρ w) {id : Nat} {L : Loc} {b : AB} (hL : ρ id = some L) (hg : s.get id = some b) (hb : b.live = true) {k : Nat} {o : Obj} (ho : w.heap[k]? = some o) (hs : isSys o = true) : L.b ≠ k := by
  rintro rfl
  have h := hR.blk id b L hg hL
  cases b <;> simp [AB.live] at hb <;> simp only [BlkOk] at h
  · obtain ⟨cs, e, fr, h1, _⟩ := h
    rw [ho] at h1; injection h1 with h1; subst h1; cases hs
  · obtain ⟨ces, h1, _⟩ := h
    rw [ho] at h1; injection h1 with h1; subst h1; cases hs
  · obtain ⟨m', h1, _⟩ := h
    rw [ho] at h1; injection h1 with h1; subst h1; cases hs
theorem Step.sys {s s' : St} {ρ' : Ren} {w w' : World} (h : Step s s' ρ ρ' w w') (hR : R s ρ w) {k : Nat} {o : Obj} (ho : w.heap[k]? = some o) (hs : isSys o = true) : w'.heap[k]? = some o := by
  rw [h.frame k (Array.getElem?_eq_some_iff.1 ho).1 fun id L b _ hL hg hb => sys_ne hR hL hg (AB.live_of_owned hb) ho hs]
  exact ho
theorem R.sys {s : St} {w : World} (hR : R s ρ w) {k : Nat} {o : Obj} (ho : w.heap[k]? = some o) (hs : isSys o = true) (o' : Obj) : R s ρ (w.putObj k o') := by
  refine ⟨fun id L hL => by rw [World.putObj_size]; exact hR.bound id L hL, fun id b L hg hL => ?_, hR.inj⟩
  have h := hR.blk id b L hg hL
  cases hb : b.live
  · cases b <;> simp [AB.live] at hb <;> exact trivial
  · exact h.same (World.putObj_heap_other (sys_ne hR hL hg hb ho hs))
theorem putObj_self {w : World} {k : Nat} {o : Obj} (h : w.heap[k]? = some o) : w.putObj k o = w := by
  have : w.heap.setIfInBounds k o = w.heap := by
    apply Array.ext_getElem?
    intro i
    by_cases hi : i = k
    · subst hi
      rw [Array.getElem?_setIfInBounds_self_of_lt (Array.getElem?_eq_some_iff.1 h).1, h]
    · rw [Array.getElem?_setIfInBounds_ne (Ne.symm hi)]
  unfold World.putObj
  rw [this]
theorem putObj_put (w : World) (k : Nat) (a b : Obj) : (w.putObj k a).putObj k b = w.putObj k b := by
  unfold World.putObj
  simp
theorem putObj_at {w : World} {k : Nat} {o o' : Obj} (h : w.heap[k]? = some o') : (w.putObj k o).heap[k]? = some o := World.putObj_heap_same (Array.getElem?_eq_some_iff.1 h).1
/-- The same step, told of the world in which the record lies as it lay. -/
theorem Step.reloop {s s' : St} {ρ' : Ren} {G W W' : World} {k : Nat} {o o0 : Obj} (h : Step s s' ρ ρ' W W') (hW : W = G.putObj k o) (hG : G.heap[k]? = some o0) : Step s s' ρ ρ' G (W'.putObj k o0) := by
  subst hW
  have hsz := h.size
  rw [World.putObj_size] at hsz
  have hk : k < W'.heap.size := Nat.lt_of_lt_of_le (Array.getElem?_eq_some_iff.1 hG).1 hsz
  refine ⟨h.next, h.low, h.ren, by rw [World.putObj_size]; exact hsz, h.os, h.tape, h.output, h.drawn, fun b hb H => ?_, h.old, fun id L b h1 h2 h3 h4 => by have := h.new id L b h1 h2 h3 h4; rwa [World.putObj_size] at this, h.unm⟩
  by_cases hbk : b = k
  · subst hbk
    rw [World.putObj_heap_same hk, hG]
  · rw [World.putObj_heap_other hbk, h.frame b (by rw [World.putObj_size]; exact hb) H, World.putObj_heap_other hbk]
/-- A block laid since. -/
theorem Step.putNew {s s' : St} {ρ' : Ren} {w w' : World} (h : Step s s' ρ ρ' w w') {k : Nat} (hk : w.heap.size ≤ k) (o : Obj) : Step s s' ρ ρ' w (w'.putObj k o) :=
  ⟨h.next, h.low, h.ren, by rw [World.putObj_size]; exact h.size, h.os, h.tape, h.output, h.drawn, fun b hb H => by rw [World.putObj_heap_other (by omega)]; exact h.frame b hb H, h.old, h.new, h.unm⟩
theorem lift_loop {s : St} {G W : World} {k : Nat} {o o0 : Obj} (hW : W = G.putObj k o) (hG : G.heap[k]? = some o0) (h0 : isSys o0 = true) (ho : isSys o = true) (hR : R s ρ G) : R s ρ W ∧ ∀ s' ρ' W', Step s s' ρ ρ' W W' → R s' ρ' W' →
    ∃ G', Step s s' ρ ρ' G G' ∧ W' = G'.putObj k o ∧ G'.heap[k]? = some o0 ∧ R s' ρ' G' := by
  have hRW : R s ρ W := by rw [hW]; exact hR.sys hG h0 o
  refine ⟨hRW, fun s' ρ' W' hst hR' => ?_⟩
  have hat : W.heap[k]? = some o := by rw [hW]; exact putObj_at hG
  have hat' := hst.sys hRW hat ho
  exact ⟨W'.putObj k o0, hst.reloop hW hG, by rw [putObj_put, putObj_self hat'], putObj_at hat', hR'.sys hat' ho o0⟩

theorem EnvR.sets : ∀ {ps : List Nat} {vs : List AV} {cs : List Value} {env : Env} {tmps : Array Value}, EnvR ρ env tmps → VRs ρ vs cs → EnvR ρ (setPs env ps vs) ((ps.zip cs).foldl (fun t (x : Nat × Value) => t.setIfInBounds x.1 x.2) tmps)
  | [], vs, cs, env, tmps, h, _ => by
    cases vs <;> simpa [setPs] using h
  | p :: ps, [], cs, env, tmps, h, k => by
    simp only [VRs] at k; subst k
    simpa [setPs] using h
  | p :: ps, v :: vs, cs, env, tmps, h, k => by
    simp only [VRs] at k
    obtain ⟨c, r, rfl, h1, h2⟩ := k
    have h3 : EnvR ρ (putE env (some p) v) (({ tmps := tmps, defers := [] } : Act).put (some p) c).tmps := EnvR.put (a := { tmps := tmps, defers := [] }) h h1 (some p)
    exact EnvR.sets (ps := ps) h3 h2
theorem zip_fold (ps : List Nat) (cs : List Value) (tmps : Array Value) : (ps.toArray.zip cs.toArray).foldl (fun t (x : Nat × Value) => t.setIfInBounds x.1 x.2) tmps = (ps.zip cs).foldl (fun t (x : Nat × Value) => t.setIfInBounds x.1 x.2) tmps := by
  rw [List.zip_toArray, List.foldl_toArray]
end Go.AM
end
/-
  Ranges over functions, the third part: soundness. Own work of this project.
-/
section
namespace Go.AM
open Go

variable {P : Program} {ρ : Ren} {n : Nat}

theorem splitY_spec : ∀ {l pre post : List AOper} {d : Option Nat} {x : AO} {args : List AO}, splitY l = some (pre, d, x, args, post) → ∃ o, l = pre ++ o :: post ∧ o.dst = d ∧ o.op = .callv x false args ∧ o.guard = none
  | [], _, _, _, _, _, h => by simp [splitY] at h
  | o :: r, pre, post, d, x, args, h => by
    unfold splitY at h
    split at h
    · rename_i x' args' h1 h2
      simp only [Option.some.injEq, Prod.mk.injEq] at h
      obtain ⟨rfl, rfl, rfl, rfl, rfl⟩ := h
      exact ⟨o, rfl, rfl, h1, h2⟩
    · obtain ⟨⟨a, d', x', args', b⟩, h1, h2⟩ := Option.map_eq_some_iff.1 h
      simp only [Prod.mk.injEq] at h2
      obtain ⟨rfl, rfl, rfl, rfl, rfl⟩ := h2
      obtain ⟨o', rfl, h3⟩ := splitY_spec h1
      exact ⟨o', rfl, h3⟩
theorem cregP_split {ops : Array Oper} : ∀ {pre post : List AOper} {ao : AOper} {os : List Oper}, cregP P ops os = some (pre ++ ao :: post) → ∃ os1 o os2, os = os1 ++ o :: os2 ∧ cregP P ops os1 = some pre ∧ cregP P ops os2 = some post ∧ guardOf ops o = some ao.guard ∧ ao.op = cop P false o.op ∧ ao.dst = o.dst
  | pre, post, ao, [], h => by
    simp only [cregP] at h
    injection h with h
    cases pre <;> cases h
  | pre, post, ao, o :: os, h => by
    simp only [cregP] at h
    split at h
    · rename_i g l' hg hl
      injection h with h
      cases pre with
      | nil =>
        simp only [List.nil_append] at h
        obtain ⟨h1, h2⟩ := List.cons.inj h
        subst h1; subst h2
        exact ⟨[], o, os, rfl, rfl, hl, hg, rfl, rfl⟩
      | cons p pre =>
        simp only [List.cons_append] at h
        obtain ⟨h1, h2⟩ := List.cons.inj h
        subst h1; subst h2
        obtain ⟨os1, o', os2, rfl, e1, e2, e3⟩ := cregP_split hl
        refine ⟨o :: os1, o', os2, rfl, ?_, e2, e3⟩
        simp only [cregP, hg, e1]
    · cases h

theorem exec_yield {o : Oper} {a : Act} {c : Call} (hop : o.op = .call c) {x : Operand} (hc : c.callee = .value x) {l : Nat} (hx : a.eval x = .func (.yield l) #[] #[]) (w : World) :
    (execOp a.eval o).run P w = (Instr.yield l (c.args.toList.map a.eval).toArray).run P w := by
  obtain ⟨callee, args, argTypes⟩ := c
  simp only at hc
  subst hc
  have : (args.map a.eval) = (args.toList.map a.eval).toArray := by apply Array.ext'; simp
  simp [execOp, hop, resolve, hx, Deferred.ofValue, invoke, this]
theorem callv_of {op : Op} {x : AO} {args : List AO} (h : cop P false op = .callv x false args) : ∃ c x0, op = .call c ∧ c.callee = .value x0 ∧ x = copd x0 ∧ args = c.args.toList.map copd ∧ (copd x0).ok = true ∧ ∀ y ∈ c.args.toList, (copd y).ok = true := by
  obtain ⟨hok, hc⟩ := cop_ok (P := P) (cl := false) (op := op) (by intro e; rw [e] at h; cases h)
  rw [hc] at h
  cases hop : op with
  | call c =>
    rw [hop] at h hok
    simp only [cop0] at h
    have hargs : ∀ x ∈ c.args.toList, (copd x).ok = true := fun x hx => hok x (by simp [Op.operands, Call.operands]; exact .inr (by simpa using hx))
    cases hcal : c.callee with
    | value x0 =>
      have hx : (copd x0).ok = true := hok x0 (by simp [Op.operands, Call.operands, hcal])
      refine ⟨c, x0, rfl, hcal, ?_⟩
      unfold ccall at h
      rw [hcal] at h
      cases x0 with
      | func f =>
        simp only at h
        split at h
        · cases h
        · have h2 := congrArg AOp.isCall h
          rw [covl_call] at h2
          cases h2
      | _ => simp only at h; injection h with h1 h2 h3; exact ⟨h1.symm, h3.symm, hx, hargs⟩
    | invoke r m => unfold ccall at h; rw [hcal] at h; cases h
    | builtin b =>
      exfalso
      unfold ccall at h
      rw [hcal] at h
      simp only at h
      revert h
      repeat' split
      all_goals simp
  | makeFunc fn first caps =>
    rw [hop] at h
    exfalso
    revert h
    cases fn <;> simp only [cop0] <;> (try split) <;> simp
  | _ =>
    rw [hop] at h
    exfalso
    revert h
    simp only [cop0]
    repeat' split
    all_goals simp

/-! ### An iterator's code -/
def AEx.code : AEx → Code
  | .nor => .skip
  | .exit id => .exit id
  | .ret => .ret
/-- The loop's record. -/
def objL (fnid : FuncId) (tmps0 : Array Value) (ps : Array Tmp) (asg body : Code) (D : Nat) : YP → Obj
  | none => .loop { state := .ready, pending := none, fn := fnid, tmps := tmps0, params := ps, assign := asg, body := body, defers := D }
  | some x => .loop { state := .done, pending := some x.code, fn := fnid, tmps := tmps0, params := ps, assign := asg, body := body, defers := D }
theorem objL_sys (fnid : FuncId) (tmps0 : Array Value) (ps : Array Tmp) (asg body : Code) (D : Nat) (p : YP) : isSys (objL fnid tmps0 ps asg body D p) = true := by cases p <;> rfl

section
variable {call : Nat → List AV → St → Option (AV × St)} {fnid : FuncId} {tmps0 : Array Value} {ps : Array Tmp} {asg body : Code} {k D : Nat} {env0 : Env}
theorem base_in (hS : Sound P call) (hm : P.follows .mixedOrders = true) (c : Code) (p : YP) (Qa : YP → AEx → Env → St → Prop) (env : Env) (s : St) (ρ : Ren) (a : Act) (G W : World) (Q : Exit → Act → World → Prop)
    (h : awp call (ccode P c) (Qa p) env s) (hE : EnvR ρ env a.tmps) (hR : R s ρ G) (hf : Free s ρ) (hd : a.defers = []) (hG : G.heap[k]? = some (objL fnid tmps0 ps asg body D none)) (hW : W = G.putObj k (objL fnid tmps0 ps asg body D p))
    (hQ : ∀ p' x env' s' ρ' a' G' W', Qa p' x env' s' → Step s s' ρ ρ' G G' → R s' ρ' G' → Free s' ρ' → EnvR ρ' env' a'.tmps → a'.defers = [] → G'.heap[k]? = some (objL fnid tmps0 ps asg body D none) → W' = G'.putObj k (objL fnid tmps0 ps asg body D p') → Q x.out a' W') :
    c.wpIn (fenceAt none) n P Q a W := by
  obtain ⟨hRW, hl⟩ := lift_loop hW hG (objL_sys ..) (objL_sys ..) hR
  refine awp_in hS hm (df := []) c (Qa p) env s ρ a W Q (.inl rfl) h hE hRW hf hd fun x env' s' ρ' a' W' hq g1 g2 g3 g4 g5 => ?_
  obtain ⟨G', e1, e2, e3, e4⟩ := hl s' ρ' W' g1 g2
  exact hQ p x env' s' ρ' a' G' W' hq e1 e4 g3 g4 g5 e3 e2

theorem yld_in (hS : Sound P call) (hm : P.follows .mixedOrders = true) (hna : noDefer asg = true) (hnb : noDefer body = true) {id : Nat} {ops : Array Oper} {l pre post : List AOper} {d : Option Nat} {x : AO} {args : List AO} (hl : cregP P ops ops.toList = some l) (hs : splitY l = some (pre, d, x, args, post))
    (p : YP) (Qa : YP → AEx → Env → St → Prop) (env : Env) (s : St) (ρ : Ren) (a : Act) (G W : World) (Q : Exit → Act → World → Prop)
    (h : awpY call (.yd k) (roundY call ps.toList (ccode P asg) (ccode P body) env0) (.yld pre d x args post) p Qa env s) (hE : EnvR ρ env a.tmps) (hE0 : EnvR ρ env0 tmps0) (hR : R s ρ G) (hf : Free s ρ) (hd : a.defers = []) (hG : G.heap[k]? = some (objL fnid tmps0 ps asg body D none)) (hW : W = G.putObj k (objL fnid tmps0 ps asg body D p))
    (hQ : ∀ p' x env' s' ρ' a' G' W', Qa p' x env' s' → Step s s' ρ ρ' G G' → R s' ρ' G' → Free s' ρ' → EnvR ρ' env' a'.tmps → a'.defers = [] → G'.heap[k]? = some (objL fnid tmps0 ps asg body D none) → W' = G'.putObj k (objL fnid tmps0 ps asg body D p') → Q x.out a' W') :
    (Code.region id ops false).wpIn (fenceAt none) n P Q a W := by
  obtain ⟨ao, rfl, hod, hoo, hog⟩ := splitY_spec hs
  obtain ⟨os1, o, os2, hos, hc1, hc2, hg, hop, hdst⟩ := cregP_split hl
  rw [hoo] at hop
  rw [hod] at hdst
  subst hdst
  obtain ⟨hRW, hlift⟩ := lift_loop hW hG (objL_sys ..) (objL_sys ..) hR
  simp only [awpY] at h
  refine wpIn_region ?_
  have hsz : ops.size = os1.length + (os2.length + 1) := by
    rw [← Array.length_toList, hos, List.length_append, List.length_cons]
  have hrg : List.range ops.size = List.range' 0 os1.length ++ (os1.length :: List.range' (os1.length + 1) os2.length) := by
    rw [List.range_eq_range', hsz, ← List.range'_append_1]
    simp [List.range'_succ]
  have hat : ∀ j, ops[j]? = (os1 ++ o :: os2)[j]? := fun j => by rw [← hos, Array.getElem?_toList]
  rw [hrg]
  refine awops_in hS (df := []) (.inl rfl) os1 0 pre env s ρ a W (fun j o' hj => by rw [hat, Nat.zero_add, List.getElem?_append_left (List.getElem?_eq_some_iff.1 hj).1]; exact hj) hc1 h hE hRW hf hd fun e t ρ1 a1 W1 hq g1 g2 g3 g4 g5 => ?_
  obtain ⟨hx, rfl, hround⟩ := hq
  obtain ⟨G1, e1, e2, e3, e4⟩ := hlift t ρ1 W1 g1 g2
  rw [putObj_self e3] at e2
  subst e2
  have ho : ops[os1.length]? = some o := by rw [hat]; simp
  simp only [wpOpsIn, ho]
  have hwt : wanted ⟨o.dst, .bad, ao.guard, none, false⟩ e = some true := by simp [wanted, hog]
  rw [wanted_rel g4 hg hwt, if_pos rfl]
  obtain ⟨cc, x0, hcall, hcal, rfl, rfl, hxok, haok⟩ := callv_of hop.symm
  have hxv := aev_rel g4 hxok
  rw [hx] at hxv
  simp only [VR] at hxv
  have hargs := VRs_map g4 cc.args.toList haok
  obtain ⟨hlen, hasg⟩ := hround
  refine ⟨fun _ _ => trivial, ?_⟩
  have hsem : o.semAt (fenceAt none).round a1.eval = execOp a1.eval o := rfl
  have hsize : (cc.args.toList.map a1.eval).toArray.size = ps.size := by
    have hlen' := hlen
    simp at hlen' ⊢
    exact hlen'
  have hst1 : Step s t ρ ρ1 G W1 := e1
  rw [hsem, exec_yield hcall hcal hxv, run_yield e3 hsize, Oper.uponIn_round]
  refine ⟨fun q => by simp [fenceAt, Fence.wide] at q, ?_⟩
  refine roundIn_of_wpIn (F := fenceAt none) trivial ?_
  have hE1 := (hE0.step hf hst1).sets hargs (ps := ps.toList)
  rw [← zip_fold] at hE1
  refine awp_in (ro := some k) hS hm (df := []) asg _ _ t ρ1 { tmps := _, defers := [] } W1 _ (.inr hna) hasg hE1 g2 g3 rfl fun x2 e2 t2 ρ2 a2 W2 hq2 k1 k2 k3 k4 k5 => ?_
  obtain ⟨rfl, hq2⟩ := hq2
  have h2 := k1.sys g2 e3 (objL_sys ..)
  refine ⟨_, run_beginRound h2 rfl, ?_⟩
  refine awp_in (ro := some k) hS hm (df := []) body _ e2 t2 ρ2 a2 _ _ (.inr hnb) hq2 k4 (k2.sys h2 (objL_sys ..) _) k3 k5 fun x3 e3' t3 ρ3 a3 W3 hq3 j1 j2 j3 j4 j5 => ?_
  have hb3 := j1.sys (k2.sys h2 (objL_sys ..) _) (putObj_at h2) rfl
  have hst3 : Step t t3 ρ1 ρ3 W1 (W3.putObj k (objL fnid tmps0 ps asg body D none)) := k1.trans (j1.reloop rfl h2)
  have fin : ∀ (p' : YP) (v : AV) (cv : Value), VR ρ3 v cv → awops call t3.next post (Qa p' .nor) (putE e o.dst v) t3 → wpOpsIn (fenceAt none) n P ops Q (List.range' (os1.length + 1) os2.length) (a1.put o.dst cv) (W3.putObj k (objL fnid tmps0 ps asg body D p')) := by
    intro p' v cv hv hpost
    obtain ⟨hR4, hlift4⟩ := lift_loop (G := W3.putObj k (objL fnid tmps0 ps asg body D none)) (o := objL fnid tmps0 ps asg body D p') (o0 := objL fnid tmps0 ps asg body D none) rfl (putObj_at hb3) (objL_sys ..) (objL_sys ..) (j2.sys hb3 rfl _)
    rw [putObj_put] at hR4 hlift4
    have := awops_in (n := n) (Q := Q) hS (df := []) (rest := []) (ro := none) (ops := ops) (.inl rfl) os2 (os1.length + 1) post (putE e o.dst v) t3 ρ3 (a1.put o.dst cv) (W3.putObj k (objL fnid tmps0 ps asg body D p')) (fun j o' hj => by rw [hat, Nat.add_assoc, List.getElem?_append_right (by omega), show os1.length + (1 + j) - os1.length = j + 1 by omega, List.getElem?_cons_succ]; exact hj) hc2 hpost ((g4.step g3 hst3).put hv o.dst) hR4 j3 (by cases hdst : o.dst <;> simpa [Act.put] using g5) fun env' s' ρ' a' w' hq q1 q2 q3 q4 q5 => by
        obtain ⟨G4, f1, f2, f3, f4⟩ := hlift4 s' ρ' w' q1 q2
        exact hQ p' .nor env' s' ρ' a' G4 w' hq ((hst1.trans hst3).trans f1) f4 q3 q4 q5 f3 f2
    simpa using this
  cases x3 with
  | nor => exact ⟨_, _, run_endRound none hb3, fin none (.bool true) (.bool true) (by simp [VR]) hq3⟩
  | exit i => exact ⟨_, _, run_endRound (some (.exit i)) hb3, fin (some (.exit i)) (.bool false) (.bool false) (by simp [VR]) hq3⟩
  | ret => exact ⟨_, _, run_endRound (some .ret) hb3, fin (some .ret) (.bool false) (.bool false) (by simp [VR]) hq3⟩

theorem awpY_in (hS : Sound P call) (hm : P.follows .mixedOrders = true) (hna : noDefer asg = true) (hnb : noDefer body = true) : ∀ (c : Code) (p : YP) (Qa : YP → AEx → Env → St → Prop) (env : Env) (s : St) (ρ : Ren) (a : Act) (G W : World) (Q : Exit → Act → World → Prop),
    awpY call (.yd k) (roundY call ps.toList (ccode P asg) (ccode P body) env0) (ccodeY P c) p Qa env s → EnvR ρ env a.tmps → EnvR ρ env0 tmps0 → R s ρ G → Free s ρ → a.defers = [] → G.heap[k]? = some (objL fnid tmps0 ps asg body D none) → W = G.putObj k (objL fnid tmps0 ps asg body D p) →
    (∀ p' x env' s' ρ' a' G' W', Qa p' x env' s' → Step s s' ρ ρ' G G' → R s' ρ' G' → Free s' ρ' → EnvR ρ' env' a'.tmps → a'.defers = [] → G'.heap[k]? = some (objL fnid tmps0 ps asg body D none) → W' = G'.putObj k (objL fnid tmps0 ps asg body D p') → Q x.out a' W') →
    c.wpIn (fenceAt none) n P Q a W := by
  intro c
  induction c with
  | seq c d ihc ihd =>
    intro p Qa env s ρ a G W Q h hE hE0 hR hf hd hG hW hQ
    simp only [ccodeY, awpY] at h
    refine wpIn_seq (ihc p _ env s ρ a G W _ h hE hE0 hR hf hd hG hW fun p1 x env1 s1 ρ1 a1 G1 W1 hx g1 g2 g3 g4 g5 g6 g7 => ?_)
    cases x with
    | nor => exact ihd p1 Qa env1 s1 ρ1 a1 G1 W1 Q hx g4 (hE0.step hf g1) g2 g3 g5 g6 g7 fun p2 y env2 s2 ρ2 a2 G2 W2 hy k1 k2 k3 k4 k5 k6 k7 => hQ p2 y env2 s2 ρ2 a2 G2 W2 hy (g1.trans k1) k2 k3 k4 k5 k6 k7
    | exit id => exact hQ p1 (.exit id) env1 s1 ρ1 a1 G1 W1 hx g1 g2 g3 g4 g5 g6 g7
    | ret => exact hQ p1 .ret env1 s1 ρ1 a1 G1 W1 hx g1 g2 g3 g4 g5 g6 g7
  | cond q c d ihc ihd =>
    intro p Qa env s ρ a G W Q h hE hE0 hR hf hd hG hW hQ
    simp only [ccodeY] at h
    split at h
    · rename_i hok
      simp only [awpY] at h
      have hv := aev_rel hE hok
      split at h
      · rename_i hb
        rw [hb] at hv
        simp only [VR] at hv
        exact wpIn_cond_true hv (ihc p Qa env s ρ a G W Q h hE hE0 hR hf hd hG hW hQ)
      · rename_i hb
        rw [hb] at hv
        simp only [VR] at hv
        exact wpIn_cond_false hv (ihd p Qa env s ρ a G W Q h hE hE0 hR hf hd hG hW hQ)
      · exact h.elim
    · simp only [awpY, awp] at h
  | block id c ih =>
    intro p Qa env s ρ a G W Q h hE hE0 hR hf hd hG hW hQ
    simp only [ccodeY, awpY] at h
    refine wpIn_block (ih p _ env s ρ a G W _ h hE hE0 hR hf hd hG hW fun p1 x env1 s1 ρ1 a1 G1 W1 hx g1 g2 g3 g4 g5 g6 g7 => ?_)
    cases x with
    | nor => exact hQ p1 .nor env1 s1 ρ1 a1 G1 W1 hx g1 g2 g3 g4 g5 g6 g7
    | exit i =>
      simp only at hx
      by_cases hi : i = id
      · rw [if_pos hi] at hx
        simp only [AEx.out, Exit.inBlock, if_pos hi]
        exact hQ p1 .nor env1 s1 ρ1 a1 G1 W1 hx g1 g2 g3 g4 g5 g6 g7
      · rw [if_neg hi] at hx
        simp only [AEx.out, Exit.inBlock, if_neg hi]
        exact hQ p1 (.exit i) env1 s1 ρ1 a1 G1 W1 hx g1 g2 g3 g4 g5 g6 g7
    | ret => exact hQ p1 .ret env1 s1 ρ1 a1 G1 W1 hx g1 g2 g3 g4 g5 g6 g7
  | loop c ih =>
    intro p Qa env s ρ a G W Q h hE hE0 hR hf hd hG hW hQ
    simp only [ccodeY, awpY] at h
    obtain ⟨m, h⟩ := h
    refine wpIn_loop_rounds m ?_
    induction m generalizing p env s ρ a G W with
    | zero => exact h.elim
    | succ m ihn =>
      simp only [aroundsY] at h
      simp only [Code.roundsIn]
      refine ih p _ env s ρ a G W _ h hE hE0 hR hf hd hG hW fun p1 x env1 s1 ρ1 a1 G1 W1 hx g1 g2 g3 g4 g5 g6 g7 => ?_
      cases x with
      | nor => exact ihn p1 env1 s1 ρ1 a1 G1 W1 g4 (hE0.step hf g1) g2 g3 g5 g6 g7 (fun p2 y env2 s2 ρ2 a2 G2 W2 hy k1 k2 k3 k4 k5 k6 k7 => hQ p2 y env2 s2 ρ2 a2 G2 W2 hy (g1.trans k1) k2 k3 k4 k5 k6 k7) hx
      | exit id => exact hQ p1 (.exit id) env1 s1 ρ1 a1 G1 W1 hx g1 g2 g3 g4 g5 g6 g7
      | ret => exact hQ p1 .ret env1 s1 ρ1 a1 G1 W1 hx g1 g2 g3 g4 g5 g6 g7
  | region id ops draw =>
    intro p Qa env s ρ a G W Q h hE hE0 hR hf hd hG hW hQ
    cases draw
    · simp only [ccodeY] at h
      split at h
      · rename_i l hl
        split at h
        · rename_i pre d x args post hs
          exact yld_in hS hm hna hnb hl hs p Qa env s ρ a G W Q h hE hE0 hR hf hd hG hW hQ
        · simp only [awpY] at h
          exact base_in hS hm _ p Qa env s ρ a G W Q h hE hR hf hd hG hW hQ
      · simp only [awpY, awp] at h
    · simp only [ccodeY, awpY] at h
      exact base_in hS hm _ p Qa env s ρ a G W Q h hE hR hf hd hG hW hQ
  | _ =>
    intro p Qa env s ρ a G W Q h hE hE0 hR hf hd hG hW hQ
    simp only [ccodeY, awpY] at h
    exact base_in hS hm _ p Qa env s ρ a G W Q h hE hR hf hd hG hW hQ
end

/-! ### Functions -/
def markD (D : Nat) : Deferred := { target := .collected D, args := #[] }
def DefOk (w0 w : World) (ds : List Deferred) : Prop := ∃ Ds : List Nat, ds = Ds.map markD ∧ Ds.Nodup ∧ ∀ D ∈ Ds, w0.heap.size ≤ D ∧ w.heap[D]? = some (.deferred (some []))
theorem DefOk.step {w0 w w' : World} {s s' : St} {ρ' : Ren} {ds : List Deferred} (h : DefOk w0 w ds) (hR : R s ρ w) (hst : Step s s' ρ ρ' w w') : DefOk w0 w' ds := by
  obtain ⟨Ds, rfl, h2, h3⟩ := h
  exact ⟨Ds, rfl, h2, fun D hD => ⟨(h3 D hD).1, hst.sys hR (h3 D hD).2 rfl⟩⟩
theorem findI_spec {f : Nat} : ∀ {l : List (Nat × Nat × AY)} {n : Nat} {y : AY}, findI f l = some (n, y) → (f, n, y) ∈ l
  | [], _, _, h => by cases h
  | (g, m, z) :: r, n, y, h => by
    unfold findI at h
    split at h
    · rename_i e
      injection h with h
      obtain ⟨rfl, rfl⟩ := Prod.mk.inj h
      rw [e]
      exact List.mem_cons_self
    · exact List.mem_cons_of_mem _ (findI_spec h)
theorem iters_spec {its : List Nat} {f m : Nat} {y : AY} (h : (f, m, y) ∈ iters P its) : ∃ fn c, P.funcs[f]? = some fn ∧ callable P f = true ∧ fn.results = #[] ∧ fn.body = some c ∧ m = fn.ntmps ∧ y = ccodeY P c := by
  unfold iters at h
  obtain ⟨g, _, hg⟩ := List.mem_filterMap.1 h
  split at hg
  · rename_i fn hfn
    split at hg
    · rename_i hc
      simp only [Bool.and_eq_true, beq_iff_eq] at hc
      obtain ⟨c, hb, e⟩ := Option.map_eq_some_iff.1 hg
      simp only [Prod.mk.injEq] at e
      obtain ⟨rfl, rfl, rfl⟩ := e
      exact ⟨fn, c, hfn, hc.1, Array.eq_empty_of_size_eq_zero hc.2, hb, rfl, rfl⟩
    · cases hg
  · cases hg
theorem enters_of_callable {f : Nat} (hcal : callable P f = true) (args : Array Value) (w : World) : (callFunc f args).run P w = .ok (.enter f args) w := by
  unfold callable at hcal
  cases hfn : P.funcs[f]? with
  | none => simp [hfn] at hcal
  | some fn =>
    simp only [hfn, Bool.and_eq_true, bne_iff_ne, ne_eq] at hcal
    cases hbd : fn.body with
    | none => simp [hbd] at hcal
    | some b => simp [callFunc, hfn, hcal.2, hbd]
theorem results_no {fn : Func} (h : fn.results = #[]) (tmps : Array Value) (w : World) : ∃ v, (results fn tmps).run P w = .ok v w := by
  unfold results
  rw [h]
  simp

theorem rf_in {call : Nat → List AV → St → Option (AV × St)} (hS : Sound P call) (hm : P.follows .mixedOrders = true) {its : List Nat} {w0 : World} {g : Operand} {ps : Array Tmp} {asg body : Code} (hg : (copd g).ok = true) (hna : noDefer asg = true) (hnb : noDefer body = true)
    (Qa : AEx → Env → St → Prop) (env : Env) (s : St) (ρ : Ren) (a : Act) (w : World) (Q : Exit → Act → World → Prop)
    (h : awpI call (.rf (copd g) ps.toList (ccode P asg) (ccode P body) (iters P its)) Qa env s) (hE : EnvR ρ env a.tmps) (hR : R s ρ w) (hf : Free s ρ) (hd : DefOk w0 w a.defers) (hsz : w0.heap.size ≤ w.heap.size)
    (hQ : ∀ x env' s' ρ' a' w', Qa x env' s' → Step s s' ρ ρ' w w' → R s' ρ' w' → Free s' ρ' → EnvR ρ' env' a'.tmps → DefOk w0 w' a'.defers → Q x.out a' w') : (Code.rangeFunc g ps asg body).wpIn (fenceAt none) n P Q a w := by
  simp only [awpI] at h
  have hgv := aev_rel hE hg
  split at h
  · rename_i f caps hav
    rw [hav] at hgv
    simp only [VR] at hgv
    obtain ⟨lb, hval, hcaps⟩ := hgv
    split at h
    · rename_i m y hfi
      obtain ⟨fn, c, hfn, hcal, hres, hbd, rfl, rfl⟩ := iters_spec (findI_spec hfi)
      refine wpIn_rangeFunc ?_
      intro fnid _
      have h := h (w.heap.size + 1)
      obtain ⟨W1, hW1⟩ : ∃ W1, (w.alloc (.deferred (some []))).alloc (objL fnid a.tmps ps asg body w.heap.size none) = W1 := ⟨_, rfl⟩
      have hL1 : W1.heap[w.heap.size + 1]? = some (objL fnid a.tmps ps asg body w.heap.size none) := by
        rw [← hW1]; have := World.alloc_heap_new (w.alloc (.deferred (some []))) (objL fnid a.tmps ps asg body w.heap.size none); rwa [World.size_alloc] at this
      have hD1 : W1.heap[w.heap.size]? = some (.deferred (some [])) := by
        rw [← hW1]
        show ((w.heap.push _).push _)[w.heap.size]? = _
        rw [Array.getElem?_push_lt (by simp)]
        simp
      have hcl : Clean w W1 := by rw [← hW1]; exact (clean_pushW w _).trans (clean_pushW _ _)
      have hst1 : Step s s ρ ρ w W1 := hcl.step s ρ
      have hR1 : R s ρ W1 := hR.clean hcl
      refine ⟨w.heap.size + 1, [markD w.heap.size], W1, { target := .fn (.func f) lb.toArray, args := #[.func (.yield (w.heap.size + 1)) #[] #[]] }, W1, f, #[.func (.yield (w.heap.size + 1)) #[] #[]] ++ lb.toArray, W1, ?_, ?_, fun _ _ => trivial, ?_, fun q => by simp [fenceAt, Fence.wide] at q, ?_⟩
      · rw [← hW1]; exact run_enterLoop_outer _ _ _ _ _
      · simp only [resolve, hval]
        simp [Deferred.ofValue, Act.eval]
      · simp [invoke, enters_of_callable hcal]
      · refine callsIn_of_wp (F := fenceAt none) hfn hbd trivial ?_
        have hen := env_start (ρ := ρ) (args := .yd (w.heap.size + 1) :: caps) (cargs := .func (.yield (w.heap.size + 1)) #[] #[] :: lb) (VRs_cons.2 ⟨by simp [VR], hcaps⟩) fn.ntmps
        have hcons : (Value.func (.yield (w.heap.size + 1)) #[] #[] :: lb).toArray = #[Value.func (.yield (w.heap.size + 1)) #[] #[]] ++ lb.toArray := by simp
        rw [hcons] at hen
        refine awpY_in (k := w.heap.size + 1) (D := w.heap.size) (fnid := fnid) (tmps0 := a.tmps) (ps := ps) hS hm hna hnb c none _ _ s ρ { tmps := _, defers := [] } W1 W1 _ h hen hE hR1 hf rfl hL1 (putObj_self hL1).symm fun p x env' s' ρ' a' G' W' hq g1 g2 g3 g4 g5 g6 g7 => ?_
        obtain ⟨hx, hq⟩ := hq
        obtain ⟨v, hv⟩ := results_no (P := P) hres a'.tmps W'
        have hrp : rangePost (fenceAt none) n P (w.heap.size + 1) Q { a with defers := [markD w.heap.size] ++ a.defers } (.returned v) W' := by
          have hat : W'.heap[w.heap.size + 1]? = some (objL fnid a.tmps ps asg body w.heap.size p) := by rw [g7]; exact putObj_at g6
          have hstW : ∀ o, Step s s' ρ ρ' w (W'.putObj (w.heap.size + 1) o) := fun o => by
            rw [g7, putObj_put]
            exact (hst1.trans g1).putNew (by omega) o
          have hRW : ∀ o, R s' ρ' (W'.putObj (w.heap.size + 1) o) := fun o => by
            rw [g7, putObj_put]
            exact g2.sys g6 (objL_sys ..) o
          have hDW : ∀ o, DefOk w0 (W'.putObj (w.heap.size + 1) o) ([markD w.heap.size] ++ a.defers) := fun o => by
            obtain ⟨Ds, e1, e2, e3⟩ := hd.step hR (hstW o)
            refine ⟨w.heap.size :: Ds, by rw [e1]; rfl, List.nodup_cons.2 ⟨fun hmem => ?_, e2⟩, fun D hD => ?_⟩
            · obtain ⟨Ds', e1', e2', e3'⟩ := hd
              have : Ds' = Ds := by
                have hinj : Function.Injective markD := fun i j e => by simpa [markD] using e
                exact (List.map_inj_right (fun _ _ e => hinj e)).1 (e1'.symm.trans e1)
              subst this
              have := (Array.getElem?_eq_some_iff.1 (e3' _ hmem).2).1
              omega
            · rcases List.mem_cons.1 hD with rfl | hD
              · refine ⟨hsz, ?_⟩
                rw [g7, putObj_put, World.putObj_heap_other (by omega)]
                exact g1.sys hR1 hD1 rfl
              · exact e3 D hD
          cases p with
          | none =>
            refine ⟨_, _, run_endLoop hat (by simp), ?_⟩
            exact hQ .nor env s' ρ' _ _ hq (hstW _) (hRW _) g3 (hE.step hf (hst1.trans g1)) (hDW _)
          | some z =>
            cases z with
            | nor =>
              refine ⟨_, _, run_endLoop hat (by simp), ?_⟩
              exact wpIn_skip (hQ .nor env s' ρ' _ _ hq (hstW _) (hRW _) g3 (hE.step hf (hst1.trans g1)) (hDW _))
            | exit i =>
              refine ⟨_, _, run_endLoop hat (by simp), ?_⟩
              exact wpIn_exit (hQ (.exit i) env s' ρ' _ _ hq (hstW _) (hRW _) g3 (hE.step hf (hst1.trans g1)) (hDW _))
            | ret =>
              refine ⟨_, _, run_endLoop hat (by simp), ?_⟩
              exact wpIn_ret (hQ .ret env s' ρ' _ _ hq (hstW _) (hRW _) g3 (hE.step hf (hst1.trans g1)) (hDW _))
        cases x with
        | nor => exact ⟨g5, v, hv, hrp⟩
        | ret => exact ⟨g5, v, hv, hrp⟩
        | exit i => exact absurd rfl (hx i)
    · exact h.elim
  · exact h.elim
end Go.AM
end
/-
  Ranges over functions, the fourth part: whole functions. Own work of this project.
-/
section
namespace Go.AM
open Go

variable {P : Program} {ρ : Ren} {n : Nat}

theorem awpI_base {call : Nat → List AV → St → Option (AV × St)} (hS : Sound P call) (hm : P.follows .mixedOrders = true) {w0 : World} (c : Code) (Qa : AEx → Env → St → Prop) (env : Env) (s : St) (ρ : Ren) (a : Act) (w : World) (Q : Exit → Act → World → Prop)
    (h : awp call (ccode P c) Qa env s) (hE : EnvR ρ env a.tmps) (hR : R s ρ w) (hf : Free s ρ) (hd : DefOk w0 w a.defers)
    (hQ : ∀ x env' s' ρ' a' w', Qa x env' s' → Step s s' ρ ρ' w w' → R s' ρ' w' → Free s' ρ' → EnvR ρ' env' a'.tmps → DefOk w0 w' a'.defers → Q x.out a' w') : c.wpIn (fenceAt none) n P Q a w :=
  awp_in hS hm (df := a.defers) c Qa env s ρ a w Q (.inl rfl) h hE hR hf rfl fun x env' s' ρ' a' w' hq g1 g2 g3 g4 g5 => hQ x env' s' ρ' a' w' hq g1 g2 g3 g4 (by rw [g5]; exact hd.step hR g1)
theorem awpI_in {call : Nat → List AV → St → Option (AV × St)} (hS : Sound P call) (hm : P.follows .mixedOrders = true) {its : List Nat} {w0 : World} : ∀ (c : Code) (Qa : AEx → Env → St → Prop) (env : Env) (s : St) (ρ : Ren) (a : Act) (w : World) (Q : Exit → Act → World → Prop),
    awpI call (ccodeI P its c) Qa env s → EnvR ρ env a.tmps → R s ρ w → Free s ρ → DefOk w0 w a.defers → w0.heap.size ≤ w.heap.size →
    (∀ x env' s' ρ' a' w', Qa x env' s' → Step s s' ρ ρ' w w' → R s' ρ' w' → Free s' ρ' → EnvR ρ' env' a'.tmps → DefOk w0 w' a'.defers → Q x.out a' w') → c.wpIn (fenceAt none) n P Q a w := by
  intro c
  induction c with
  | seq c d ihc ihd =>
    intro Qa env s ρ a w Q h hE hR hf hd hsz hQ
    simp only [ccodeI] at h
    split at h
    · simp only [awpI] at h
      refine wpIn_seq (ihc _ env s ρ a w _ h hE hR hf hd hsz fun x env1 s1 ρ1 a1 w1 hx g1 g2 g3 g4 g5 => ?_)
      cases x with
      | nor => exact ihd Qa env1 s1 ρ1 a1 w1 Q hx g4 g2 g3 g5 (Nat.le_trans hsz g1.size) fun y env2 s2 ρ2 a2 w2 hy k1 k2 k3 k4 k5 => hQ y env2 s2 ρ2 a2 w2 hy (g1.trans k1) k2 k3 k4 k5
      | exit id => exact hQ (.exit id) env1 s1 ρ1 a1 w1 hx g1 g2 g3 g4 g5
      | ret => exact hQ .ret env1 s1 ρ1 a1 w1 hx g1 g2 g3 g4 g5
    · simp only [awpI] at h
      exact awpI_base hS hm _ Qa env s ρ a w Q h hE hR hf hd hQ
  | cond q c d ihc ihd =>
    intro Qa env s ρ a w Q h hE hR hf hd hsz hQ
    simp only [ccodeI] at h
    split at h
    · split at h
      · rename_i hok
        simp only [awpI] at h
        have hv := aev_rel hE hok
        split at h
        · rename_i hb
          rw [hb] at hv
          simp only [VR] at hv
          exact wpIn_cond_true hv (ihc Qa env s ρ a w Q h hE hR hf hd hsz hQ)
        · rename_i hb
          rw [hb] at hv
          simp only [VR] at hv
          exact wpIn_cond_false hv (ihd Qa env s ρ a w Q h hE hR hf hd hsz hQ)
        · exact h.elim
      · simp only [awpI, awp] at h
    · simp only [awpI] at h
      exact awpI_base hS hm _ Qa env s ρ a w Q h hE hR hf hd hQ
  | block id c ih =>
    intro Qa env s ρ a w Q h hE hR hf hd hsz hQ
    simp only [ccodeI] at h
    split at h
    · simp only [awpI] at h
      refine wpIn_block (ih _ env s ρ a w _ h hE hR hf hd hsz fun x env1 s1 ρ1 a1 w1 hx g1 g2 g3 g4 g5 => ?_)
      cases x with
      | nor => exact hQ .nor env1 s1 ρ1 a1 w1 hx g1 g2 g3 g4 g5
      | exit i =>
        simp only at hx
        by_cases hi : i = id
        · rw [if_pos hi] at hx
          simp only [AEx.out, Exit.inBlock, if_pos hi]
          exact hQ .nor env1 s1 ρ1 a1 w1 hx g1 g2 g3 g4 g5
        · rw [if_neg hi] at hx
          simp only [AEx.out, Exit.inBlock, if_neg hi]
          exact hQ (.exit i) env1 s1 ρ1 a1 w1 hx g1 g2 g3 g4 g5
      | ret => exact hQ .ret env1 s1 ρ1 a1 w1 hx g1 g2 g3 g4 g5
    · simp only [awpI] at h
      exact awpI_base hS hm _ Qa env s ρ a w Q h hE hR hf hd hQ
  | loop c ih =>
    intro Qa env s ρ a w Q h hE hR hf hd hsz hQ
    simp only [ccodeI] at h
    split at h
    · simp only [awpI] at h
      obtain ⟨m, h⟩ := h
      refine wpIn_loop_rounds m ?_
      induction m generalizing env s ρ a w with
      | zero => exact h.elim
      | succ m ihn =>
        simp only [arounds] at h
        simp only [Code.roundsIn]
        refine ih _ env s ρ a w _ h hE hR hf hd hsz fun x env1 s1 ρ1 a1 w1 hx g1 g2 g3 g4 g5 => ?_
        cases x with
        | nor => exact ihn env1 s1 ρ1 a1 w1 g4 g2 g3 g5 (Nat.le_trans hsz g1.size) (fun y env2 s2 ρ2 a2 w2 hy k1 k2 k3 k4 k5 => hQ y env2 s2 ρ2 a2 w2 hy (g1.trans k1) k2 k3 k4 k5) hx
        | exit id => exact hQ (.exit id) env1 s1 ρ1 a1 w1 hx g1 g2 g3 g4 g5
        | ret => exact hQ .ret env1 s1 ρ1 a1 w1 hx g1 g2 g3 g4 g5
    · simp only [awpI] at h
      exact awpI_base hS hm _ Qa env s ρ a w Q h hE hR hf hd hQ
  | rangeFunc g ps asg body _ _ =>
    intro Qa env s ρ a w Q h hE hR hf hd hsz hQ
    simp only [ccodeI] at h
    split at h
    · rename_i hc
      simp only [Bool.and_eq_true] at hc
      exact rf_in hS hm hc.1.1 hc.1.2 hc.2 Qa env s ρ a w Q h hE hR hf hd hsz hQ
    · simp only [awpI, awp] at h
  | _ =>
    intro Qa env s ρ a w Q h hE hR hf hd hsz hQ
    simp only [ccodeI, awpI] at h
    exact awpI_base hS hm _ Qa env s ρ a w Q h hE hR hf hd hQ

/-- The way out: the marks are taken, the results read. -/
theorem leaves_in {fn : Func} {tmps : Array Value} {Rp : Ending → World → Prop} {w0 : World} {s s' : St} {ρ' : Ren} (hfin : ∀ w, Step s s' ρ ρ' w0 w → R s' ρ' w → ∃ v, (results fn tmps).run P w = .ok v w ∧ Rp (.returned v) w) : ∀ (Ds : List Nat) (w : World), Ds.Nodup → (∀ D ∈ Ds, w0.heap.size ≤ D ∧ w.heap[D]? = some (.deferred (some []))) → Step s s' ρ ρ' w0 w → R s' ρ' w →
    LeavesInM (fenceAt none) n P fn tmps Rp (Ds.map markD) .returning w
  | [], w, _, _, hst, hr => hfin w hst hr
  | D :: Ds, w, hnd, hD, hst, hr => by
    obtain ⟨h1, h2⟩ := List.nodup_cons.1 hnd
    obtain ⟨h3, h4⟩ := hD D List.mem_cons_self
    refine ⟨by simp, .inl ⟨D, _, rfl, run_takeDeferred h4, leaves_in hfin Ds _ h2 (fun E hE => ⟨(hD E (List.mem_cons_of_mem _ hE)).1, ?_⟩) (hst.putNew h3 _) (hr.sys h4 rfl _)⟩⟩
    have hne : E ≠ D := fun e => h1 (by rw [← e]; exact hE)
    rw [World.putObj_heap_other hne]
    exact (hD E (List.mem_cons_of_mem _ hE)).2

/-- A contract out of the code. -/
theorem con_soundI {call : Nat → List AV → St → Option (AV × St)} (hS : Sound P call) (hm : P.follows .mixedOrders = true) {its : List Nat} {g : Nat} {fn : Func} {afn : AFnI} (hf : P.funcs[g]? = some fn) (hcal : callable P g = true) (hc : cfnI P its fn = some afn)
    {c : List AV → St → Option (AV × St)}
    (h : ∀ args s r s', c args s = some (r, s') → (Grow s s' ∧ Keeps s s') ∧ awpI call afn.body (fun x env t => (∀ i, x ≠ .exit i) ∧ ∃ f, aresults env t afn.results = some (r.ren f) ∧ Emb f s s' t) (args ++ List.replicate (afn.ntmps - args.length) .und) s) :
    SoundAt P g c := by
  intro args s r s' hcall
  obtain ⟨hg, ha⟩ := h args s r s' hcall
  unfold cfnI at hc
  split at hc
  · rename_i cd rs hb hr
    injection hc with hc; subst hc
    refine ⟨hcal, hg, fun ρ w cargs hfree hR hargs => ?_⟩
    refine (callsIn_wide (n := 0)).1 (callsIn_of_wp_marks hf hb trivial ?_)
    refine awpI_in (w0 := w) hS hm cd _ _ s ρ { tmps := _, defers := [] } w _ ha (env_start hargs fn.ntmps) hR hfree ⟨[], rfl, List.nodup_nil, fun D hD => by simp at hD⟩ (Nat.le_refl _) fun x env t ρ' a' w' hq g1 g2 g3 g4 g5 => ?_
    obtain ⟨hx, f, hres, he⟩ := hq
    obtain ⟨Ds, d1, d2, d3⟩ := g5
    have hout : LeavesInM (fenceAt none) 0 P fn a'.tmps (fun e w' => ∃ ρ' v, e = .returned v ∧ VR ρ' r v ∧ Step s s' ρ ρ' w w' ∧ R s' ρ' w') a'.defers .returning w' := by
      rw [d1]
      refine leaves_in (fun w2 k1 k2 => ?_) Ds w' d2 d3 g1 g2
      obtain ⟨cv, h1, h2⟩ := results_run g4 k2 hr hres
      obtain ⟨q1, q2⟩ := he.sound hR hfree k1 k2
      exact ⟨cv, h2, _, cv, rfl, VR.ren r cv h1, q1, q2⟩
    cases x with
    | nor => exact hout
    | ret => exact hout
    | exit i => exact absurd rfl (hx i)
  · cases hc
end Go.AM
end
/-
  Ranges over functions: rules for stepping. Own work of this project.
-/
section
namespace Go.AM
open Go

variable {call : Nat → List AV → St → Option (AV × St)} {env : Env} {s t : St}

/-! ### Less is asked -/
theorem aroundsY_mono {body : YP → (YP → AEx → Env → St → Prop) → Env → St → Prop} (hb : ∀ (p : YP) (Q Q' : YP → AEx → Env → St → Prop), (∀ p x e t, Q p x e t → Q' p x e t) → ∀ e t, body p Q e t → body p Q' e t) {Q Q' : YP → AEx → Env → St → Prop} (h : ∀ p x e t, Q p x e t → Q' p x e t) : ∀ (n : Nat) {p : YP} {e : Env} {t : St}, aroundsY body Q n p e t → aroundsY body Q' n p e t
  | 0, _, _, _, k => k.elim
  | n + 1, p, e, t, k => hb _ _ _ (fun p x e t q => by
      cases x with
      | nor => exact aroundsY_mono hb h n q
      | _ => exact h _ _ e t q) _ _ k
theorem awpY_mono {yv : AV} {Yd : List AV → (YP → AV → St → Prop) → St → Prop} (hy : ∀ args K K' t, (∀ p v t, K p v t → K' p v t) → Yd args K t → Yd args K' t) : ∀ (c : AY) {p : YP} {Q Q' : YP → AEx → Env → St → Prop}, (∀ p x e t, Q p x e t → Q' p x e t) → ∀ {e : Env} {t : St}, awpY call yv Yd c p Q e t → awpY call yv Yd c p Q' e t
  | .base c, p, Q, Q', h, e, t, k => awp_mono c (h p) k
  | .seq a b, p, Q, Q', h, e, t, k => awpY_mono hy a (fun p x e t q => by
      cases x with
      | nor => exact awpY_mono hy b h q
      | _ => exact h _ _ e t q) k
  | .cond c a b, p, Q, Q', h, e, t, k => by
    simp only [awpY] at k ⊢
    split at k
    · exact awpY_mono hy a h k
    · exact awpY_mono hy b h k
    · exact k.elim
  | .block i c, p, Q, Q', h, e, t, k => awpY_mono hy c (fun p x e t q => by
      cases x with
      | exit j =>
        simp only at q ⊢
        split at q
        · rename_i hj; rw [if_pos hj]; exact h _ _ e t q
        · rename_i hj; rw [if_neg hj]; exact h _ _ e t q
      | _ => exact h _ _ e t q) k
  | .loop c, p, Q, Q', h, e, t, k => by
    simp only [awpY] at k ⊢
    obtain ⟨n, k⟩ := k
    exact ⟨n, aroundsY_mono (body := awpY call yv Yd c) (fun p Q Q' h e t k => awpY_mono hy c h k) h n k⟩
  | .yld pre d x args post, p, Q, Q', h, e, t, k => by
    simp only [awpY] at k ⊢
    exact awops_mono (fun e t q => ⟨q.1, q.2.1, hy _ _ _ _ (fun p v t q => awops_mono (fun e t q => h _ _ e t q) post _ _ q) q.2.2⟩) pre _ _ k
theorem roundY_mono {ps : List Nat} {asg body : AC} {env : Env} (args : List AV) (K K' : YP → AV → St → Prop) (t : St) (h : ∀ p v t, K p v t → K' p v t) (k : roundY call ps asg body env args K t) : roundY call ps asg body env args K' t :=
  ⟨k.1, awp_mono asg (fun x e t q => ⟨q.1, awp_mono body (fun x e t q => by
    cases x with
    | nor => exact h _ _ t q
    | _ => exact h _ _ t q) q.2⟩) k.2⟩
theorem awpI_mono : ∀ (c : AI) {Q Q' : AEx → Env → St → Prop}, (∀ x e t, Q x e t → Q' x e t) → ∀ {e : Env} {t : St}, awpI call c Q e t → awpI call c Q' e t
  | .base c, Q, Q', h, e, t, k => awp_mono c h k
  | .seq a b, Q, Q', h, e, t, k => awpI_mono a (fun x e t q => by
      cases x with
      | nor => exact awpI_mono b h q
      | _ => exact h _ e t q) k
  | .cond c a b, Q, Q', h, e, t, k => by
    simp only [awpI] at k ⊢
    split at k
    · exact awpI_mono a h k
    · exact awpI_mono b h k
    · exact k.elim
  | .block i c, Q, Q', h, e, t, k => awpI_mono c (fun x e t q => by
      cases x with
      | exit j =>
        simp only at q ⊢
        split at q
        · rename_i hj; rw [if_pos hj]; exact h _ e t q
        · rename_i hj; rw [if_neg hj]; exact h _ e t q
      | _ => exact h _ e t q) k
  | .loop c, Q, Q', h, e, t, k => by
    simp only [awpI] at k ⊢
    obtain ⟨n, k⟩ := k
    exact ⟨n, arounds_mono (b := awpI call c) (fun h _ _ k => awpI_mono c h k) h n n (Nat.le_refl n) k⟩
  | .rf g ps asg body its, Q, Q', h, e, t, k => by
    simp only [awpI] at k ⊢
    split at k
    · split at k
      · intro l
        refine awpY_mono roundY_mono _ (fun p x _ t q => ⟨q.1, ?_⟩) (k l)
        have q := q.2
        cases p with
        | none => exact h _ _ t q
        | some x => exact h _ _ t q
      · exact k.elim
    · exact k.elim

/-! ### Rules -/
section
variable {Q : AEx → Env → St → Prop}
theorem wi_base (c : AC) : awpI call (.base c) Q env s = awp call c Q env s := nrfl rfl
theorem wi_seq (a b : AI) : awpI call (.seq a b) Q env s = awpI call a (fun x e t => match x with
    | .nor => awpI call b Q e t
    | x => Q x e t) env s := nrfl rfl
theorem wi_block (i : Nat) (c : AI) : awpI call (.block i c) Q env s = awpI call c (fun x e t => match x with
    | .exit j => if j = i then Q .nor e t else Q (.exit j) e t
    | x => Q x e t) env s := nrfl rfl
theorem wi_cond (c : AO) (a b : AI) : awpI call (.cond c a b) Q env s = cstep (aev env c) (awpI call a Q env s) (awpI call b Q env s) := by
  simp only [awpI, cstep] <;> (generalize aev env c = v; cases v <;> first | rfl | (rename_i b; cases b <;> rfl))
def lwpI (call : Nat → List AV → St → Option (AV × St)) (c : AI) (env : Env) (s : St) [h : HQ] : Prop := awpI call (.loop c) h.q env s
theorem wi_loop (c : AI) : awpI call (.loop c) Q env s = @lwpI call c env s ⟨Q⟩ := nrfl rfl
def rfwp (call : Nat → List AV → St → Option (AV × St)) (g : AO) (ps : List Nat) (asg body : AC) (its : List (Nat × Nat × AY)) (env : Env) (s : St) [h : HQ] : Prop := awpI call (.rf g ps asg body its) h.q env s
theorem wi_rf (g : AO) (ps : List Nat) (asg body : AC) (its : List (Nat × Nat × AY)) : awpI call (.rf g ps asg body its) Q env s = @rfwp call g ps asg body its env s ⟨Q⟩ := nrfl rfl
theorem rf_start {g : AO} {ps : List Nat} {asg body : AC} {its : List (Nat × Nat × AY)} {f n : Nat} {caps : List AV} {y : AY} (hg : aev env g = .fn f caps) (hf : findI f its = some (n, y))
    (h : ∀ l, awpY call (.yd l) (roundY call ps asg body env) y none (fun p x _ t => (∀ i, x ≠ .exit i) ∧ match p with
          | none => Q .nor env t
          | some x => Q x env t) ((.yd l :: caps) ++ List.replicate (n - (AV.yd l :: caps).length) .und) s) : @rfwp call g ps asg body its env s ⟨Q⟩ := by
  show awpI call (.rf g ps asg body its) Q env s
  simp only [awpI]
  rw [hg]
  simp only
  rw [hf]
  exact h
end

section
variable {yv : AV} {Yd : List AV → (YP → AV → St → Prop) → St → Prop} {p : YP} {Q : YP → AEx → Env → St → Prop}
theorem wy_base (c : AC) : awpY call yv Yd (.base c) p Q env s = awp call c (Q p) env s := nrfl rfl
theorem wy_seq (a b : AY) : awpY call yv Yd (.seq a b) p Q env s = awpY call yv Yd a p (fun p x e t => match x with
    | .nor => awpY call yv Yd b p Q e t
    | x => Q p x e t) env s := nrfl rfl
theorem wy_block (i : Nat) (c : AY) : awpY call yv Yd (.block i c) p Q env s = awpY call yv Yd c p (fun p x e t => match x with
    | .exit j => if j = i then Q p .nor e t else Q p (.exit j) e t
    | x => Q p x e t) env s := nrfl rfl
theorem wy_cond (c : AO) (a b : AY) : awpY call yv Yd (.cond c a b) p Q env s = cstep (aev env c) (awpY call yv Yd a p Q env s) (awpY call yv Yd b p Q env s) := by
  simp only [awpY, cstep] <;> (generalize aev env c = v; cases v <;> first | rfl | (rename_i b; cases b <;> rfl))
class HY where
  q : YP → AEx → Env → St → Prop
def lwpY (call : Nat → List AV → St → Option (AV × St)) (yv : AV) (Yd : List AV → (YP → AV → St → Prop) → St → Prop) (c : AY) (p : YP) (env : Env) (s : St) [h : HY] : Prop := awpY call yv Yd (.loop c) p h.q env s
theorem wy_loop (c : AY) : awpY call yv Yd (.loop c) p Q env s = @lwpY call yv Yd c p env s ⟨Q⟩ := nrfl rfl
class HK2 where
  k : YP → AV → St → Prop
def ystep (Yd : List AV → (YP → AV → St → Prop) → St → Prop) (args : List AV) (t : St) [h : HK2] : Prop := Yd args h.k t
theorem wy_yld (pre : List AOper) (d : Option Nat) (x : AO) (args : List AO) (post : List AOper) : awpY call yv Yd (.yld pre d x args post) p Q env s = awops call s.next pre (fun e t => aev e x = yv ∧ p = none ∧ @ystep Yd (args.map (aev e)) t ⟨fun p' v t' => awops call t'.next post (Q p' .nor) (putE e d v) t'⟩) env s := nrfl rfl
theorem lwpY_inv (hy : ∀ args K K' t, (∀ p v t, K p v t → K' p v t) → Yd args K t → Yd args K' t) {c : AY} (I : Nat → Env → St → Prop) {n : Nat} (h : I n env s)
    (step : ∀ n e t, I n e t → awpY call yv Yd c none (fun p x e' t' => match x with
      | .nor => p = none ∧ ∃ m, m < n ∧ I m e' t'
      | x => Q p x e' t') e t) : @lwpY call yv Yd c none env s ⟨Q⟩ := by
  refine ⟨n + 1, ?_⟩
  induction n using Nat.strongRecOn generalizing env s with
  | _ n ih =>
    have up : ∀ (k m : Nat) {p : YP} {e : Env} {t : St}, m ≤ k → aroundsY (awpY call yv Yd c) Q m p e t → aroundsY (awpY call yv Yd c) Q k p e t := by
      intro k
      induction k with
      | zero => intro m p e t hm q; obtain rfl : m = 0 := by omega
                exact q
      | succ k ihk =>
        intro m p e t hm q
        cases m with
        | zero => exact q.elim
        | succ m =>
          exact awpY_mono hy c (fun p x e t q => by
            cases x with
            | nor => exact ihk m (by omega) q
            | _ => exact q) q
    exact awpY_mono hy c (fun p x e t q => by
      cases x with
      | nor =>
        obtain ⟨rfl, m, hm, q⟩ := q
        exact up n (m + 1) hm (ih m hm q)
      | _ => exact q) (step n env s h)
end
end Go.AM
end
/-
  Contracts of functions that range over functions. Own work of this project.
-/
section
namespace Go.AM
open Go

variable {β : Type}
theorem con_keepI {P : Program} {call : Nat → List AV → St → Option (AV × St)} (hS : Sound P call) (hm : P.follows .mixedOrders = true) {its : List Nat} {g : Nat} {fn : Func} {afn : AFnI} (hf : P.funcs[g]? = some fn) (hcal : callable P g = true) (hc : cfnI P its fn = some afn)
    {c : Con} (h : ∀ args s r s', c args s = some (r, s') → s' = s.lowed ∧ r.ground = true ∧ args.length ≤ afn.ntmps ∧ ∀ env : Env, elen env = afn.ntmps → (∀ i v, args[i]? = some v → E env i = v) →
      awpI call afn.body (fun x env t => (∀ i, x ≠ .exit i) ∧ aresults env t afn.results = some r ∧ Keep s t) env s) : SoundAt P g c := by
  refine con_soundI hS hm hf hcal hc fun args s r s' hh => ?_
  obtain ⟨rfl, hg, hl, k⟩ := h args s r s' hh
  refine ⟨gk_lowed s, start_env hl fun env h1 h2 => awpI_mono _ (fun x e t q => ?_) (k env h1 h2)⟩
  obtain ⟨q1, q2, q3⟩ := q
  obtain ⟨f, _, hf⟩ := emb_keep q3
  exact ⟨q1, f, by rw [q2, ground_ren f hg], hf⟩
theorem con_freshI {P : Program} {call : Nat → List AV → St → Option (AV × St)} (hS : Sound P call) (hm : P.follows .mixedOrders = true) {its : List Nat} {g : Nat} {fn : Func} {afn : AFnI} (hf : P.funcs[g]? = some fn) (hcal : callable P g = true) (hc : cfnI P its fn = some afn)
    {D : Cod β} {p : List AV → St → Option (List β × Option AV)} (h : ∀ args s l e, p args s = some (l, e) → (∀ x, e = some x → x.plain = true) ∧ args.length ≤ afn.ntmps ∧ ∀ env : Env, elen env = afn.ntmps → (∀ i v, args[i]? = some v → E env i = v) →
      awpI call afn.body (fun x env t => (∀ i, x ≠ .exit i) ∧ Keep s t ∧ ∃ v, aresults env t afn.results = some (mkR e v) ∧ Own D s t v l) env s) : SoundAt P g (conF D p) := by
  refine con_soundI hS hm hf hcal hc fun args s r s' hh => ?_
  obtain ⟨l, e, hp, rfl, rfl⟩ := conF_some hh
  obtain ⟨he, hl, k⟩ := h args s l e hp
  refine ⟨gk_fresh D s l, start_env hl fun env h1 h2 => awpI_mono _ (fun x env' t q => ?_) (k env h1 h2)⟩
  obtain ⟨q1, q2, v, q3, q4⟩ := q
  obtain ⟨f, _, hf, hv⟩ := emb_fresh q2 q4
  exact ⟨q1, f, by rw [q3, mkR_ren he, hv], hf⟩
end Go.AM
end
/-
  Cutting a walk in parts: behind the first part an own statement about registers and memory. Own work of this project.
-/
section
set_option maxRecDepth 100000
namespace Go.AM
open Go

end Go.AM
end
/-
  Rules for ranges over functions and for new lists; lists of integers. Own work of this project.
-/
section
set_option maxRecDepth 100000
set_option maxHeartbeats 8000000
namespace Go.AM
open Go Go.Proofs

variable {s t u : St}
theorem getsome {α : Type} {l : List α} {i : Nat} (h : i < l.length) : ∃ x, l[i]? = some x := ⟨_, List.getElem?_eq_getElem h⟩
theorem getlt {α : Type} {l : List α} {i : Nat} {x : α} (h : l[i]? = some x) : i < l.length := (List.getElem?_eq_some_iff.1 h).1
theorem rf_gen {call : Nat → List AV → St → Option (AV × St)} {g : AO} {ps : List Nat} {asg body : AC} {its : List (Nat × Nat × AY)} {env : Env} {Q : AEx → Env → St → Prop} (P : Env → Prop) (h : P env) (k : ∀ e, P e → @rfwp call g ps asg body its e s ⟨Q⟩) : @rfwp call g ps asg body its env s ⟨Q⟩ := k env h
theorem ystep_round {call : Nat → List AV → St → Option (AV × St)} {ps : List Nat} {asg body : AC} {env : Env} {args : List AV} {K : YP → AV → St → Prop} (h1 : args.length = ps.length) (h2 : awp call asg (fun x e t1 => x = .nor ∧ awp call body (fun x _ t2 => match x with
    | .nor => K none (.bool true) t2
    | x => K (some x) (.bool false) t2) e t1) (setPs env ps args) t) : @ystep (roundY call ps asg body env) args t ⟨K⟩ := ⟨h1, h2⟩
theorem putE_pE (env : Env) (d : Option Nat) (v : AV) : putE env d v = pE env d v := by unfold pE; rfl
theorem ap_mkfn {env : Env} (f : Nat) (caps : List AO) : apure env (.mkfn f caps) = some (.fn f (caps.map (aev env))) := nrfl rfl
theorem ap_conv {env : Env} (k : IntKind) (x : AO) : apure env (.conv k x) = (match aev env x with
    | .int _ n => some (.int k (k.wrap n))
    | _ => none) := nrfl rfl
theorem row1_lod {id : Nat} {v : AV} {own : Bool} (h : t.get id = some (.row [v] own)) : lod1 t (.ptr id 0) = some v ∧ ltN id t := ⟨by simp [lod1, h], St.get_lt h⟩
theorem row1_sto {id : Nat} {v x : AV} (h : t.get id = some (.row [v] true)) (hx : x.cells = [x] ∧ x.one = true) : sto t 1 (.ptr id 0) x = some (.und, t.put id (.row [x] true)) := by
  simp [sto, h, hx.1, hx.2, setAt]
theorem wrapI {x : Int} (h1 : -4611686018427387904 ≤ x) (h2 : x < 4611686018427387904) : IntKind.i64.wrap x = x := by
  simp only [IntKind.wrap, IntKind.signed, IntKind.bits]
  simp
  omega
theorem keep_low (s : St) : Keep s (lowd s) := ⟨Nat.le_refl _, fun _ _ => rfl, Nat.min_le_right _ _⟩
/-! ### Sorted lists of integers -/
end Go.AM
end
/-
  What a closed run by the kernel shows. Own work of this project.
-/
section
namespace Go.AM
open Go

def isTrue : Option (AV × St) → Bool
  | some (.bool true, _) => true
  | _ => false
theorem isTrue_ex {o : Option (AV × St)} (h : isTrue o = true) : ∃ s, o = some (.bool true, s) := by
  unfold isTrue at h
  split at h
  · exact ⟨_, rfl⟩
  · cases h
end Go.AM
end
/-
  Lists of unknown capacity: Insert and Delete. Own work of this project; in part printed by a program of it.
-/
section
set_option maxRecDepth 100000
set_option maxHeartbeats 8000000
namespace Go.AM
open Go Go.Proofs

variable {s t u : St}

/-! ### A list whose capacity is told, and not told again -/
/-- The list's old block is gone, its cells are in a new one. -/
def hidS (s : St) (id : Nat) (pre : List AV) : St := (s.put id .dead).push (.row pre true)
theorem hidS_next (s : St) (id : Nat) (pre : List AV) : (hidS s id pre).next = s.next + 1 := by simp [hidS]
theorem hidS_low (s : St) (id : Nat) (pre : List AV) : (hidS s id pre).low = min s.low id := by simp [hidS]
theorem hidS_new (s : St) (id : Nat) (pre : List AV) : (hidS s id pre).get s.next = some (.row pre true) := by
  have := St.get_push_new (s.put id .dead) (.row pre true)
  simpa [hidS] using this
theorem hidS_old {s : St} {id j : Nat} {pre : List AV} (hid : id < s.next) (hj : j ≠ s.next) (h : j ≠ id) : (hidS s id pre).get j = s.get j := by
  unfold hidS
  by_cases hjn : j < s.next
  · rw [St.get_push_old _ _ (by simpa using hjn), St.get_put_ne _ _ hid h]
  · have h1 : ((s.put id .dead).push (.row pre true)).get j = none := by
      cases hg : ((s.put id .dead).push (.row pre true)).get j with
      | none => rfl
      | some b =>
        have := St.get_lt hg
        simp at this
        omega
    have h2 : s.get j = none := by
      cases hg : s.get j with
      | none => rfl
      | some b =>
        have := St.get_lt hg
        omega
    rw [h1, h2]
theorem hidS_dead {s : St} {id : Nat} {pre : List AV} {b : AB} (h : s.get id = some b) : (hidS s id pre).get id = some .dead := by
  unfold hidS
  have hlt := St.get_lt h
  rw [St.get_push_old _ _ (by simpa using hlt)]
  exact St.get_put_same h
theorem hidS_grow {s : St} {id : Nat} {pre : List AV} {b : AB} (h : s.get id = some b) : Grow s (hidS s id pre) ∧ Keeps s (hidS s id pre) := by
  have hlt := St.get_lt h
  refine ⟨⟨by rw [hidS_next]; omega, fun j hj hn => ?_⟩, by rw [hidS_next]; omega, by rw [hidS_low]; omega, fun j hj hl => ?_⟩
  · by_cases e : j = id
    · subst e
      rw [hidS_dead h]
      simp
    · rw [hidS_old hlt (by omega) e]
      exact hn
  · rw [hidS_low] at hl
    exact hidS_old hlt (by omega) (by omega)
variable {P : Program} {ρ ρ1 : Ren} {w w' : World}
theorem hide_step {s t : St} {id n' k z : Nat} {cs pre post : List AV} {L : Loc} {v : Value} (hR0 : R s ρ w) (hf : ∀ i, s.next ≤ i → ρ i = none) (hg : s.get id = some (.row cs true)) (hL : ρ id = some L) (hst : Step s t ρ ρ1 w w') (hR : R t ρ1 w')
    (ht : t.get id = some (.row (pre ++ post) true)) (hgo : ∀ j, j ≠ id → t.get j = s.get j) (hnx : t.next = s.next) (hlow : min s.low id ≤ t.low) (hv : VR ρ1 (.sl id 0 n' (some k) z) v) :
    ∃ ρ2, VR ρ2 (.sl s.next 0 n' none z) v ∧ Step s (hidS s id pre) ρ ρ2 w w' ∧ R (hidS s id pre) ρ2 w' := by
  have hρ : ρ1 = ρ := by
    funext i
    exact hst.ren i (by omega)
  subst hρ
  have hlt := St.get_lt hg
  have hfn := hf s.next (Nat.le_refl _)
  have hle : ρ1.le (ρ1.set s.next L) := Ren.le_set L hfn
  have hset : ρ1.set s.next L s.next = some L := Ren.set_same _ _ _
  have hne : ∀ i, i ≠ s.next → ρ1.set s.next L i = ρ1 i := fun i h => by simp [Ren.set, h]
  refine ⟨ρ1.set s.next L, ?_, ?_, ?_⟩
  · simp only [VR] at hv ⊢
    obtain ⟨M, a, c, hM, e, h1, h2, h3⟩ := hv
    rw [hL] at hM
    injection hM with hM
    subst hM
    exact ⟨L, a, c, hset, e, h1, (fun _ h => by cases h), h3⟩
  · refine ⟨by rw [hidS_next]; omega, by rw [hidS_low]; omega, fun i hi => ?_, hst.size, hst.os, hst.tape, hst.output, hst.drawn, fun b hb H => hst.frame b hb fun i M blk h1 => H i M blk (by rw [hidS_low]; omega), fun i b h1 h2 h3 => ?_, fun i M b h1 h2 h3 h4 => ?_, fun i h1 h2 => ?_⟩
    · rw [hidS_next] at hi
      exact hne i (by omega)
    · by_cases e : i = id
      · subst e
        rw [hidS_dead hg] at h2
        injection h2 with h2
        subst h2
        cases h3
      · rw [hidS_old hlt (by omega) e] at h2
        exact ⟨b, h2, h3, fun q => q⟩
    · by_cases e : i = s.next
      · subst e
        rw [hset] at h2
        injection h2 with h2
        subst h2
        exact .inr ⟨id, L, _, by rw [hidS_low]; omega, hL, hg, rfl, rfl⟩
      · have := St.get_lt h3
        rw [hidS_next] at this
        omega
    · have e : i ≠ id := fun q => by rw [q, hL] at h2; cases h2
      exact hidS_old hlt (by omega) e
  · refine ⟨fun i M e => ?_, fun i b M e1 e2 => ?_, fun i j M N bi bj hij e1 e2 e3 e4 e5 e6 => ?_⟩
    · by_cases q : i = s.next
      · rw [q, hset] at e
        injection e with e
        subst e
        exact hR.bound id L hL
      · rw [hne i q] at e
        exact hR.bound i M e
    · by_cases q : i = s.next
      · subst q
        rw [hset] at e2
        injection e2 with e2
        subst e2
        rw [hidS_new] at e1
        injection e1 with e1
        subst e1
        have hb := BlkOk.mono hle (hR.blk id _ L ht hL)
        simp only [BlkOk] at hb ⊢
        obtain ⟨cs', e, fr, h1, h2, h3, h4, h5, h6⟩ := hb
        refine ⟨cs', e, fr, h1, h2, by rw [List.length_append] at h3; omega, fun i v hi => h4 i v ?_, h5, ?_⟩
        · rw [List.getElem?_append_left (List.getElem?_eq_some_iff.1 hi).1]
          exact hi
        · rw [List.all_append, Bool.and_eq_true] at h6
          exact h6.1
      · rw [hne i q] at e2
        by_cases qd : i = id
        · subst qd
          rw [hidS_dead hg] at e1
          injection e1 with e1
          subst e1
          simp only [BlkOk]
        · rw [hidS_old hlt q qd, ← hgo i qd] at e1
          exact BlkOk.mono hle (hR.blk i b M e1 e2)
    · have key : ∀ i M b, ρ1.set s.next L i = some M → (hidS s id pre).get i = some b → b.live = true → ∃ i', (i' = i ∨ (i = s.next ∧ i' = id)) ∧ i' ≠ s.next ∧ ρ1 i' = some M ∧ ∃ b', t.get i' = some b' ∧ b'.live = true ∧ (b.owned = true → b'.owned = true) := by
        intro i M b h1 h2 h3
        by_cases q : i = s.next
        · subst q
          rw [hset] at h1
          injection h1 with h1
          subst h1
          exact ⟨id, .inr ⟨rfl, rfl⟩, by omega, hL, _, ht, rfl, fun _ => rfl⟩
        · rw [hne i q] at h1
          by_cases qd : i = id
          · subst qd
            rw [hidS_dead hg] at h2
            injection h2 with h2
            subst h2
            cases h3
          · rw [hidS_old hlt q qd, ← hgo i qd] at h2
            exact ⟨i, .inl rfl, q, h1, b, h2, h3, fun q => q⟩
      obtain ⟨i', hi', hin, m1, b1, g1, l1, o1⟩ := key i M bi e1 e3 (AB.live_of_owned e5)
      obtain ⟨j', hj', hjn, m2, b2, g2, l2, _⟩ := key j N bj e2 e4 e6
      refine hR.inj i' j' M N b1 b2 ?_ m1 m2 g1 g2 (o1 e5) l2
      intro e
      subst e
      have hid1 : i = id → False := fun q => by
        subst q
        rw [hidS_dead hg] at e3
        injection e3 with e3
        subst e3
        cases e5
      have hid2 : j = id → False := fun q => by
        subst q
        rw [hidS_dead hg] at e4
        injection e4 with e4
        subst e4
        cases e6
      rcases hi' with rfl | ⟨rfl, rfl⟩
      · rcases hj' with q | ⟨q1, q2⟩
        · exact hij q
        · exact hid1 q2
      · rcases hj' with q | ⟨q1, q2⟩
        · exact hid2 q.symm
        · exact hij q1.symm
theorem kill_step {s t : St} {id : Nat} {cs pre : List AV} {L : Loc} (hg : s.get id = some (.row cs true)) (hL : ρ id = some L) (hst : Step s t ρ ρ1 w w') (hR : R t ρ1 w')
    (ht : t.get s.next = some (.row pre true)) (hgo : ∀ j, j < s.next → t.get j = s.get j) (hnx : t.next = s.next + 1) (hlow : min s.low id ≤ t.low) :
    Step s (hidS s id pre) ρ ρ1 w w' ∧ R (hidS s id pre) ρ1 w' := by
  have hlt := St.get_lt hg
  have key : ∀ i b, (hidS s id pre).get i = some b → b.live = true → i ≠ id ∧ t.get i = some b := fun i b h1 h2 => by
    by_cases qd : i = id
    · subst qd
      rw [hidS_dead hg] at h1
      injection h1 with h1
      subst h1
      cases h2
    · refine ⟨qd, ?_⟩
      by_cases q : i = s.next
      · subst q
        rw [hidS_new] at h1
        rw [ht, h1]
      · have := St.get_lt h1
        rw [hidS_next] at this
        rw [hidS_old hlt q qd] at h1
        rw [hgo i (by omega), h1]
  refine ⟨⟨by rw [hidS_next]; omega, by rw [hidS_low]; omega, fun i hi => ?_, hst.size, hst.os, hst.tape, hst.output, hst.drawn, fun b hb H => hst.frame b hb fun i M blk h1 => H i M blk (by rw [hidS_low]; omega), fun i b h1 h2 h3 => ?_, fun i M b h1 h2 h3 h4 => ?_, fun i h1 h2 => ?_⟩, ⟨hR.bound, fun i b M e1 e2 => ?_, fun i j M N bi bj hij e1 e2 e3 e4 e5 e6 => ?_⟩⟩
  · rw [hidS_next] at hi
    exact hst.ren i (by omega)
  · exact hst.old i b h1 (key i b h2 h3).2 h3
  · rcases hst.new i M b h1 h2 (key i b h3 h4).2 h4 with q | ⟨i0, L0, b0, q1, q2⟩
    · exact .inl q
    · exact .inr ⟨i0, L0, b0, by rw [hidS_low]; omega, q2⟩
  · have e : i ≠ id := fun q => by rw [q, hL] at h2; cases h2
    exact hidS_old hlt (by omega) e
  · by_cases hl : b.live = true
    · exact hR.blk i b M (key i b e1 hl).2 e2
    · cases b <;> first | (exact absurd rfl hl) | simp only [BlkOk]
  · exact hR.inj i j M N bi bj hij e1 e2 (key i bi e3 (AB.live_of_owned e5)).2 (key j bj e4 e6).2 e5 e6

end Go.AM
end
/-
  Insert and Delete at pairs. Own work of this project; in part printed by a program of it.
-/
section
set_option maxRecDepth 100000
set_option maxHeartbeats 8000000
namespace Go.AM
open Go Go.Proofs

variable {s t u : St}

def ovlV (s : St) (x y : AV) : Option AV := match x, y with
    | .sl i _ n _ _, .sl j _ m _ _ =>
      if i ≠ j ∧ 0 < n ∧ 0 < m then
        match s.get i, s.get j with
        | some (.row _ true), some (.row (_ :: _) true) => some (.bool false)
        | _, _ => none
      else none
    | _, _ => none
theorem ar_ovl {call : Nat → List AV → St → Option (AV × St)} {env : Env} (x y : AO) : aread call env s (.ovl x y) = ovlV s (aev env x) (aev env y) := nrfl rfl
theorem st_ovl {call : Nat → List AV → St → Option (AV × St)} {base : Nat} {d r : Option Nat} {rest : List AOper} {Q : Env → St → Prop} {env : Env} (x y : AO) : awops call base (⟨d, .ovl x y, none, r, false⟩ :: rest) Q env s = pstep (aread call env s (.ovl x y)) fun v => awops call base rest Q (pE env d v) s := st_read (by simp) rfl rfl fun _ => rfl
def appzV (s : St) (sz bytes : Nat) (z : List AV) (a x : AV) : Option (AV × St) := match x with
  | .int .i64 n => if 0 ≤ n ∧ n ≤ 9223372036854775807 ∧ z.length = sz then aappend s sz bytes a (zeros z n.toNat) n.toNat else none
  | _ => none
theorem ae_appz {call : Nat → List AV → St → Option (AV × St)} {env : Env} (sz b : Nat) (z : List AV) (a x : AO) : aeff call env s (.appz sz b z a x) = appzV s sz b z (aev env a) (aev env x) := nrfl rfl
def capV : AV → Option AV
  | .sl _ _ _ (some c) _ => some (.int .i64 (c : Int))
  | .nils => some (.int .i64 0)
  | _ => none
theorem ap_cap {env : Env} (x : AO) : apure env (.cap x) = capV (aev env x) := nrfl (by
  simp only [apure, capV]
  cases aev env x with
  | sl id off len cap z => cases cap <;> rfl
  | _ => rfl)
def clrV (s : St) (z : List AV) (x : AV) : Option (AV × St) := match x with
    | .nils => some (.tup [], s)
    | .sl id off len _ sz =>
      if len = 0 then some (.tup [], s) else
      if sz = z.length then
        match s.get id with
        | some (.row cs true) => if off + len * sz ≤ cs.length then some (.tup [], s.put id (.row (setAt cs off (zeros z len)) true)) else none
        | _ => none
      else none
    | _ => none
theorem ae_clr {call : Nat → List AV → St → Option (AV × St)} {env : Env} (z : List AV) (x : AO) : aeff call env s (.clr z x) = clrV s z (aev env x) := nrfl (by
  simp only [aeff, clrV]
  cases aev env x <;> rfl)
def slc4V (sz : Nat) (x lo hi m : AV) : Option AV := apure [] (.slc sz (.c x) (some (.c lo)) (some (.c hi)) (some (.c m)))
theorem ap_slc4 {env : Env} (sz : Nat) (x lo hi m : AO) : apure env (.slc sz x (some lo) (some hi) (some m)) = slc4V sz (aev env x) (aev env lo) (aev env hi) (aev env m) := nrfl rfl

def insC (cs : List AV) (i : Nat) (vs : List AV) : List AV := cs.take (i * 2) ++ vs ++ cs.drop (i * 2)
def delC (cs : List AV) (i : Nat) : List AV := cs.take (i * 2) ++ cs.drop ((i + 1) * 2)
theorem asN (n m : Nat) (h : n ≤ m) : asNatIn (.int .i64 (n : Int)) m = some n := asNatIn_nat rfl h
theorem slcV_lo {id off n i c : Nat} (h : i ≤ n) : slcV 2 (.sl id off n (some c) 2) (some (.int .i64 (i : Int))) none = some (.sl id (off + i * 2) (n - i) (some (c - i)) 2) := by
  simp only [slcV, if_true, optNat, asN i n h]
theorem slcV_hi {id n i c : Nat} (h : i ≤ c) : slcV 2 (.sl id 0 n (some c) 2) none (some (.int .i64 (i : Int))) = some (.sl id 0 i (some c) 2) := by
  simp only [slcV, if_true, optNat, asN i c h]
  simp
theorem slcV_lohi {id n i j c : Nat} (h : j ≤ c) (hi : i ≤ j) : slcV 2 (.sl id 0 n (some c) 2) (some (.int .i64 (i : Int))) (some (.int .i64 (j : Int))) = some (.sl id (i * 2) (j - i) (some (c - i)) 2) := by
  simp only [slcV, if_true, optNat, asN j c h, asN i j hi]
  simp
theorem slcV_lon {id off n i : Nat} (h : i ≤ n) : slcV 2 (.sl id off n none 2) (some (.int .i64 (i : Int))) none = some (.sl id (off + i * 2) (n - i) none 2) := by
  simp only [slcV, if_true, optNat, asN i n h]
theorem slcV_nil0 : slcV 2 .nils (some (.int .i64 0)) none = some .nils := rfl
theorem lenV_slI (id off n z : Nat) (c : Option Nat) : lenV (.sl id off n c z) = some (.int .i64 (n : Int)) := rfl
/-- The first step in place: the tail, one place on. -/
theorem ins1 {id n i : Nat} {c1 c2 : Option Nat} {cs : List AV} (hg : s.get id = some (.row cs true)) (hl : cs.length = n * 2) (hi : i < n) :
    copyV s 2 (.sl id ((i + 1) * 2) (n + 1 - (i + 1)) c1 2) (.sl id (i * 2) (n + 1 - i) c2 2) = some (.int .i64 ((n - i : Nat) : Int), s.put id (.row (cs.take ((i + 1) * 2) ++ cs.drop (i * 2)) true)) := by
  have hm : min (n + 1 - i) (n + 1 - (i + 1)) = n - i := by omega
  have hp : shownP s 2 (n - i) (.sl id (i * 2) (n + 1 - i) c2 2) = some (cs.drop (i * 2)) := by
    simp only [shownP, hg]
    rw [if_pos ⟨trivial, by omega⟩, if_pos (by omega), List.take_of_length_le (by rw [List.length_drop]; omega)]
  simp only [copyV, lenOf, hm, hp, hg, if_true]
  rw [if_pos (by omega)]
  congr 4
  unfold setAt
  have hd : cs.drop ((i + 1) * 2 + (cs.drop (i * 2)).length) = [] := List.drop_eq_nil_of_le (by rw [List.length_drop]; omega)
  rw [hd, List.append_nil]
/-- The second one: the new element. -/
theorem ins2 {id vid m i : Nat} {c1 : Option Nat} {cs : List AV} {a b : AV} (hg : s.get id = some (.row cs true)) (hv : s.get vid = some (.row [a, b] true)) (hl : (i + 1) * 2 ≤ cs.length) (hm : 0 < m) :
    copyV s 2 (.sl id (i * 2) m c1 2) (.sl vid 0 1 (some 1) 2) = some (.int .i64 1, s.put id (.row (cs.take (i * 2) ++ [a, b] ++ cs.drop ((i + 1) * 2)) true)) := by
  have hm' : min 1 m = 1 := by omega
  have hp : shownP s 2 1 (.sl vid 0 1 (some 1) 2) = some [a, b] := by
    simp only [shownP, hv]
    rfl
  simp only [copyV, lenOf, hm', hp, hg, if_true]
  rw [if_pos (by omega)]
  congr 4
  unfold setAt
  rw [show i * 2 + [a, b].length = (i + 1) * 2 by simp; omega]
theorem ins12 {cs : List AV} {a b : AV} {n i : Nat} (hl : cs.length = n * 2) (hi : i < n) : (cs.take ((i + 1) * 2) ++ cs.drop (i * 2)).take (i * 2) ++ [a, b] ++ (cs.take ((i + 1) * 2) ++ cs.drop (i * 2)).drop ((i + 1) * 2) = insC cs i [a, b] := by
  have h1 : (cs.take ((i + 1) * 2)).length = (i + 1) * 2 := by rw [List.length_take]; omega
  unfold insC
  rw [List.take_append_of_le_length (by omega), List.take_take, Nat.min_eq_left (by omega), List.drop_append, List.drop_eq_nil_of_le (by omega), h1, Nat.sub_self, List.drop_zero, List.nil_append]
theorem gro1 {id n i by_ : Nat} {z : List AV} {cs : List AV} (hby : by_ = 24 ∨ by_ = 40) (hz : z.length = 2) (hg : s.get id = some (.row cs true)) (hl : cs.length = n * 2) (hi : i < n) (hb : n ≤ 100000) :
    appzV s 2 by_ z (.sl id 0 i (some n) 2) (.int .i64 ((n + 1 - i : Nat) : Int)) = some (.sl s.next 0 (n + 1) none 2, s.push (.row (cs.take (i * 2) ++ zeros z (n + 1 - i)) true)) := by
  simp only [appzV]
  rw [if_pos ⟨by omega, by omega, hz⟩]
  simp only [Int.toNat_natCast, aappend, hg, if_true]
  rw [if_neg (by omega), if_pos ⟨by omega, by unfold roomBytes; rcases hby with rfl | rfl <;> omega⟩, if_neg (by omega), List.drop_zero, show i + (n + 1 - i) = n + 1 by omega]
theorem zeros_len (z : List AV) (n : Nat) : (zeros z n).length = n * z.length := by
  unfold zeros
  induction n with
  | zero => simp
  | succ n ih => rw [List.replicate_succ, List.flatten_cons, List.length_append, ih, Nat.succ_mul]; omega
/-- The tail, behind the new element, in a new block. -/
theorem gro2 {id k n i : Nat} {c1 : Option Nat} {cs rs : List AV} (hg : s.get id = some (.row cs true)) (hk : s.get k = some (.row rs true)) (hl : cs.length = n * 2) (hi : i < n) (hr : rs.length = (n + 1) * 2) :
    copyV s 2 (.sl k ((i + 1) * 2) (n + 1 - (i + 1)) none 2) (.sl id (i * 2) (n - i) c1 2) = some (.int .i64 ((n - i : Nat) : Int), s.put k (.row (rs.take ((i + 1) * 2) ++ cs.drop (i * 2)) true)) := by
  have hm : min (n - i) (n + 1 - (i + 1)) = n - i := by omega
  have hp : shownP s 2 (n - i) (.sl id (i * 2) (n - i) c1 2) = some (cs.drop (i * 2)) := by
    simp only [shownP, hg]
    rw [if_pos ⟨trivial, by omega⟩, if_pos (by omega), List.take_of_length_le (by rw [List.length_drop]; omega)]
  simp only [copyV, lenOf, hm, hp, hk, if_true]
  rw [if_pos (by omega)]
  congr 4
  unfold setAt
  have hd : rs.drop ((i + 1) * 2 + (cs.drop (i * 2)).length) = [] := List.drop_eq_nil_of_le (by rw [List.length_drop]; omega)
  rw [hd, List.append_nil]
theorem gro12 {cs : List AV} {a b : AV} {z : List AV} {n i : Nat} (hz : z.length = 2) (hl : cs.length = n * 2) (hi : i < n) : ((cs.take (i * 2) ++ zeros z (n + 1 - i)).take (i * 2) ++ [a, b] ++ (cs.take (i * 2) ++ zeros z (n + 1 - i)).drop ((i + 1) * 2)).take ((i + 1) * 2) ++ cs.drop (i * 2) = insC cs i [a, b] := by
  have h1 : (cs.take (i * 2)).length = i * 2 := by rw [List.length_take]; omega
  have h2 : (cs.take (i * 2) ++ zeros z (n + 1 - i)).take (i * 2) = cs.take (i * 2) := by rw [List.take_append_of_le_length (by omega), List.take_of_length_le (by omega)]
  unfold insC
  rw [h2]
  congr 1
  rw [List.take_append_of_le_length (by simp [h1]; omega), List.take_of_length_le (by simp [h1]; omega)]
theorem app_end {id vid n by_ : Nat} {cs : List AV} {a b : AV} (hby : by_ = 24 ∨ by_ = 40) (hg : s.get id = some (.row cs true)) (hv : s.get vid = some (.row [a, b] true)) (hl : cs.length = n * 2) (hb : n ≤ 100000) :
    appV s 2 by_ (.sl id 0 n none 2) (.sl vid 0 1 (some 1) 2) = some (.sl s.next 0 (n + 1) none 2, hidS s id (cs ++ [a, b])) := by
  have hp : shown s 2 (.sl vid 0 1 (some 1) 2) = some [a, b] := by
    simp only [shown, hv]
    rfl
  simp only [appV, hp, lenOf, aappend, hg, if_true]
  rw [if_neg (by omega), if_pos ⟨by omega, by unfold roomBytes; rcases hby with rfl | rfl <;> omega⟩, List.drop_zero, List.take_of_length_le (by omega)]
  rfl
theorem app_nil2 {vid by_ : Nat} {a b : AV} (hby : by_ = 24 ∨ by_ = 40) (hv : s.get vid = some (.row [a, b] true)) : appV s 2 by_ .nils (.sl vid 0 1 (some 1) 2) = some (.sl s.next 0 1 none 2, s.push (.row [a, b] true)) := by
  have hp : shown s 2 (.sl vid 0 1 (some 1) 2) = some [a, b] := by
    simp only [shown, hv]
    rfl
  simp only [appV, hp, lenOf, aappend]
  rw [if_neg (by omega), if_pos (by unfold roomBytes; rcases hby with rfl | rfl <;> omega)]
def conIns : List AV → St → Option (AV × St) := fun args s => match args with
  | [.nils, .int .i64 0, .sl vid 0 1 (some 1) 2] => match s.get vid with
    | some (.row [a, b] true) => some (.sl s.next 0 1 none 2, s.push (.row [a, b] true))
    | _ => none
  | [.sl id 0 n none 2, .int .i64 i, .sl vid 0 1 (some 1) 2] => match s.get id, s.get vid with
    | some (.row cs true), some (.row [a, b] true) => if id ≠ vid ∧ cs.length = n * 2 ∧ n ≤ 100000 ∧ 0 ≤ i ∧ i ≤ n then some (.sl s.next 0 (n + 1) none 2, hidS s id (insC cs i.toNat [a, b])) else none
    | _, _ => none
  | _ => none
def conDel : List AV → St → Option (AV × St) := fun args s => match args with
  | [.sl id 0 n none 2, .int .i64 i, .int .i64 j] => match s.get id with
    | some (.row cs true) => if cs.length = n * 2 ∧ n ≤ 100000 ∧ 0 ≤ i ∧ i < n ∧ j = i + 1 then some (.sl s.next 0 (n - 1) none 2, hidS s id (delC cs i.toNat)) else none
    | _ => none
  | _ => none
end Go.AM
end
/-
  Insert at numbers. Own work of this project; in part printed by a program of it.
-/
section
set_option maxRecDepth 100000
set_option maxHeartbeats 8000000
namespace Go.AM
open Go Go.Proofs

variable {s t u : St}
noncomputable def R_InsI : Con := runFn (tb []) a41
theorem s_InsI : SoundAt Try.prog 41 R_InsI := run_sound (tb_sound (l := []) (by simp)) mixed Try.func41 k41 c41
theorem n_InsI : noNxtC a41.body = true := by kernel_rfl
theorem w_InsI_r {s : St} {id n k vid ix : Nat} {cs : List AV} {a b : AV} (hg : s.get id = some (.row cs true)) (hv : s.get vid = some (.row [a, b] true)) (hne : id ≠ vid) (hl : cs.length = n * 2) (hi : ix < n) (hk : n < k) (hb : n ≤ 100000) : ∀ env : Env, elen env = a41.ntmps → (∀ i x_, [.sl id 0 n (some k) 2, .int .i64 (ix : Int), .sl vid 0 1 (some 1) 2][i]? = some x_ → E env i = x_) → awp (tb []) a41.body (fun x e t => (∀ i, x ≠ .exit i) ∧ ∃ r, aresults e t a41.results = some r ∧ r = .sl id 0 (n + 1) (some k) 2 ∧ t.get id = some (.row (insC cs ix [a, b]) true) ∧ (∀ j, j ≠ id → t.get j = s.get j) ∧ t.next = s.next ∧ min s.low id ≤ t.low) env s := by
  intro env hlen ha
  have h0 : E env 0 = _ := ha 0 _ rfl
  have h1 : E env 1 = _ := ha 1 _ rfl
  have h2 : E env 2 = _ := ha 2 _ rfl
  have hlen : elen env = _ := hlen
  simp only [a41] at hlen
  unfold a41
  try dsimp only [oO, oG]
  have n10 : (((1 : Nat) : Int) = 0) = False := eq_false (by decide)
  have zin := eq_false (show ¬ (ix : Int) = (n : Int) by omega)
  have w1 : IntKind.i64.wrap ((n : Int) + ((1 : Nat) : Int)) = ((n + 1 : Nat) : Int) := wrapI (by omega) (by omega)
  have w2 : IntKind.i64.wrap ((ix : Int) + ((1 : Nat) : Int)) = ((ix + 1 : Nat) : Int) := wrapI (by omega) (by omega)
  have zk := eq_false (show ¬ (k : Int) < ((n + 1 : Nat) : Int) by omega)
  have cap : capV (.sl id 0 n (some k) 2) = some (.int .i64 (k : Int)) := rfl
  have l1 := slcV_lo (id := id) (off := 0) (n := n) (i := ix) (c := k) (by omega)
  have l2 := slcV_hi (id := id) (n := n) (i := n + 1) (c := k) (by omega)
  have l3 := slcV_lo (id := id) (off := 0) (n := n + 1) (i := ix + 1) (c := k) (by omega)
  have l4 := slcV_lo (id := id) (off := 0) (n := n + 1) (i := ix) (c := k) (by omega)
  have hov : ovlV s (.sl vid 0 1 (some 1) 2) (.sl id ((ix + 1) * 2) (n + 1 - (ix + 1)) (some (k - (ix + 1))) 2) = some (.bool false) := by
    cases cs with
    | nil => simp at hl; omega
    | cons c cs =>
      simp only [ovlV, hv, hg]
      rw [if_pos ⟨Ne.symm hne, by omega, by omega⟩]
  have c1 := ins1 (c1 := some (k - (ix + 1))) (c2 := some (k - ix)) hg hl hi
  obtain ⟨s1, hs1⟩ : ∃ s1, s1 = s.put id (.row (cs.take ((ix + 1) * 2) ++ cs.drop (ix * 2)) true) := ⟨_, rfl⟩
  rw [← hs1] at c1
  have g1 : s1.get id = some (.row (cs.take ((ix + 1) * 2) ++ cs.drop (ix * 2)) true) := by rw [hs1]; exact St.get_put_same hg
  have v1 : s1.get vid = some (.row [a, b] true) := by rw [hs1, St.get_put_ne _ _ (St.get_lt hg) (Ne.symm hne)]; exact hv
  have c2 := ins2 (i := ix) (m := n + 1 - ix) (c1 := some (k - ix)) g1 v1 (by rw [List.length_append, List.length_take, List.length_drop]; omega) (by omega)
  rw [ins12 hl hi] at c2
  have gf : (s1.put id (.row (insC cs ix [a, b]) true)).get id = some (.row (insC cs ix [a, b]) true) := St.get_put_same g1
  have go : ∀ j, j ≠ id → (s1.put id (.row (insC cs ix [a, b]) true)).get j = s.get j := fun j hj => by
    rw [St.get_put_ne _ _ (St.get_lt g1) hj, hs1, St.get_put_ne _ _ (St.get_lt hg) hj]
  have gn : (s1.put id (.row (insC cs ix [a, b]) true)).next = s.next := by rw [hs1]; simp
  have gl : min s.low id ≤ (s1.put id (.row (insC cs ix [a, b]) true)).low := by rw [hs1]; first | (simp; done) | (simp; omega)
  simp (config := {contextual := true, maxDischargeDepth := 12}) only [tb_at, h0, h1, h2, hlen, n10, zin, w1, w2, zk, cap, l1, l2, l3, l4, hov, c1, c2, notV_bool, Bool.not_true, Bool.not_false, decide_true, decide_false, bin_eql, bin_neq, lenV_slI, ↓bD, bU, forall_const, bS, implies_true, isNx, eq_self, ↓wp_cond, ↓wp_loop, ↓reduceIte, reduceCtorEq, Nat.reduceEqDiff, Nat.reduceLT, Nat.reduceAdd, Nat.reduceMul, bT, ↓sg_bsl, ↓st_callf, bX, ap_mkfn, ap_conv, ↓wi_seq, ↓wi_base, ↓wi_block, ↓wi_cond, ↓wi_loop, ↓wi_rf, ↓wy_seq, ↓wy_base, ↓wy_block, ↓wy_cond, ↓wy_loop, ↓wy_yld, ap_cap, ae_appz, ae_clr, ar_ovl, ↓st_ovl, ae_copy, ap_slc4]
  all_goals first | exact ⟨_, rfl, rfl, gf, go, gn, gl⟩ | exact ⟨rfl, gf, go, gn, gl⟩ | exact ⟨gf, go, gn, gl⟩ | skip
theorem w_InsI_g {s : St} {id n vid ix : Nat} {cs : List AV} {a b : AV} (hg : s.get id = some (.row cs true)) (hv : s.get vid = some (.row [a, b] true)) (hne : id ≠ vid) (hl : cs.length = n * 2) (hi : ix < n) (hb : n ≤ 100000) : ∀ env : Env, elen env = a41.ntmps → (∀ i x_, [.sl id 0 n (some n) 2, .int .i64 (ix : Int), .sl vid 0 1 (some 1) 2][i]? = some x_ → E env i = x_) → awp (tb []) a41.body (fun x e t => (∀ i, x ≠ .exit i) ∧ ∃ r, aresults e t a41.results = some r ∧ r = .sl s.next 0 (n + 1) none 2 ∧ t.get s.next = some (.row (insC cs ix [a, b]) true) ∧ (∀ j, j < s.next → t.get j = s.get j) ∧ t.next = s.next + 1 ∧ min s.low id ≤ t.low) env s := by
  intro env hlen ha
  have h0 : E env 0 = _ := ha 0 _ rfl
  have h1 : E env 1 = _ := ha 1 _ rfl
  have h2 : E env 2 = _ := ha 2 _ rfl
  have hlen : elen env = _ := hlen
  simp only [a41] at hlen
  unfold a41
  try dsimp only [oO, oG]
  have n10 : (((1 : Nat) : Int) = 0) = False := eq_false (by decide)
  have zin := eq_false (show ¬ (ix : Int) = (n : Int) by omega)
  have w1 : IntKind.i64.wrap ((n : Int) + ((1 : Nat) : Int)) = ((n + 1 : Nat) : Int) := wrapI (by omega) (by omega)
  have w2 : IntKind.i64.wrap ((ix : Int) + ((1 : Nat) : Int)) = ((ix + 1 : Nat) : Int) := wrapI (by omega) (by omega)
  have zk := eq_true (show (n : Int) < ((n + 1 : Nat) : Int) by omega)
  have cap : capV (.sl id 0 n (some n) 2) = some (.int .i64 (n : Int)) := rfl
  have l1 := slcV_lo (id := id) (off := 0) (n := n) (i := ix) (c := n) (by omega)
  have l2 := slcV_hi (id := id) (n := n) (i := ix) (c := n) (by omega)
  have w3 : IntKind.i64.wrap (((n + 1 : Nat) : Int) - (ix : Int)) = ((n + 1 - ix : Nat) : Int) := by
    rw [show ((n + 1 : Nat) : Int) - (ix : Int) = ((n + 1 - ix : Nat) : Int) by omega]
    exact wrapI (by omega) (by omega)
  have a1 := gro1 (by_ := 24) (z := [.int .i64 0, .str ⟨#[]⟩]) (by decide) rfl hg hl hi hb
  obtain ⟨rs, hrs⟩ : ∃ rs, rs = cs.take (ix * 2) ++ zeros [.int .i64 0, .str ⟨#[]⟩] (n + 1 - ix) := ⟨_, rfl⟩
  rw [← hrs] at a1
  have hrl : rs.length = (n + 1) * 2 := by
    rw [hrs, List.length_append, zeros_len, List.length_take]
    simp
    omega
  obtain ⟨s1, hs1⟩ : ∃ s1, s1 = s.push (.row rs true) := ⟨_, rfl⟩
  rw [← hs1] at a1
  have hidl := St.get_lt hg
  have k1 : s1.get s.next = some (.row rs true) := by rw [hs1]; exact St.get_push_new _ _
  have o1 : ∀ j, j < s.next → s1.get j = s.get j := fun j hj => by rw [hs1, St.get_push_old _ _ hj]
  have v1 : s1.get vid = some (.row [a, b] true) := by rw [o1 _ (St.get_lt hv)]; exact hv
  have l3 := slcV_lon (id := s.next) (off := 0) (n := n + 1) (i := ix) (by omega)
  have c1 := ins2 (i := ix) (m := n + 1 - ix) (c1 := none) k1 v1 (by omega) (by omega)
  obtain ⟨s2, hs2⟩ : ∃ s2, s2 = s1.put s.next (.row (rs.take (ix * 2) ++ [a, b] ++ rs.drop ((ix + 1) * 2)) true) := ⟨_, rfl⟩
  rw [← hs2] at c1
  have hl1 := St.get_lt k1
  have k2 : s2.get s.next = some (.row (rs.take (ix * 2) ++ [a, b] ++ rs.drop ((ix + 1) * 2)) true) := by rw [hs2]; exact St.get_put_same k1
  have o2 : ∀ j, j < s.next → s2.get j = s.get j := fun j hj => by rw [hs2, St.get_put_ne _ _ hl1 (by omega), o1 j hj]
  have g2 : s2.get id = some (.row cs true) := by rw [o2 _ hidl]; exact hg
  have l4 := slcV_lon (id := s.next) (off := 0) (n := n + 1) (i := ix + 1) (by omega)
  have c2 := gro2 (c1 := some (n - ix)) g2 k2 hl hi (by simp [hrl]; omega)
  have e12 : (rs.take (ix * 2) ++ [a, b] ++ rs.drop ((ix + 1) * 2)).take ((ix + 1) * 2) ++ cs.drop (ix * 2) = insC cs ix [a, b] := by rw [hrs]; exact gro12 rfl hl hi
  rw [e12] at c2
  have gf : (s2.put s.next (.row (insC cs ix [a, b]) true)).get s.next = some (.row (insC cs ix [a, b]) true) := St.get_put_same k2
  have go : ∀ j, j < s.next → (s2.put s.next (.row (insC cs ix [a, b]) true)).get j = s.get j := fun j hj => by
    rw [St.get_put_ne _ _ (St.get_lt k2) (by omega), o2 j hj]
  have gn : (s2.put s.next (.row (insC cs ix [a, b]) true)).next = s.next + 1 := by rw [hs2, hs1]; simp
  have gl : min s.low id ≤ (s2.put s.next (.row (insC cs ix [a, b]) true)).low := by rw [hs2, hs1]; first | (simp; done) | (simp; omega)
  simp (config := {contextual := true, maxDischargeDepth := 12}) only [tb_at, h0, h1, h2, hlen, n10, zin, w1, w2, w3, zk, cap, l1, l2, l3, l4, a1, c1, c2, notV_bool, Bool.not_true, Bool.not_false, decide_true, decide_false, bin_eql, bin_neq, lenV_slI, ↓bD, bU, forall_const, bS, implies_true, isNx, eq_self, ↓wp_cond, ↓wp_loop, ↓reduceIte, reduceCtorEq, Nat.reduceEqDiff, Nat.reduceLT, Nat.reduceAdd, Nat.reduceMul, bT, ↓sg_bsl, ↓st_callf, bX, ap_mkfn, ap_conv, ↓wi_seq, ↓wi_base, ↓wi_block, ↓wi_cond, ↓wi_loop, ↓wi_rf, ↓wy_seq, ↓wy_base, ↓wy_block, ↓wy_cond, ↓wy_loop, ↓wy_yld, ap_cap, ae_appz, ae_clr, ar_ovl, ↓st_ovl, ae_copy, ap_slc4]
  all_goals first | exact ⟨_, rfl, rfl, gf, go, gn, gl⟩ | exact ⟨rfl, gf, go, gn, gl⟩ | exact ⟨gf, go, gn, gl⟩ | skip
theorem w_InsI_e {s : St} {id n vid : Nat} {cs : List AV} {a b : AV} (hg : s.get id = some (.row cs true)) (hv : s.get vid = some (.row [a, b] true)) (hl : cs.length = n * 2) (hb : n ≤ 100000) : ∀ env : Env, elen env = a41.ntmps → (∀ i x_, [.sl id 0 n none 2, .int .i64 (n : Int), .sl vid 0 1 (some 1) 2][i]? = some x_ → E env i = x_) → awp (tb []) a41.body (fun x e t => (∀ i, x ≠ .exit i) ∧ ∃ r, aresults e t a41.results = some r ∧ r = .sl s.next 0 (n + 1) none 2 ∧ t = hidS s id (cs ++ [a, b])) env s := by
  intro env hlen ha
  have h0 : E env 0 = _ := ha 0 _ rfl
  have h1 : E env 1 = _ := ha 1 _ rfl
  have h2 : E env 2 = _ := ha 2 _ rfl
  have hlen : elen env = _ := hlen
  simp only [a41] at hlen
  unfold a41
  try dsimp only [oO, oG]
  have n10 : (((1 : Nat) : Int) = 0) = False := eq_false (by decide)
  have zin := eq_true (show (n : Int) = (n : Int) from rfl)
  have l1 := slcV_lon (id := id) (off := 0) (n := n) (i := n) (Nat.le_refl _)
  have a1 := app_end (by_ := 24) (by decide) hg hv hl hb
  simp (config := {contextual := true, maxDischargeDepth := 12}) only [tb_at, h0, h1, h2, hlen, n10, zin, l1, a1, notV_bool, Bool.not_true, Bool.not_false, decide_true, decide_false, bin_eql, bin_neq, lenV_slI, ↓bD, bU, forall_const, bS, implies_true, isNx, eq_self, ↓wp_cond, ↓wp_loop, ↓reduceIte, reduceCtorEq, Nat.reduceEqDiff, Nat.reduceLT, Nat.reduceAdd, Nat.reduceMul, bT, ↓sg_bsl, ↓st_callf, bX, ap_mkfn, ap_conv, ↓wi_seq, ↓wi_base, ↓wi_block, ↓wi_cond, ↓wi_loop, ↓wi_rf, ↓wy_seq, ↓wy_base, ↓wy_block, ↓wy_cond, ↓wy_loop, ↓wy_yld, ap_cap, ae_appz, ae_clr, ar_ovl, ↓st_ovl, ae_copy, ap_slc4]
  all_goals first | exact ⟨_, rfl, rfl, rfl⟩ | exact ⟨_, rfl, rfl⟩ | exact ⟨rfl, rfl⟩ | skip
theorem w_InsI_n {s : St} {vid : Nat} {a b : AV} (hv : s.get vid = some (.row [a, b] true)) : ∀ env : Env, elen env = a41.ntmps → (∀ i x_, [.nils, .int .i64 0, .sl vid 0 1 (some 1) 2][i]? = some x_ → E env i = x_) → awp (tb []) a41.body (fun x e t => (∀ i, x ≠ .exit i) ∧ ∃ r, aresults e t a41.results = some r ∧ r = .sl s.next 0 1 none 2 ∧ t = s.push (.row [a, b] true)) env s := by
  intro env hlen ha
  have h0 : E env 0 = _ := ha 0 _ rfl
  have h1 : E env 1 = _ := ha 1 _ rfl
  have h2 : E env 2 = _ := ha 2 _ rfl
  have hlen : elen env = _ := hlen
  simp only [a41] at hlen
  unfold a41
  try dsimp only [oO, oG]
  have n10 : (((1 : Nat) : Int) = 0) = False := eq_false (by decide)
  have n00 : ((0 : Int) = 0) = True := eq_true rfl
  have ln : lenV .nils = some (.int .i64 0) := rfl
  have a1 := app_nil2 (by_ := 24) (by decide) hv
  simp (config := {contextual := true, maxDischargeDepth := 12}) only [tb_at, h0, h1, h2, hlen, n10, n00, ln, slcV_nil0, a1, notV_bool, Bool.not_true, Bool.not_false, decide_true, decide_false, bin_eql, bin_neq, lenV_slI, ↓bD, bU, forall_const, bS, implies_true, isNx, eq_self, ↓wp_cond, ↓wp_loop, ↓reduceIte, reduceCtorEq, Nat.reduceEqDiff, Nat.reduceLT, Nat.reduceAdd, Nat.reduceMul, bT, ↓sg_bsl, ↓st_callf, bX, ap_mkfn, ap_conv, ↓wi_seq, ↓wi_base, ↓wi_block, ↓wi_cond, ↓wi_loop, ↓wi_rf, ↓wy_seq, ↓wy_base, ↓wy_block, ↓wy_cond, ↓wy_loop, ↓wy_yld, ap_cap, ae_appz, ae_clr, ar_ovl, ↓st_ovl, ae_copy, ap_slc4]
  all_goals first | exact ⟨_, rfl, rfl, rfl⟩ | exact ⟨_, rfl, rfl⟩ | exact ⟨rfl, rfl⟩ | skip
theorem s_cInsI : SoundAt Try.prog 41 conIns := by
  intro args s r s' h
  unfold conIns at h
  split at h
  · rename_i vid
    split at h
    · rename_i a b hv
      injection h with h
      obtain ⟨rfl, rfl⟩ := Prod.mk.inj h
      obtain ⟨r, t, q1, rfl, rfl⟩ := run_awp (call := tb []) n_InsI (args := [.nils, .int .i64 0, .sl vid 0 1 (some 1) 2]) (s := s) (Q := fun r t => r = .sl s.next 0 1 none 2 ∧ t = s.push (.row [a, b] true)) (by simp [a41]) (w_InsI_n hv)
      exact s_InsI _ _ _ _ q1
    · cases h
  · rename_i id n ix vid
    split at h
    · rename_i cs a b hg hv
      split at h
      · rename_i hc
        obtain ⟨hne, hl, hb, hi0, hi⟩ := hc
        injection h with h
        obtain ⟨rfl, rfl⟩ := Prod.mk.inj h
        obtain ⟨ix, rfl⟩ : ∃ m : Nat, ix = (m : Int) := ⟨ix.toNat, by omega⟩
        rw [Int.toNat_natCast]
        by_cases hin : ix = n
        · subst hin
          obtain ⟨r, t, q1, rfl, rfl⟩ := run_awp (call := tb []) n_InsI (args := [.sl id 0 ix none 2, .int .i64 (ix : Int), .sl vid 0 1 (some 1) 2]) (s := s) (Q := fun r t => r = .sl s.next 0 (ix + 1) none 2 ∧ t = hidS s id (cs ++ [a, b])) (by simp [a41]) (w_InsI_e hg hv hl hb)
          have e : insC cs ix [a, b] = cs ++ [a, b] := by
            unfold insC
            rw [List.take_of_length_le (by omega), List.drop_eq_nil_of_le (by omega), List.append_nil]
          rw [e]
          exact s_InsI _ _ _ _ q1
        · have hlt : ix < n := by omega
          refine ⟨k41, hidS_grow hg, fun ρ w cargs hf hR hv' => ?_⟩
          obtain ⟨x1, x2, rfl, v1, v2⟩ : ∃ x1 x2, cargs = x1 :: x2 ∧ VR ρ (.sl id 0 n none 2) x1 ∧ VRs ρ [.int .i64 (ix : Int), .sl vid 0 1 (some 1) 2] x2 := by
            simp only [VRs] at hv'
            obtain ⟨c1, r1, rfl, e1, c2, r2, rfl, e2, c3, r3, rfl, e3, rfl⟩ := hv'
            exact ⟨c1, [c2, c3], rfl, e1, VRs_cons.2 ⟨e2, VRs_cons.2 ⟨e3, VRs_nil⟩⟩⟩
          have v1' := v1
          simp only [VR] at v1'
          obtain ⟨L, A, c, hL, rfl, hle, _, hc⟩ := v1'
          have vk : VR ρ (.sl id 0 n (some c) 2) (.slice (some A) n c) := by
            simp only [VR]
            exact ⟨L, A, c, hL, rfl, hle, (fun k hk => by injection hk), hc⟩
          by_cases hcn : c = n
          · subst hcn
            obtain ⟨r, t, q1, rfl, gf, go, gn, gl⟩ := run_awp (call := tb []) n_InsI (args := [.sl id 0 c (some c) 2, .int .i64 (ix : Int), .sl vid 0 1 (some 1) 2]) (s := s) (Q := fun r t => r = .sl s.next 0 (c + 1) none 2 ∧ t.get s.next = some (.row (insC cs ix [a, b]) true) ∧ (∀ j, j < s.next → t.get j = s.get j) ∧ t.next = s.next + 1 ∧ min s.low id ≤ t.low) (by simp [a41]) (w_InsI_g hg hv hne hl hlt hb)
            obtain ⟨_, _, hcalls⟩ := s_InsI _ _ _ _ q1
            refine (hcalls ρ w _ hf hR (VRs_cons.2 ⟨vk, v2⟩)).mono fun e w' hp => ?_
            obtain ⟨ρ', v, rfl, k1, k2, k3⟩ := hp
            obtain ⟨m1, m2⟩ := kill_step hg hL k2 k3 gf go gn gl
            exact ⟨ρ', v, rfl, k1, m1, m2⟩
          · obtain ⟨r, t, q1, rfl, gf, go, gn, gl⟩ := run_awp (call := tb []) n_InsI (args := [.sl id 0 n (some c) 2, .int .i64 (ix : Int), .sl vid 0 1 (some 1) 2]) (s := s) (Q := fun r t => r = .sl id 0 (n + 1) (some c) 2 ∧ t.get id = some (.row (insC cs ix [a, b]) true) ∧ (∀ j, j ≠ id → t.get j = s.get j) ∧ t.next = s.next ∧ min s.low id ≤ t.low) (by simp [a41]) (w_InsI_r hg hv hne hl hlt (by omega) hb)
            obtain ⟨_, _, hcalls⟩ := s_InsI _ _ _ _ q1
            refine (hcalls ρ w _ hf hR (VRs_cons.2 ⟨vk, v2⟩)).mono fun e w' hp => ?_
            obtain ⟨ρ', v, rfl, k1, k2, k3⟩ := hp
            obtain ⟨ρ2, m0, m1, m2⟩ := hide_step (post := []) hR hf hg hL k2 k3 (by rw [List.append_nil]; exact gf) go gn gl k1
            exact ⟨ρ2, v, rfl, m0, m1, m2⟩
      · cases h
    · cases h
  · cases h

end Go.AM
end
/-
  Insert at strings. Own work of this project; in part printed by a program of it.
-/
section
set_option maxRecDepth 100000
set_option maxHeartbeats 8000000
namespace Go.AM
open Go Go.Proofs

variable {s t u : St}
end Go.AM
end
/-
  Delete. Own work of this project; in part printed by a program of it.
-/
section
set_option maxRecDepth 100000
set_option maxHeartbeats 8000000
namespace Go.AM
open Go Go.Proofs

variable {s t u : St}
noncomputable def R_DelI : Con := runFn (tb []) a44
theorem s_DelI : SoundAt Try.prog 44 R_DelI := run_sound (tb_sound (l := []) (by simp)) mixed Try.func44 k44 c44
theorem n_DelI : noNxtC a44.body = true := by kernel_rfl
theorem w_DelI {s : St} {id n k ix : Nat} {cs : List AV} (hg : s.get id = some (.row cs true)) (hl : cs.length = n * 2) (hi : ix < n) (hk : n ≤ k) (hb : n ≤ 100000) : ∀ env : Env, elen env = a44.ntmps → (∀ i x_, [.sl id 0 n (some k) 2, .int .i64 (ix : Int), .int .i64 ((ix + 1 : Nat) : Int)][i]? = some x_ → E env i = x_) → awp (tb []) a44.body (fun x e t => (∀ i, x ≠ .exit i) ∧ ∃ r, aresults e t a44.results = some r ∧ r = .sl id 0 (n - 1) (some k) 2 ∧ t.get id = some (.row (delC cs ix ++ [.int .i64 0, .str ⟨#[]⟩]) true) ∧ (∀ j, j ≠ id → t.get j = s.get j) ∧ t.next = s.next ∧ min s.low id ≤ t.low) env s := by
  intro env hlen ha
  have h0 : E env 0 = _ := ha 0 _ rfl
  have h1 : E env 1 = _ := ha 1 _ rfl
  have h2 : E env 2 = _ := ha 2 _ rfl
  have hlen : elen env = _ := hlen
  simp only [a44] at hlen
  unfold a44
  try dsimp only [oO, oG]
  have zin := eq_false (show ¬ (ix : Int) = ((ix + 1 : Nat) : Int) by omega)
  have l1 : slc4V 2 (.sl id 0 n (some k) 2) (.int .i64 (ix : Int)) (.int .i64 ((ix + 1 : Nat) : Int)) (.int .i64 (n : Int)) = some (.sl id (ix * 2) 1 (some (n - ix)) 2) := by
    unfold slc4V
    simp only [apure, aev, Option.map_some, Option.isSome_some, Bool.true_and, optNat, asN n k hk, asN (ix + 1) n (by omega), asN ix (ix + 1) (by omega)]
    simp
  have l2 := slcV_hi (id := id) (n := n) (i := ix) (c := k) (by omega)
  have l3 := slcV_lo (id := id) (off := 0) (n := n) (i := ix + 1) (c := k) (by omega)
  have hsh : shown s 2 (.sl id ((ix + 1) * 2) (n - (ix + 1)) (some (k - (ix + 1))) 2) = some (cs.drop ((ix + 1) * 2)) := by
    simp only [shown, hg, if_true]
    rw [if_pos (by omega), List.take_of_length_le (by rw [List.length_drop]; omega)]
  obtain ⟨s1, hap, g1, o1, n1, w1⟩ : ∃ s1, appV s 2 24 (.sl id 0 ix (some k) 2) (.sl id ((ix + 1) * 2) (n - (ix + 1)) (some (k - (ix + 1))) 2) = some (.sl id 0 (n - 1) (some k) 2, s1) ∧ s1.get id = some (.row (delC cs ix ++ (cs.drop ((n - 1) * 2))) true) ∧ (∀ j, j ≠ id → s1.get j = s.get j) ∧ s1.next = s.next ∧ min s.low id ≤ s1.low := by
    have hdl : (cs.drop ((ix + 1) * 2)).length = (n - 1 - ix) * 2 := by rw [List.length_drop]; omega
    simp only [appV, hsh, lenOf, aappend, hg, if_true]
    by_cases h0 : n - (ix + 1) = 0
    · rw [if_pos h0]
      refine ⟨s, by rw [show n - 1 = ix by omega], ?_, fun _ _ => rfl, rfl, by omega⟩
      rw [hg]
      congr 2
      unfold delC
      rw [List.drop_eq_nil_of_le (by omega), List.append_nil, show (n - 1) * 2 = ix * 2 by omega, List.take_append_drop]
    · rw [if_neg h0, if_pos ⟨by omega, by unfold roomBytes; omega⟩, if_pos (by omega), if_pos (by simp; omega)]
      refine ⟨_, by rw [show ix + (n - (ix + 1)) = n - 1 by omega], ?_, fun j hj => St.get_put_ne _ _ (St.get_lt hg) hj, by simp, by first | (simp; done) | (simp; omega)⟩
      rw [St.get_put_same hg]
      congr 2
      unfold setAt delC
      rw [Nat.zero_add, hdl, show ix * 2 + (n - 1 - ix) * 2 = (n - 1) * 2 by omega]
  have l4 := slcV_lohi (id := id) (n := n - 1) (i := n - 1) (j := n) (c := k) hk (by omega)
  rw [show n - (n - 1) = 1 by omega] at l4
  have hpl : (delC cs ix).length = (n - 1) * 2 := by
    unfold delC
    rw [List.length_append, List.length_take, List.length_drop]
    omega
  have hzz : zeros [.int .i64 0, .str ⟨#[]⟩] 1 = [.int .i64 0, .str ⟨#[]⟩] := rfl
  have hcl : clrV s1 [.int .i64 0, .str ⟨#[]⟩] (.sl id ((n - 1) * 2) 1 (some (k - (n - 1))) 2) = some (.tup [], s1.put id (.row (delC cs ix ++ [.int .i64 0, .str ⟨#[]⟩]) true)) := by
    simp only [clrV, g1, hzz]
    rw [if_neg (by decide), if_pos (show 2 = ([.int .i64 0, .str ⟨#[]⟩] : List AV).length from rfl), if_pos (by rw [List.length_append, hpl, List.length_drop]; omega)]
    congr 4
    unfold setAt
    rw [List.take_append_of_le_length (by omega), List.take_of_length_le (by omega), List.drop_eq_nil_of_le (by simp [hpl]; omega), List.append_nil]
  have gf : (s1.put id (.row (delC cs ix ++ [.int .i64 0, .str ⟨#[]⟩]) true)).get id = some (.row (delC cs ix ++ [.int .i64 0, .str ⟨#[]⟩]) true) := St.get_put_same g1
  have go : ∀ j, j ≠ id → (s1.put id (.row (delC cs ix ++ [.int .i64 0, .str ⟨#[]⟩]) true)).get j = s.get j := fun j hj => by
    rw [St.get_put_ne _ _ (St.get_lt g1) hj, o1 j hj]
  have gn : (s1.put id (.row (delC cs ix ++ [.int .i64 0, .str ⟨#[]⟩]) true)).next = s.next := by rw [← n1]; simp
  have gl : min s.low id ≤ (s1.put id (.row (delC cs ix ++ [.int .i64 0, .str ⟨#[]⟩]) true)).low := by first | (simp; done) | (simp; omega)
  simp (config := {contextual := true, maxDischargeDepth := 12}) only [tb_at, reserve0, h0, h1, h2, hlen, zin, l1, l2, l3, hap, l4, hcl, notV_bool, Bool.not_true, Bool.not_false, decide_true, decide_false, bin_eql, bin_neq, lenV_slI, ↓bD, bU, forall_const, bS, implies_true, isNx, eq_self, ↓wp_cond, ↓wp_loop, ↓reduceIte, reduceCtorEq, Nat.reduceEqDiff, Nat.reduceLT, Nat.reduceAdd, Nat.reduceMul, bT, ↓sg_bsl, ↓st_callf, bX, ap_mkfn, ap_conv, ↓wi_seq, ↓wi_base, ↓wi_block, ↓wi_cond, ↓wi_loop, ↓wi_rf, ↓wy_seq, ↓wy_base, ↓wy_block, ↓wy_cond, ↓wy_loop, ↓wy_yld, ap_cap, ae_appz, ae_clr, ar_ovl, ↓st_ovl, ae_copy, ap_slc4]
  all_goals first | exact ⟨_, rfl, rfl, gf, go, gn, gl⟩ | exact ⟨rfl, gf, go, gn, gl⟩ | exact ⟨gf, go, gn, gl⟩ | skip
theorem s_cDelI : SoundAt Try.prog 44 conDel := by
  intro args s r s' h
  unfold conDel at h
  split at h
  · rename_i id n ix j
    split at h
    · rename_i cs hg
      split at h
      · rename_i hc
        obtain ⟨hl, hb, hi0, hi, rfl⟩ := hc
        injection h with h
        obtain ⟨rfl, rfl⟩ := Prod.mk.inj h
        obtain ⟨ix, rfl⟩ : ∃ m : Nat, ix = (m : Int) := ⟨ix.toNat, by omega⟩
        rw [Int.toNat_natCast, show (ix : Int) + 1 = ((ix + 1 : Nat) : Int) by omega]
        refine ⟨k44, hidS_grow hg, fun ρ w cargs hf hR hv' => ?_⟩
        obtain ⟨x1, x2, rfl, v1, v2⟩ : ∃ x1 x2, cargs = x1 :: x2 ∧ VR ρ (.sl id 0 n none 2) x1 ∧ VRs ρ [.int .i64 (ix : Int), .int .i64 ((ix + 1 : Nat) : Int)] x2 := by
          simp only [VRs] at hv'
          obtain ⟨c1, r1, rfl, e1, c2, r2, rfl, e2, c3, r3, rfl, e3, rfl⟩ := hv'
          exact ⟨c1, [c2, c3], rfl, e1, VRs_cons.2 ⟨e2, VRs_cons.2 ⟨e3, VRs_nil⟩⟩⟩
        have v1' := v1
        simp only [VR] at v1'
        obtain ⟨L, A, c, hL, rfl, hle, _, hc⟩ := v1'
        have vk : VR ρ (.sl id 0 n (some c) 2) (.slice (some A) n c) := by
          simp only [VR]
          exact ⟨L, A, c, hL, rfl, hle, (fun k hk => by injection hk), hc⟩
        have hlt : ix < n := by omega
        have hw := w_DelI (k := c) hg hl hlt hle hb
        have hz := run_awp (call := tb []) n_DelI (args := [.sl id 0 n (some c) 2, .int .i64 (ix : Int), .int .i64 ((ix + 1 : Nat) : Int)]) (s := s) (Q := fun r t => r = .sl id 0 (n - 1) (some c) 2 ∧ t.get id = some (.row (delC cs ix ++ [.int .i64 0, .str ⟨#[]⟩]) true) ∧ (∀ j, j ≠ id → t.get j = s.get j) ∧ t.next = s.next ∧ min s.low id ≤ t.low) (by simp [a44])
        replace hz := hz hw
        clear hw
        obtain ⟨r, t, q1, hr, gf, go, gn, gl⟩ := hz
        subst hr
        obtain ⟨_, _, hcalls⟩ := s_DelI _ _ _ _ q1
        refine (hcalls ρ w _ hf hR (VRs_cons.2 ⟨vk, v2⟩)).mono fun e w' hp => ?_
        obtain ⟨ρ', v, rfl, k1, k2, k3⟩ := hp
        obtain ⟨ρ2, m0, m1, m2⟩ := hide_step hR hf hg hL k2 k3 gf go gn gl k1
        exact ⟨ρ2, v, rfl, m0, m1, m2⟩
      · cases h
    · cases h
  · cases h

end Go.AM
end
/-
  Ordered maps: pairs, orders, searching. Own work of this project; in part printed by a program of it.
-/
section
set_option maxRecDepth 100000
set_option maxHeartbeats 8000000
namespace Go.AM
open Go Go.Proofs

variable {s t u : St}

def callvV (call : Nat → List AV → St → Option (AV × St)) (f : AV) (args : List AV) (s : St) : Option (AV × St) := match f with
  | .fn g caps => acall (call g) false (args ++ caps) s
  | _ => none
theorem ae_callvV {call : Nat → List AV → St → Option (AV × St)} {env : Env} (x : AO) (l : List AO) : aeff call env s (.callv x false l) = callvV call (aev env x) (l.map (aev env)) s := nrfl rfl
theorem callvV_fn {call : Nat → List AV → St → Option (AV × St)} (g : Nat) (caps args : List AV) : callvV call (.fn g caps) args s = acall (call g) false (args ++ caps) s := nrfl rfl
theorem run_any {call : Nat → List AV → St → Option (AV × St)} {fn : AFn} (hn : noNxtC fn.body = true) {args : List AV} (hl : args.length ≤ fn.ntmps) {s : St} {Q : AV → St → Prop} (hQ : ∀ r t t', (∀ id, t'.get id = t.get id) → t'.next = t.next → Q r t → Q r t') (hg : ∀ r t, r.ground = true → Keep s t → Q r t → Q r s)
    (h : ∀ env : Env, elen env = fn.ntmps → (∀ i v, args[i]? = some v → E env i = v) → awp call fn.body (fun x e t => (∀ i, x ≠ .exit i) ∧ ∃ r, aresults e t fn.results = some r ∧ Q r t ∧ Keep (lowd s) t) env (lowd s)) :
    ∃ r t, acall (runFn call fn) false args s = some (r, t) ∧ Q r t ∧ Keep s t := by
  obtain ⟨r, t, h1, h2, h3⟩ := run_awp hn hl (Q := fun r t => Q r t ∧ Keep (lowd s) t) h
  have hk0 : Keep s (lowd s) := ⟨Nat.le_refl _, fun _ _ => rfl, Nat.min_le_right _ _⟩
  by_cases hgr : r.ground = true
  · exact ⟨r, s, acall_same h1 h3 hgr, hg r t hgr (hk0.trans h3) h2, .refl s⟩
  · obtain ⟨t', g1, g2, g3, g4⟩ := acall_new h1 (h3.chg []) (.inl (by simpa using hgr))
    exact ⟨r, t', g1, hQ r t t' g2 g3 h2, g4.keep⟩
/-! ### A disk -/
theorem bin_nff (g : Nat) (c : List AV) : binOp .eql .nf (.fn g c) .nilf = some (.bool false) := nrfl rfl
theorem bin_nfn : binOp .eql .nf .nilf .nilf = some (.bool true) := nrfl rfl
theorem bin_nffx (g : Nat) (c : List AV) : binOp .neq .nf (.fn g c) .nilf = some (.bool true) := nrfl rfl
theorem bin_nfnx : binOp .neq .nf .nilf .nilf = some (.bool false) := nrfl rfl
theorem bin_mul (e : EK) (k : IntKind) (a b : Int) : binOp .mul e (.int k a) (.int k b) = some (.int k (k.wrap (a * b))) := by simp [binOp, intOp]
theorem bin_shr1 (n : Nat) : binOp .shr .no (.int .u64 (n : Int)) (.int .u64 1) = some (.int .u64 ((n / 2 : Nat) : Int)) := by
  simp only [binOp, shOp]
  have h1 : ¬ ((1 : Int) < 0) := by decide
  have h2 : (2 : Int) ^ (min (Int.toNat 1) IntKind.u64.bits) = 2 := by decide
  rw [if_neg h1, h2]
  have : Int.fdiv (n : Int) 2 = ((n / 2 : Nat) : Int) := by
    rw [Int.fdiv_eq_ediv_of_nonneg _ (by decide)]
    omega
  simp only [this]
theorem wrap_u64' {n : Nat} (h : n < 4611686018427387904) : IntKind.u64.wrap (n : Int) = (n : Int) := by
  simp only [IntKind.wrap, IntKind.signed, IntKind.bits]
  simp
  omega
abbrev PrS := Int × ByteArray
def prC : Cod PrS where
  sz := 2
  enc := fun x => [.int .i64 x.1, .str x.2]
  dec := fun cs => match cs with
    | [.int .i64 a, .str b] => some (a, b)
    | _ => none
  pos := by decide
  len := fun _ => rfl
  plain := fun _ => rfl
  dec_enc := fun _ => rfl
  enc_dec := fun cs x h => by
    split at h
    · injection h with h; subst h; rfl
    · cases h
theorem prC_sz : prC.sz = 2 := rfl
theorem pr_lods {v : AV} {l : List PrS} (h : AM.read prC s v = some l) {i : Nat} {x : PrS} (hi : l[i]? = some x) : iadV 2 v (.int .i64 (i : Int)) = some (.ptr (bid v) (boff v + i * 2)) ∧ lod s 2 (.ptr (bid v) (boff v + i * 2)) = some (.agg [.int .i64 x.1, .str x.2]) ∧
    lod1 s (.ptr (bid v) (boff v + i * 2)) = some (.int .i64 x.1) ∧ lod1 s (.ptr (bid v) (boff v + i * 2 + 1)) = some (.str x.2) ∧ ltN (bid v) s := by
  have h1 := read_idx h hi .i64
  rw [prC_sz] at h1
  have hl := read_lt h (Keep.refl s) hi
  refine ⟨h1, ?_⟩
  cases v with
  | nils => simp [AM.read] at h; subst h; simp at hi
  | sl id off n cap z =>
    obtain ⟨rfl, rfl, cs, own, hg, _, _, h5⟩ := read_sl h
    show lod s 2 (.ptr id (off + i * 2)) = _ ∧ lod1 s (.ptr id (off + i * 2)) = _ ∧ lod1 s (.ptr id (off + i * 2 + 1)) = _ ∧ _
    have one : ∀ k v, k < 2 → (prC.enc x)[k]? = some v → cs[off + i * 2 + k]? = some v := fun k v hk hv => by
      obtain ⟨_, k2⟩ := h5 i x hi k 1 (by rw [prC_sz]; omega)
      rw [prC_sz] at k2
      have e := congrArg (fun l => l[0]?) k2
      simpa [List.getElem?_take, List.getElem?_drop, hv] using e
    refine ⟨?_, ?_, ?_, hl⟩
    · obtain ⟨k1, k2⟩ := h5 i x hi 0 2 (by rw [prC_sz]; omega)
      rw [prC_sz, Nat.add_zero] at k1 k2
      simp only [lod, hg]
      rw [if_pos (by omega), k2]
      rfl
    · simp only [lod1, hg]; exact one 0 _ (by omega) rfl
    · simp only [lod1, hg]; exact one 1 _ (by omega) rfl
  | _ => simp [AM.read] at h
theorem pr_cells2 (x : PrS) (l : List PrS) : prC.cells (x :: l) = .int .i64 x.1 :: .str x.2 :: prC.cells l := by rw [cells_cons]; rfl
theorem pr_cells_set (v : ByteArray) : ∀ {L : List PrS} {i : Nat} {x : PrS}, L[i]? = some x → setAt (prC.cells L) (i * 2 + 1) [.str v] = prC.cells (L.take i ++ (x.1, v) :: L.drop (i + 1))
  | [], i, x, h => by simp at h
  | z :: l, 0, x, h => by
    simp at h
    subst h
    rw [pr_cells2]
    simp [setAt, pr_cells2]
  | z :: l, i + 1, x, h => by
    have := pr_cells_set v (L := l) (i := i) (x := x) (by simpa using h)
    rw [List.take_succ_cons, List.drop_succ_cons, List.cons_append, pr_cells2, pr_cells2, ← this]
    simp only [setAt]
    rw [show (i + 1) * 2 + 1 = i * 2 + 1 + 1 + 1 by omega]
    simp
theorem pr_take (L : List PrS) (i : Nat) : (prC.cells L).take (i * 2) = prC.cells (L.take i) := by
  by_cases h : i ≤ L.length
  · conv => lhs; rw [← List.take_append_drop i L, cells_append]
    have : i * 2 = (prC.cells (L.take i)).length := by rw [cells_len, prC_sz, List.length_take, Nat.min_eq_left h]
    rw [this, List.take_left]
  · rw [List.take_of_length_le (by rw [cells_len, prC_sz]; omega), List.take_of_length_le (by omega)]
theorem pr_drop (L : List PrS) (i : Nat) : (prC.cells L).drop (i * 2) = prC.cells (L.drop i) := by
  by_cases h : i ≤ L.length
  · conv => lhs; rw [← List.take_append_drop i L, cells_append]
    have : i * 2 = (prC.cells (L.take i)).length := by rw [cells_len, prC_sz, List.length_take, Nat.min_eq_left h]
    rw [this, List.drop_left]
  · rw [List.drop_eq_nil_of_le (by rw [cells_len, prC_sz]; omega), List.drop_eq_nil_of_le (by omega)]
    rfl
theorem pr_ins (L : List PrS) (i : Nat) (x : PrS) : insC (prC.cells L) i [.int .i64 x.1, .str x.2] = prC.cells (L.take i ++ x :: L.drop i) := by
  unfold insC
  rw [pr_take, pr_drop, cells_append, pr_cells2]
  simp
theorem pr_del (L : List PrS) (i : Nat) : delC (prC.cells L) i = prC.cells (L.take i ++ L.drop (i + 1)) := by
  unfold delC
  rw [pr_take, pr_drop, cells_append]
/-! ### Orders -/
def ordV : Bool → AV
  | true => .fn 37 []
  | false => .fn 38 []
theorem ordV_t : ordV true = .fn 37 [] := nrfl rfl
theorem ordV_f : ordV false = .fn 38 [] := nrfl rfl
theorem ordV_one (d : Bool) : (ordV d).cells = [ordV d] ∧ (ordV d).one = true := by cases d <;> exact ⟨rfl, rfl⟩
theorem bin_ord (d : Bool) : binOp .eql .nf (ordV d) .nilf = some (.bool false) := by cases d <;> rfl
def sg (d : Bool) (a : Int) : Int := if d = true then -a else a
def cmpU (a b : Int) : Int := if a < b then -1 else if b < a then 1 else 0
def cmpD (d : Bool) (a b : Int) : Int := if d = true then cmpU b a * 9 else cmpU a b
theorem sg_inj (d : Bool) (a b : Int) : sg d a = sg d b ↔ a = b := by cases d <;> simp [sg]
theorem cmpU_neg (a b : Int) : cmpU a b < 0 ↔ a < b := by
  unfold cmpU
  by_cases h : a < b
  · simp [h]
  · by_cases h2 : b < a <;> simp [h, h2]
theorem cmpU_zero (a b : Int) : cmpU a b = 0 ↔ a = b := by
  unfold cmpU
  by_cases h : a < b
  · simp [h]; omega
  · by_cases h2 : b < a
    · simp [h, h2]; omega
    · simp [h, h2]; omega
theorem cmpD_neg (d : Bool) (a b : Int) : (cmpD d a b < 0) = (sg d a < sg d b) := by
  refine propext ?_
  cases d
  · simp [cmpD, sg, cmpU_neg]
  · have := cmpU_neg b a
    simp only [cmpD, sg, if_true]
    omega
theorem cmpD_zero (d : Bool) (a b : Int) : (cmpD d a b = 0) = (a = b) := by
  refine propext ?_
  cases d
  · simp [cmpD, cmpU_zero]
  · have := cmpU_zero b a
    simp only [cmpD, if_true]
    omega
def SrtD (d : Bool) (L : List PrS) : Prop := L.Pairwise fun a b => sg d a.1 < sg d b.1
theorem SrtD.lt {d : Bool} {L : List PrS} (h : SrtD d L) {i j : Nat} {x y : PrS} (hx : L[i]? = some x) (hy : L[j]? = some y) (hij : i < j) : sg d x.1 < sg d y.1 := by
  have h1 := getlt hx
  have h2 := getlt hy
  have := List.pairwise_iff_getElem.1 h i j h1 h2 hij
  have e1 := (List.getElem?_eq_some_iff.1 hx).2
  have e2 := (List.getElem?_eq_some_iff.1 hy).2
  rw [e1, e2] at this
  exact this
/-- How many keys come before. -/
def rkD (d : Bool) : List PrS → Int → Nat
  | [], _ => 0
  | x :: r, k => if sg d x.1 < sg d k then rkD d r k + 1 else 0
theorem rk_le (d : Bool) (k : Int) : ∀ L : List PrS, rkD d L k ≤ L.length
  | [] => Nat.le_refl _
  | x :: r => by
    unfold rkD
    split
    · have := rk_le d k r
      simp only [List.length_cons]
      omega
    · omega
theorem rk_lt {d : Bool} {k : Int} : ∀ {L : List PrS} {i : Nat} {x : PrS}, i < rkD d L k → L[i]? = some x → sg d x.1 < sg d k
  | [], i, x, h, _ => by simp [rkD] at h
  | y :: r, i, x, h, hx => by
    unfold rkD at h
    split at h
    · rename_i hy
      cases i with
      | zero => simp at hx; subst hx; exact hy
      | succ i => exact rk_lt (L := r) (i := i) (by omega) (by simpa using hx)
    · omega
theorem rk_at {d : Bool} {k : Int} : ∀ {L : List PrS} {x : PrS}, L[rkD d L k]? = some x → ¬ sg d x.1 < sg d k
  | [], x, h => by simp at h
  | y :: r, x, h => by
    unfold rkD at h
    split at h
    · exact rk_at (L := r) (by simpa using h)
    · rename_i hy
      simp at h
      subst h
      exact hy
theorem rk_eq {d : Bool} {k : Int} : ∀ {L : List PrS} {i : Nat}, i ≤ L.length → (∀ (j : Nat) (y : PrS), j < i → L[j]? = some y → sg d y.1 < sg d k) → (∀ y, L[i]? = some y → ¬ sg d y.1 < sg d k) → rkD d L k = i
  | [], i, h, _, _ => by simp at h; subst h; rfl
  | x :: r, 0, _, _, h => by
    unfold rkD
    rw [if_neg (h x rfl)]
  | x :: r, i + 1, h, h1, h2 => by
    unfold rkD
    rw [if_pos (h1 0 x (by omega) rfl), rk_eq (L := r) (i := i) (by simpa using h) (fun j y hj hy => h1 (j + 1) y (by omega) (by simpa using hy)) fun y hy => h2 y (by simpa using hy)]
def gtD (d : Bool) (L : List PrS) (k : Int) : Option ByteArray := match L[rkD d L k]? with
  | some x => if x.1 = k then some x.2 else none
  | none => none
theorem gt_some {d : Bool} {L : List PrS} {k : Int} {v : ByteArray} (h : gtD d L k = some v) : L[rkD d L k]? = some (k, v) := by
  unfold gtD at h
  split at h
  · rename_i x hx
    split at h
    · rename_i e
      injection h with h
      subst h
      subst e
      exact hx
    · cases h
  · cases h
def getV : Option ByteArray → AV
  | some v => .tup [.str v, .bool true]
  | none => .tup [.str ⟨#[]⟩, .bool false]
/-! ### The memory -/
def mpV (o : Option Nat) (L : List PrS) : AV := match o with
  | none => .nils
  | some j => .sl j 0 L.length none 2
structure MpR (t : St) (id : Nat) (o : Option Nat) (d : Bool) (L : List PrS) : Prop where
  box : t.get id = some (.row [ordV d, mpV o L] true)
  nol : o = none → L = []
  dat : ∀ j, o = some j → j ≠ id ∧ t.get j = some (.row (prC.cells L) true)
  hn : L.length ≤ 1000
variable {id : Nat} {q : Option Nat} {d : Bool} {L : List PrS}
theorem MpR.keep (h : MpR t id q d L) (hK : Keep t u) : MpR u id q d L := ⟨hK.blk h.box, h.nol, fun j e => ⟨(h.dat j e).1, hK.blk (h.dat j e).2⟩, h.hn⟩
theorem MpR.low (h : MpR s id q d L) : MpR (lowd s) id q d L := h.keep (keep_low s)
theorem MpR.mono (h : MpR t id q d L) (k : ∀ i b, t.get i = some b → u.get i = some b) : MpR u id q d L := ⟨k _ _ h.box, h.nol, fun j e => ⟨(h.dat j e).1, k _ _ (h.dat j e).2⟩, h.hn⟩
theorem MpR.chg {M : List Nat} (h : MpR t id q d L) (hC : Chg M t u) (h1 : id ∉ M) (h2 : ∀ j, q = some j → j ∉ M) : MpR u id q d L := ⟨hC.blk h.box h1, h.nol, fun j e => ⟨(h.dat j e).1, hC.blk (h.dat j e).2 (h2 j e)⟩, h.hn⟩
theorem MpR.rd (h : MpR t id q d L) : AM.read prC t (mpV q L) = some L := by
  cases q with
  | none => rw [h.nol rfl]; rfl
  | some j =>
    refine read_of rfl (h.dat j rfl).2 (by simp [cells_len]) ?_
    rw [List.drop_zero, ← cells_len]
    simp
theorem MpR.lenV (h : MpR t id q d L) : AM.lenV (mpV q L) = some (.int .i64 (L.length : Int)) := lenV_read h.rd
theorem MpR.at (h : MpR t id q d L) {i : Nat} {x : PrS} (hx : L[i]? = some x) : ∃ j, q = some j ∧ iadV 2 (mpV q L) (.int .i64 (i : Int)) = some (.ptr j (i * 2)) ∧ lod t 2 (.ptr j (i * 2)) = some (.agg [.int .i64 x.1, .str x.2]) ∧ lod1 t (.ptr j (i * 2)) = some (.int .i64 x.1) ∧ lod1 t (.ptr j (i * 2 + 1)) = some (.str x.2) ∧ ltN j t := by
  cases q with
  | none => rw [h.nol rfl] at hx; simp at hx
  | some j =>
    refine ⟨j, rfl, ?_⟩
    have := pr_lods h.rd hx
    simpa [mpV, bid, boff] using this
/-- Nil or zero. -/
def ZkM (s : St) (p : AV) : Prop := p = .nilp ∨ ∃ id own v, p = .ptr id 0 ∧ s.get id = some (.row [.nilf, v] own)
theorem ZkM.keep {p : AV} (h : ZkM t p) (hK : Keep t u) : ZkM u p := h.imp (fun q => q) fun ⟨id, own, v, e, g⟩ => ⟨id, own, v, e, hK.blk g⟩
theorem ZkM.low {p : AV} (h : ZkM s p) : ZkM (lowd s) p := h.keep (keep_low s)
noncomputable def R_up : Con := runFn (tb []) a38
theorem s_up : SoundAt Try.prog 38 R_up := run_sound (tb_sound (l := []) (by simp)) mixed Try.func38 k38 c38
theorem n_up : noNxtC a38.body = true := by kernel_rfl
theorem w_up {s : St} (a b : Int) : ∀ env : Env, elen env = a38.ntmps → (∀ i x_, [.int .i64 a, .int .i64 b][i]? = some x_ → E env i = x_) → awp (tb []) a38.body (fun x e t => (∀ i, x ≠ .exit i) ∧ aresults e t a38.results = some (.int .i64 (cmpD false a b)) ∧ Keep s t) env s := by
  intro env hlen ha
  have h0 : E env 0 = _ := ha 0 _ rfl
  have h1 : E env 1 = _ := ha 1 _ rfl
  have hlen : elen env = _ := hlen
  simp only [a38] at hlen
  unfold a38
  try dsimp only [oO, oG]
  have hc : cmpD false a b = if a < b then -1 else if b < a then 1 else 0 := by simp [cmpD, cmpU]
  by_cases c1 : a < b
  · have z1 := eq_true c1
    have e : cmpD false a b = -1 := by rw [hc, if_pos c1]
    rw [e]
    simp (config := {contextual := true, maxDischargeDepth := 12}) only [tb_at, h0, h1, hlen, z1, ↓bD, bU, forall_const, bS, implies_true, isNx, eq_self, ↓wp_cond, ↓wp_loop, ↓reduceIte, reduceCtorEq, Nat.reduceEqDiff, Nat.reduceLT, Nat.reduceAdd, Nat.reduceMul, bT, ↓sg_bsl, ↓st_callf, bX, ap_mkfn, ap_conv, ↓wi_seq, ↓wi_base, ↓wi_block, ↓wi_cond, ↓wi_loop, ↓wi_rf, ↓wy_seq, ↓wy_base, ↓wy_block, ↓wy_cond, ↓wy_loop, ↓wy_yld, ae_callvV, callvV_fn, List.append_nil, List.cons_append, List.nil_append, bin_nff, bin_nfn, bin_nffx, bin_nfnx]
    all_goals first | exact .refl s | skip
  · have z1 := eq_false c1
    by_cases c2 : b < a
    · have z2 := eq_true c2
      have e : cmpD false a b = 1 := by rw [hc, if_neg c1, if_pos c2]
      rw [e]
      simp (config := {contextual := true, maxDischargeDepth := 12}) only [tb_at, h0, h1, hlen, z1, z2, ↓bD, bU, forall_const, bS, implies_true, isNx, eq_self, ↓wp_cond, ↓wp_loop, ↓reduceIte, reduceCtorEq, Nat.reduceEqDiff, Nat.reduceLT, Nat.reduceAdd, Nat.reduceMul, bT, ↓sg_bsl, ↓st_callf, bX, ap_mkfn, ap_conv, ↓wi_seq, ↓wi_base, ↓wi_block, ↓wi_cond, ↓wi_loop, ↓wi_rf, ↓wy_seq, ↓wy_base, ↓wy_block, ↓wy_cond, ↓wy_loop, ↓wy_yld, ae_callvV, callvV_fn, List.append_nil, List.cons_append, List.nil_append, bin_nff, bin_nfn, bin_nffx, bin_nfnx]
      all_goals first | exact .refl s | skip
    · have z2 := eq_false c2
      have e : cmpD false a b = 0 := by rw [hc, if_neg c1, if_neg c2]
      rw [e]
      simp (config := {contextual := true, maxDischargeDepth := 12}) only [tb_at, h0, h1, hlen, z1, z2, ↓bD, bU, forall_const, bS, implies_true, isNx, eq_self, ↓wp_cond, ↓wp_loop, ↓reduceIte, reduceCtorEq, Nat.reduceEqDiff, Nat.reduceLT, Nat.reduceAdd, Nat.reduceMul, bT, ↓sg_bsl, ↓st_callf, bX, ap_mkfn, ap_conv, ↓wi_seq, ↓wi_base, ↓wi_block, ↓wi_cond, ↓wi_loop, ↓wi_rf, ↓wy_seq, ↓wy_base, ↓wy_block, ↓wy_cond, ↓wy_loop, ↓wy_yld, ae_callvV, callvV_fn, List.append_nil, List.cons_append, List.nil_append, bin_nff, bin_nfn, bin_nffx, bin_nfnx]
      all_goals first | exact .refl s | skip
theorem q_up (cl : Bool) {s : St} (a b : Int) : acall R_up cl [.int .i64 a, .int .i64 b] s = some (.int .i64 (cmpD false a b), s) := run_same n_up (by simp [a38]) rfl (w_up (s := lowd s) a b)
noncomputable def R_down : Con := runFn (tb [(38, R_up)]) a37
theorem s_down : SoundAt Try.prog 37 R_down := run_sound (tb_sound (l := [(38, R_up)]) (by simpa using s_up)) mixed Try.func37 k37 c37
theorem n_down : noNxtC a37.body = true := by kernel_rfl
theorem w_down {s : St} (a b : Int) : ∀ env : Env, elen env = a37.ntmps → (∀ i x_, [.int .i64 a, .int .i64 b][i]? = some x_ → E env i = x_) → awp (tb [(38, R_up)]) a37.body (fun x e t => (∀ i, x ≠ .exit i) ∧ aresults e t a37.results = some (.int .i64 (cmpD true a b)) ∧ Keep s t) env s := by
  intro env hlen ha
  have h0 : E env 0 = _ := ha 0 _ rfl
  have h1 : E env 1 = _ := ha 1 _ rfl
  have hlen : elen env = _ := hlen
  simp only [a37] at hlen
  unfold a37
  try dsimp only [oO, oG]
  have q1 := q_up false (s := s) b a
  have hc : IntKind.i64.wrap (cmpD false b a * 9) = cmpD true a b := by
    have : cmpD true a b = cmpD false b a * 9 := by simp [cmpD]
    rw [this]
    refine wrapI ?_ ?_ <;> (simp only [cmpD, cmpU]; simp; split <;> (try split) <;> decide)
  simp (config := {contextual := true, maxDischargeDepth := 12}) only [tb_at, h0, h1, hlen, q1, bin_mul, hc, ↓bD, bU, forall_const, bS, implies_true, isNx, eq_self, ↓wp_cond, ↓wp_loop, ↓reduceIte, reduceCtorEq, Nat.reduceEqDiff, Nat.reduceLT, Nat.reduceAdd, Nat.reduceMul, bT, ↓sg_bsl, ↓st_callf, bX, ap_mkfn, ap_conv, ↓wi_seq, ↓wi_base, ↓wi_block, ↓wi_cond, ↓wi_loop, ↓wi_rf, ↓wy_seq, ↓wy_base, ↓wy_block, ↓wy_cond, ↓wy_loop, ↓wy_yld, ae_callvV, callvV_fn, List.append_nil, List.cons_append, List.nil_append, bin_nff, bin_nfn, bin_nffx, bin_nfnx]
  all_goals first | exact .refl s | exact .refl _ | skip
theorem q_down (cl : Bool) {s : St} (a b : Int) : acall R_down cl [.int .i64 a, .int .i64 b] s = some (.int .i64 (cmpD true a b), s) := run_same n_down (by simp [a37]) rfl (w_down (s := lowd s) a b)
noncomputable def R_zero : Con := runFn (tb []) a39
theorem s_zero : SoundAt Try.prog 39 R_zero := run_sound (tb_sound (l := []) (by simp)) mixed Try.func39 k39 c39
theorem n_zero : noNxtC a39.body = true := by kernel_rfl
theorem w_zero {s : St} {id : Nat} {d : Bool} {v : AV} {own : Bool} (hb : s.get id = some (.row [ordV d, v] own)) : ∀ env : Env, elen env = a39.ntmps → (∀ i x_, [.ptr id 0][i]? = some x_ → E env i = x_) → awp (tb []) a39.body (fun x e t => (∀ i, x ≠ .exit i) ∧ aresults e t a39.results = some (.bool false) ∧ Keep s t) env s := by
  intro env hlen ha
  have h0 : E env 0 = _ := ha 0 _ rfl
  have hlen : elen env = _ := hlen
  simp only [a39] at hlen
  unfold a39
  try dsimp only [oO, oG]
  obtain ⟨b0, b1, blt⟩ := row2_lod hb
  simp (config := {contextual := true, maxDischargeDepth := 12, maxSteps := 4000000}) only [tb_at, h0, hlen, bin_np, nchkV_ptr, b0, blt, bin_ord, notV_bool, Bool.not_true, Bool.not_false, pickV_t, pickV_f, bin_eql, bin_neq, bin_neb, bin_npn, bin_np, bin_npnx, gcall_tt, gpure_tf, beq_self_eq_true, Bool.true_and, Bool.and_true, decide_true, decide_false, ↓bD, bU, forall_const, bS, implies_true, isNx, eq_self, ↓wp_cond, ↓wp_loop, ↓reduceIte, reduceCtorEq, Nat.reduceEqDiff, Nat.reduceLT, Nat.reduceAdd, Nat.reduceMul, bT, ↓sg_bsl, ↓st_callf, bX, ap_mkfn, ap_conv, ↓wi_seq, ↓wi_base, ↓wi_block, ↓wi_cond, ↓wi_loop, ↓wi_rf, ↓wy_seq, ↓wy_base, ↓wy_block, ↓wy_cond, ↓wy_loop, ↓wy_yld, ae_callvV, callvV_fn, List.append_nil, List.cons_append, List.nil_append, bin_nff, bin_nfn, bin_nffx, bin_nfnx]
  all_goals first | exact .refl s | exact .refl _ | skip
theorem q_zero (cl : Bool) {s : St} {id : Nat} {d : Bool} {v : AV} {own : Bool} (hb : s.get id = some (.row [ordV d, v] own)) : acall R_zero cl [.ptr id 0] s = some (.bool false, s) := run_same n_zero (by simp [a39]) rfl (w_zero (s := lowd s) hb)
noncomputable def R_F1 : Con := runFn (tb [(38, R_up), (37, R_down)]) a58
theorem s_F1 : SoundAt Try.prog 58 R_F1 := run_sound (tb_sound (l := [(38, R_up), (37, R_down)]) (by simpa using ⟨s_up, s_down⟩)) mixed Try.func58 k58 c58
theorem n_F1 : noNxtC a58.body = true := by kernel_rfl
theorem w_F1 {s : St} {b id : Nat} {own own2 : Bool} {d : Bool} {v : AV} (hb : s.get b = some (.row [.ptr id 0] own)) (hm : s.get id = some (.row [ordV d, v] own2)) (y : PrS) (k : Int) : ∀ env : Env, elen env = a58.ntmps → (∀ i x_, [.agg [.int .i64 y.1, .str y.2], .int .i64 k, .ptr b 0][i]? = some x_ → E env i = x_) → awp (tb [(38, R_up), (37, R_down)]) a58.body (fun x e t => (∀ i, x ≠ .exit i) ∧ aresults e t a58.results = some (.int .i64 (cmpD d y.1 k)) ∧ Keep s t) env s := by
  intro env hlen ha
  have h0 : E env 0 = _ := ha 0 _ rfl
  have h1 : E env 1 = _ := ha 1 _ rfl
  have h2 : E env 2 = _ := ha 2 _ rfl
  have hlen : elen env = _ := hlen
  simp only [a58] at hlen
  unfold a58
  try dsimp only [oO, oG]
  have hbx : boxV 2 (.agg [.int .i64 y.1, .str y.2]) = some (fun id => .ptr id 0, .row [.int .i64 y.1, .str y.2] true) := rfl
  have hK1 : Keep s (s.push (.row [.int .i64 y.1, .str y.2] true)) := (Keep.refl s).push _
  obtain ⟨a0, alt⟩ := row1_lod (hK1.blk hb)
  obtain ⟨b0, b1, blt⟩ := row2_lod (hK1.blk hm)
  obtain ⟨c0, c1, clt⟩ := row2_lod (St.get_push_new s (.row [.int .i64 y.1, .str y.2] true))
  cases d
  · have q1 := q_up false (s := s.push (.row [.int .i64 y.1, .str y.2] true)) y.1 k
    simp (config := {contextual := true, maxDischargeDepth := 12, maxSteps := 4000000}) only [tb_at, h0, h1, h2, hlen, hbx, a0, alt, b0, blt, c0, clt, nchkV_ptr, ordV_f, q1, reserve0, notV_bool, Bool.not_true, Bool.not_false, pickV_t, pickV_f, bin_eql, bin_neq, bin_neb, bin_npn, bin_np, bin_npnx, gcall_tt, gpure_tf, beq_self_eq_true, Bool.true_and, Bool.and_true, decide_true, decide_false, ↓bD, bU, forall_const, bS, implies_true, isNx, eq_self, ↓wp_cond, ↓wp_loop, ↓reduceIte, reduceCtorEq, Nat.reduceEqDiff, Nat.reduceLT, Nat.reduceAdd, Nat.reduceMul, bT, ↓sg_bsl, ↓st_callf, bX, ap_mkfn, ap_conv, ↓wi_seq, ↓wi_base, ↓wi_block, ↓wi_cond, ↓wi_loop, ↓wi_rf, ↓wy_seq, ↓wy_base, ↓wy_block, ↓wy_cond, ↓wy_loop, ↓wy_yld, ae_callvV, callvV_fn, List.append_nil, List.cons_append, List.nil_append, bin_nff, bin_nfn, bin_nffx, bin_nfnx]
    all_goals first | exact hK1 | skip
  · have q1 := q_down false (s := s.push (.row [.int .i64 y.1, .str y.2] true)) y.1 k
    simp (config := {contextual := true, maxDischargeDepth := 12, maxSteps := 4000000}) only [tb_at, h0, h1, h2, hlen, hbx, a0, alt, b0, blt, c0, clt, nchkV_ptr, ordV_t, q1, reserve0, notV_bool, Bool.not_true, Bool.not_false, pickV_t, pickV_f, bin_eql, bin_neq, bin_neb, bin_npn, bin_np, bin_npnx, gcall_tt, gpure_tf, beq_self_eq_true, Bool.true_and, Bool.and_true, decide_true, decide_false, ↓bD, bU, forall_const, bS, implies_true, isNx, eq_self, ↓wp_cond, ↓wp_loop, ↓reduceIte, reduceCtorEq, Nat.reduceEqDiff, Nat.reduceLT, Nat.reduceAdd, Nat.reduceMul, bT, ↓sg_bsl, ↓st_callf, bX, ap_mkfn, ap_conv, ↓wi_seq, ↓wi_base, ↓wi_block, ↓wi_cond, ↓wi_loop, ↓wi_rf, ↓wy_seq, ↓wy_base, ↓wy_block, ↓wy_cond, ↓wy_loop, ↓wy_yld, ae_callvV, callvV_fn, List.append_nil, List.cons_append, List.nil_append, bin_nff, bin_nfn, bin_nffx, bin_nfnx]
    all_goals first | exact hK1 | skip
theorem q_F1 (cl : Bool) {s : St} {b id : Nat} {own own2 : Bool} {d : Bool} {v : AV} (hb : s.get b = some (.row [.ptr id 0] own)) (hm : s.get id = some (.row [ordV d, v] own2)) (y : PrS) (k : Int) : acall R_F1 cl [.agg [.int .i64 y.1, .str y.2], .int .i64 k, .ptr b 0] s = some (.int .i64 (cmpD d y.1 k), s) := run_same n_F1 (by simp [a58]) rfl (w_F1 (s := lowd s) hb hm y k)
noncomputable def R_BSF : Con := runFn (tb [(58, R_F1)]) a57
theorem s_BSF : SoundAt Try.prog 57 R_BSF := run_sound (tb_sound (l := [(58, R_F1)]) (by simpa using s_F1)) mixed Try.func57 k57 c57
theorem n_BSF : noNxtC a57.body = true := by kernel_rfl
theorem w_BSF {s : St} {id : Nat} {q : Option Nat} {d : Bool} {L : List PrS} (hk : MpR s id q d L) (hs : SrtD d L) (k : Int) {b : Nat} {own : Bool} (hb : s.get b = some (.row [.ptr id 0] own)) : ∀ env : Env, elen env = a57.ntmps → (∀ i x_, [mpV q L, .int .i64 k, .fn 58 [.ptr b 0]][i]? = some x_ → E env i = x_) → awp (tb [(58, R_F1)]) a57.body (fun x e t => (∀ i, x ≠ .exit i) ∧ aresults e t a57.results = some (.tup [.int .i64 ((rkD d L k : Nat) : Int), .bool (gtD d L k).isSome]) ∧ Keep s t) env s := by
  intro env hlen ha
  have h0 : E env 0 = _ := ha 0 _ rfl
  have h1 : E env 1 = _ := ha 1 _ rfl
  have h2 : E env 2 = _ := ha 2 _ rfl
  have hlen : elen env = _ := hlen
  simp only [a57] at hlen
  unfold a57
  try dsimp only [oO, oG]
  have hL := hk.lenV
  have hll := hk.hn
  simp (config := {contextual := true, maxDischargeDepth := 12}) only [tb_at, h0, h1, h2, hlen, hL, ↓bD, bU, forall_const, bS, implies_true, isNx, eq_self, ↓wp_cond, ↓wp_loop, ↓reduceIte, reduceCtorEq, Nat.reduceEqDiff, Nat.reduceLT, Nat.reduceAdd, Nat.reduceMul, bT, ↓sg_bsl, ↓st_callf, bX, ap_mkfn, ap_conv, ↓wi_seq, ↓wi_base, ↓wi_block, ↓wi_cond, ↓wi_loop, ↓wi_rf, ↓wy_seq, ↓wy_base, ↓wy_block, ↓wy_cond, ↓wy_loop, ↓wy_yld, ae_callvV, callvV_fn, List.append_nil, List.cons_append, List.nil_append, bin_nff, bin_nfn, bin_nffx, bin_nfnx]
  obtain ⟨I, hI⟩ : ∃ I : Nat → Env → St → Prop, ∀ n0 e t, I n0 e t = (t = s ∧ ∃ i j : Nat, n0 = j - i ∧ i ≤ j ∧ j ≤ L.length ∧ elen e = 49 ∧ E e 0 = mpV q L ∧ E e 1 = .int .i64 k ∧ E e 2 = .fn 58 [.ptr b 0] ∧ E e 8 = .int .i64 (L.length : Int) ∧ E e 9 = .int .i64 (i : Int) ∧ E e 10 = .int .i64 (j : Int) ∧ (∀ (m : Nat) (y : PrS), m < i → L[m]? = some y → sg d y.1 < sg d k) ∧ ∀ (m : Nat) (y : PrS), j ≤ m → L[m]? = some y → ¬ sg d y.1 < sg d k) := ⟨fun n0 e t => (t = s ∧ ∃ i j : Nat, n0 = j - i ∧ i ≤ j ∧ j ≤ L.length ∧ elen e = 49 ∧ E e 0 = mpV q L ∧ E e 1 = .int .i64 k ∧ E e 2 = .fn 58 [.ptr b 0] ∧ E e 8 = .int .i64 (L.length : Int) ∧ E e 9 = .int .i64 (i : Int) ∧ E e 10 = .int .i64 (j : Int) ∧ (∀ (m : Nat) (y : PrS), m < i → L[m]? = some y → sg d y.1 < sg d k) ∧ ∀ (m : Nat) (y : PrS), j ≤ m → L[m]? = some y → ¬ sg d y.1 < sg d k), fun _ _ _ => rfl⟩
  refine lwp_inv I (n := L.length) ?_ ?_
  · rw [hI]
    exact ⟨rfl, 0, L.length, rfl, by omega, by omega, (by simp only [bE, Nat.reduceEqDiff, bN, Nat.reduceLT, hlen]; try rfl), (by simp only [bE, Nat.reduceEqDiff, bN, Nat.reduceLT, hlen, h0]; try rfl), (by simp only [bE, Nat.reduceEqDiff, bN, Nat.reduceLT, hlen, h1]; try rfl), (by simp only [bE, Nat.reduceEqDiff, bN, Nat.reduceLT, hlen, h2]; try rfl), (by simp only [bE, Nat.reduceEqDiff, bN, Nat.reduceLT, hlen]; try rfl), (by simp only [bE, Nat.reduceEqDiff, bN, Nat.reduceLT, hlen]; try rfl), (by simp only [bE, Nat.reduceEqDiff, bN, Nat.reduceLT, hlen]; try rfl), fun m y hm => by omega, fun m y hm hy => absurd (getlt hy) (by omega)⟩
  intro n0 e t hi
  rw [hI] at hi
  obtain ⟨rfl, i, j, rfl, hij, hjl, he, e0, e1, e2, e8, e9, e10, hpre, hpost⟩ := hi
  by_cases hlt : i < j
  · obtain ⟨m, hm⟩ : ∃ m, m = (i + j) / 2 := ⟨_, rfl⟩
    obtain ⟨x, hx⟩ := getsome (show m < L.length by omega)
    have w1 : IntKind.i64.wrap ((i : Int) + (j : Int)) = ((i + j : Nat) : Int) := by
      rw [← Int.natCast_add]
      exact wrapI (by omega) (by omega)
    have w2 := wrap_u64' (n := i + j) (by omega)
    have w3 : IntKind.i64.wrap (m : Int) = (m : Int) := wrapI (by omega) (by omega)
    have w4 := wrap_add1 (n := m) (by omega)
    have sh := bin_shr1 (i + j)
    rw [← hm] at sh
    obtain ⟨jj, _, i1, a1, _, _, a4⟩ := hk.at hx
    have q := q_F1 false hb hk.box x k
    have z1 := eq_true (show (i : Int) < (j : Int) by omega)
    by_cases hc : sg d x.1 < sg d k
    rotate_left
    · have hz : (cmpD d x.1 k < 0) = False := by rw [cmpD_neg]; exact eq_false hc
      simp (config := {contextual := true, maxDischargeDepth := 12}) only [tb_at, he, e0, e1, e2, e8, e9, e10, z1, w1, w2, w3, sh, a1, a4, i1, q, hz, ↓bD, bU, forall_const, bS, implies_true, isNx, eq_self, ↓wp_cond, ↓wp_loop, ↓reduceIte, reduceCtorEq, Nat.reduceEqDiff, Nat.reduceLT, Nat.reduceAdd, Nat.reduceMul, bT, ↓sg_bsl, ↓st_callf, bX, ap_mkfn, ap_conv, ↓wi_seq, ↓wi_base, ↓wi_block, ↓wi_cond, ↓wi_loop, ↓wi_rf, ↓wy_seq, ↓wy_base, ↓wy_block, ↓wy_cond, ↓wy_loop, ↓wy_yld, ae_callvV, callvV_fn, List.append_nil, List.cons_append, List.nil_append, bin_nff, bin_nfn, bin_nffx, bin_nfnx]
      refine ⟨m - i, by omega, ?_⟩
      rw [hI]
      exact ⟨rfl, i, m, rfl, by omega, by omega, (by simp only [bE, Nat.reduceEqDiff, bN, Nat.reduceLT, he, e0, e1, e2, e8, e9, e10]; try rfl), (by simp only [bE, Nat.reduceEqDiff, bN, Nat.reduceLT, he, e0, e1, e2, e8, e9, e10]; try rfl), (by simp only [bE, Nat.reduceEqDiff, bN, Nat.reduceLT, he, e0, e1, e2, e8, e9, e10]; try rfl), (by simp only [bE, Nat.reduceEqDiff, bN, Nat.reduceLT, he, e0, e1, e2, e8, e9, e10]; try rfl), (by simp only [bE, Nat.reduceEqDiff, bN, Nat.reduceLT, he, e0, e1, e2, e8, e9, e10]; try rfl), (by simp only [bE, Nat.reduceEqDiff, bN, Nat.reduceLT, he, e0, e1, e2, e8, e9, e10]; try rfl), (by simp only [bE, Nat.reduceEqDiff, bN, Nat.reduceLT, he, e0, e1, e2, e8, e9, e10]; try rfl), hpre, fun p y hp hy => by
        by_cases e : p = m
        · subst e
          rw [hx] at hy
          injection hy with hy
          rw [← hy]; exact hc
        · have := hs.lt hx hy (by omega)
          omega⟩
    · have hz : (cmpD d x.1 k < 0) = True := by rw [cmpD_neg]; exact eq_true hc
      simp (config := {contextual := true, maxDischargeDepth := 12}) only [tb_at, he, e0, e1, e2, e8, e9, e10, z1, w1, w2, w3, w4, sh, a1, a4, i1, q, hz, ↓bD, bU, forall_const, bS, implies_true, isNx, eq_self, ↓wp_cond, ↓wp_loop, ↓reduceIte, reduceCtorEq, Nat.reduceEqDiff, Nat.reduceLT, Nat.reduceAdd, Nat.reduceMul, bT, ↓sg_bsl, ↓st_callf, bX, ap_mkfn, ap_conv, ↓wi_seq, ↓wi_base, ↓wi_block, ↓wi_cond, ↓wi_loop, ↓wi_rf, ↓wy_seq, ↓wy_base, ↓wy_block, ↓wy_cond, ↓wy_loop, ↓wy_yld, ae_callvV, callvV_fn, List.append_nil, List.cons_append, List.nil_append, bin_nff, bin_nfn, bin_nffx, bin_nfnx]
      refine ⟨j - (m + 1), by omega, ?_⟩
      rw [hI]
      exact ⟨rfl, (m + 1), j, rfl, by omega, by omega, (by simp only [bE, Nat.reduceEqDiff, bN, Nat.reduceLT, he, e0, e1, e2, e8, e9, e10]; try rfl), (by simp only [bE, Nat.reduceEqDiff, bN, Nat.reduceLT, he, e0, e1, e2, e8, e9, e10]; try rfl), (by simp only [bE, Nat.reduceEqDiff, bN, Nat.reduceLT, he, e0, e1, e2, e8, e9, e10]; try rfl), (by simp only [bE, Nat.reduceEqDiff, bN, Nat.reduceLT, he, e0, e1, e2, e8, e9, e10]; try rfl), (by simp only [bE, Nat.reduceEqDiff, bN, Nat.reduceLT, he, e0, e1, e2, e8, e9, e10]; try rfl), (by simp only [bE, Nat.reduceEqDiff, bN, Nat.reduceLT, he, e0, e1, e2, e8, e9, e10]; try rfl), (by simp only [bE, Nat.reduceEqDiff, bN, Nat.reduceLT, he, e0, e1, e2, e8, e9, e10]; try rfl), fun p y hp hy => by
        by_cases e : p = m
        · subst e
          rw [hx] at hy
          injection hy with hy
          rw [← hy]; exact hc
        · have := hs.lt hy hx (by omega)
          omega, hpost⟩
  · obtain rfl : i = j := by omega
    have hkk : rkD d L k = i := rk_eq hjl hpre fun y hy => hpost i y (Nat.le_refl _) hy
    have z1 := eq_false (show ¬ (i : Int) < (i : Int) by omega)
    by_cases hil : i < L.length
    · obtain ⟨x, hx⟩ := getsome hil
      obtain ⟨jj, _, i1, a1, _, _, a4⟩ := hk.at hx
      have q := q_F1 false hb hk.box x k
      have hS : (gtD d L k).isSome = decide (x.1 = k) := by
        unfold gtD
        rw [hkk, hx]
        simp only
        by_cases e : x.1 = k
        · rw [if_pos e, decide_eq_true e]; rfl
        · rw [if_neg e, decide_eq_false e]; rfl
      have hz := cmpD_zero d x.1 k
      have z2 := eq_true (show (i : Int) < (L.length : Int) by omega)
      rw [hkk, hS]
      simp (config := {contextual := true, maxDischargeDepth := 12}) only [tb_at, he, e0, e1, e2, e8, e9, e10, z1, z2, a1, a4, i1, q, hz, ↓bD, bU, forall_const, bS, implies_true, isNx, eq_self, ↓wp_cond, ↓wp_loop, ↓reduceIte, reduceCtorEq, Nat.reduceEqDiff, Nat.reduceLT, Nat.reduceAdd, Nat.reduceMul, bT, ↓sg_bsl, ↓st_callf, bX, ap_mkfn, ap_conv, ↓wi_seq, ↓wi_base, ↓wi_block, ↓wi_cond, ↓wi_loop, ↓wi_rf, ↓wy_seq, ↓wy_base, ↓wy_block, ↓wy_cond, ↓wy_loop, ↓wy_yld, ae_callvV, callvV_fn, List.append_nil, List.cons_append, List.nil_append, bin_nff, bin_nfn, bin_nffx, bin_nfnx]
      all_goals first | exact .refl _ | skip
    · have hn : L[i]? = none := List.getElem?_eq_none (by omega)
      have hS : (gtD d L k).isSome = false := by unfold gtD; rw [hkk, hn]; rfl
      have z2 := eq_false (show ¬ (i : Int) < (L.length : Int) by omega)
      rw [hkk, hS]
      simp (config := {contextual := true, maxDischargeDepth := 12}) only [tb_at, he, e0, e1, e2, e8, e9, e10, z1, z2, ↓bD, bU, forall_const, bS, implies_true, isNx, eq_self, ↓wp_cond, ↓wp_loop, ↓reduceIte, reduceCtorEq, Nat.reduceEqDiff, Nat.reduceLT, Nat.reduceAdd, Nat.reduceMul, bT, ↓sg_bsl, ↓st_callf, bX, ap_mkfn, ap_conv, ↓wi_seq, ↓wi_base, ↓wi_block, ↓wi_cond, ↓wi_loop, ↓wi_rf, ↓wy_seq, ↓wy_base, ↓wy_block, ↓wy_cond, ↓wy_loop, ↓wy_yld, ae_callvV, callvV_fn, List.append_nil, List.cons_append, List.nil_append, bin_nff, bin_nfn, bin_nffx, bin_nfnx]
      all_goals first | exact .refl _ | skip
theorem q_BSF (cl : Bool) {s : St} {id : Nat} {q : Option Nat} {d : Bool} {L : List PrS} (hk : MpR s id q d L) (hs : SrtD d L) (k : Int) {b : Nat} {own : Bool} (hb : s.get b = some (.row [.ptr id 0] own)) : acall R_BSF cl [mpV q L, .int .i64 k, .fn 58 [.ptr b 0]] s = some (.tup [.int .i64 ((rkD d L k : Nat) : Int), .bool (gtD d L k).isSome], s) := run_same n_BSF (by simp [a57]) rfl (w_BSF (s := lowd s) hk.low hs k hb)

end Go.AM
end
/-
  Ordered maps: Get, Rank, At, Floor, Ceil, Set, Delete. Own work of this project; in part printed by a program of it.
-/
section
set_option maxRecDepth 100000
set_option maxHeartbeats 8000000
namespace Go.AM
open Go Go.Proofs

variable {s t u : St}

variable {id : Nat} {q : Option Nat} {d : Bool} {L : List PrS}
theorem MpR.sto1 (h : MpR t id q d L) {i : Nat} {x : PrS} (hx : L[i]? = some x) (v : ByteArray) : ∃ j, q = some j ∧ iadV 2 (mpV q L) (.int .i64 (i : Int)) = some (.ptr j (i * 2)) ∧ ltN j t ∧ AM.sto t 1 (.ptr j (i * 2 + 1)) (.str v) = some (.und, t.put j (.row (prC.cells (L.take i ++ (x.1, v) :: L.drop (i + 1))) true)) ∧ MpR (t.put j (.row (prC.cells (L.take i ++ (x.1, v) :: L.drop (i + 1))) true)) id (some j) d (L.take i ++ (x.1, v) :: L.drop (i + 1)) := by
  obtain ⟨j, rfl, h1, _, _, _, h5⟩ := h.at hx
  have hi := getlt hx
  obtain ⟨hne, hd⟩ := h.dat j rfl
  have hcl : (prC.cells L).length = L.length * 2 := by rw [cells_len, prC_sz]
  have hll : (L.take i ++ (x.1, v) :: L.drop (i + 1)).length = L.length := by
    rw [List.length_append, List.length_cons, List.length_take, List.length_drop]
    omega
  refine ⟨j, rfl, h1, h5, ?_, ?_, (fun e => by cases e), fun k e => ?_, by rw [hll]; exact h.hn⟩
  · simp only [AM.sto, hd]
    rw [if_pos ⟨rfl, rfl, by omega⟩]
    show some (AV.und, t.put j (.row (setAt (prC.cells L) (i * 2 + 1) [.str v]) true)) = _
    rw [pr_cells_set v hx]
  · rw [St.get_put_ne _ _ (St.get_lt hd) (Ne.symm hne), h.box]
    simp only [mpV, hll]
  · injection e with e
    subst e
    exact ⟨hne, St.get_put_same hd⟩
def putD (d : Bool) (L : List PrS) (k : Int) (v : ByteArray) : List PrS := L.take (rkD d L k) ++ (k, v) :: L.drop (if (gtD d L k).isSome = true then rkD d L k + 1 else rkD d L k)
def delD (d : Bool) (L : List PrS) (k : Int) : List PrS := if (gtD d L k).isSome = true then L.take (rkD d L k) ++ L.drop (rkD d L k + 1) else L
theorem put_len (d : Bool) (L : List PrS) (k : Int) (v : ByteArray) : (putD d L k v).length ≤ L.length + 1 := by
  unfold putD
  have := rk_le d k L
  rw [List.length_append, List.length_cons, List.length_take, List.length_drop]
  split <;> omega
theorem del_len (d : Bool) (L : List PrS) (k : Int) : (delD d L k).length ≤ L.length := by
  unfold delD
  split
  · rw [List.length_append, List.length_take, List.length_drop]
    omega
  · omega
theorem q_cIns (h : MpR t id q d L) (hn : L.length < 1000) {vid i : Nat} {x : PrS} (hv : t.get vid = some (.row [.int .i64 x.1, .str x.2] true)) (hvi : ∀ j, q = some j → j ≠ vid) (hi : i ≤ L.length) :
    ∃ t', acall conIns false [mpV q L, .int .i64 (i : Int), .sl vid 0 1 (some 1) 2] t = some (.sl t.next 0 (L.length + 1) none 2, t') ∧ t'.get t.next = some (.row (prC.cells (L.take i ++ x :: L.drop i)) true) ∧ t'.next = t.next + 1 ∧ Chg q.toList t t' := by
  cases q with
  | none =>
    have hL := h.nol rfl
    subst hL
    obtain rfl : i = 0 := by simpa using hi
    have e : conIns [mpV none [], .int .i64 ((0 : Nat) : Int), .sl vid 0 1 (some 1) 2] (lowd t) = some (.sl t.next 0 1 none 2, (lowd t).push (.row [.int .i64 x.1, .str x.2] true)) := by
      show (match t.get vid with
        | some (.row [a, b] true) => some (AV.sl t.next 0 1 none 2, (lowd t).push (.row [a, b] true))
        | _ => none) = _
      rw [hv]
    obtain ⟨t', g1, g2, g3, g4⟩ := acall_new e (((Keep.refl (lowd t)).push _).chg []) (.inl rfl)
    exact ⟨t', g1, by rw [g2]; exact St.get_push_new (lowd t) _, by rw [g3]; rfl, g4⟩
  | some j =>
    obtain ⟨hne, hd⟩ := h.dat j rfl
    have hlt := St.get_lt hd
    have hvj := hvi j rfl
    have e : conIns [mpV (some j) L, .int .i64 (i : Int), .sl vid 0 1 (some 1) 2] (lowd t) = some (.sl t.next 0 (L.length + 1) none 2, hidS (lowd t) j (insC (prC.cells L) i [.int .i64 x.1, .str x.2])) := by
      show (match t.get j, t.get vid with
        | some (.row cs true), some (.row [a, b] true) => if j ≠ vid ∧ cs.length = L.length * 2 ∧ L.length ≤ 100000 ∧ 0 ≤ (i : Int) ∧ (i : Int) ≤ L.length then some (AV.sl t.next 0 (L.length + 1) none 2, hidS (lowd t) j (insC cs (i : Int).toNat [a, b])) else none
        | _, _ => none) = _
      rw [hd, hv]
      simp only
      rw [if_pos ⟨hvj, by rw [cells_len, prC_sz], by omega, by omega, by omega⟩, Int.toNat_natCast]
    have hC : Chg [j] (lowd t) (hidS (lowd t) j (insC (prC.cells L) i [.int .i64 x.1, .str x.2])) := by
      refine ((Chg.refl [j] (lowd t)).put .dead (.inl (by simp)) hlt).push _
    obtain ⟨t', g1, g2, g3, g4⟩ := acall_new e hC (.inl rfl)
    refine ⟨t', g1, ?_, by rw [g3, hidS_next], g4⟩
    rw [g2, ← pr_ins]
    exact hidS_new (lowd t) j _
theorem q_cDel {j : Nat} (h : MpR t id (some j) d L) {i : Nat} (hi : i < L.length) :
    ∃ t', acall conDel false [mpV (some j) L, .int .i64 (i : Int), .int .i64 ((i + 1 : Nat) : Int)] t = some (.sl t.next 0 (L.length - 1) none 2, t') ∧ t'.get t.next = some (.row (prC.cells (L.take i ++ L.drop (i + 1))) true) ∧ t'.next = t.next + 1 ∧ Chg [j] t t' := by
  obtain ⟨hne, hd⟩ := h.dat j rfl
  have hn := h.hn
  have hlt := St.get_lt hd
  have e : conDel [mpV (some j) L, .int .i64 (i : Int), .int .i64 ((i + 1 : Nat) : Int)] (lowd t) = some (.sl t.next 0 (L.length - 1) none 2, hidS (lowd t) j (delC (prC.cells L) i)) := by
    show (match t.get j with
      | some (.row cs true) => if cs.length = L.length * 2 ∧ L.length ≤ 100000 ∧ 0 ≤ (i : Int) ∧ (i : Int) < L.length ∧ ((i + 1 : Nat) : Int) = (i : Int) + 1 then some (AV.sl t.next 0 (L.length - 1) none 2, hidS (lowd t) j (delC cs (i : Int).toNat)) else none
      | _ => none) = _
    rw [hd]
    simp only
    rw [if_pos ⟨by rw [cells_len, prC_sz], by omega, by omega, by omega, by omega⟩, Int.toNat_natCast]
  have hC : Chg [j] (lowd t) (hidS (lowd t) j (delC (prC.cells L) i)) := ((Chg.refl [j] (lowd t)).put .dead (.inl (by simp)) hlt).push _
  obtain ⟨t', g1, g2, g3, g4⟩ := acall_new e hC (.inl rfl)
  refine ⟨t', g1, ?_, by rw [g3, hidS_next], g4⟩
  rw [g2, ← pr_del]
  exact hidS_new (lowd t) j _
noncomputable def R_find : Con := runFn (tb [(39, R_zero), (57, R_BSF)]) a40
theorem s_find : SoundAt Try.prog 40 R_find := run_sound (tb_sound (l := [(39, R_zero), (57, R_BSF)]) (by simpa using ⟨s_zero, s_BSF⟩)) mixed Try.func40 k40 c40
theorem n_find : noNxtC a40.body = true := by kernel_rfl
theorem w_find {s : St} {id : Nat} {q : Option Nat} {d : Bool} {L : List PrS} (hk : MpR s id q d L) (hs : SrtD d L) (k : Int) : ∀ env : Env, elen env = a40.ntmps → (∀ i x_, [.ptr id 0, .int .i64 k][i]? = some x_ → E env i = x_) → awp (tb [(39, R_zero), (57, R_BSF)]) a40.body (fun x e t => (∀ i, x ≠ .exit i) ∧ aresults e t a40.results = some (.tup [.int .i64 ((rkD d L k : Nat) : Int), .bool (gtD d L k).isSome]) ∧ Keep s t) env s := by
  intro env hlen ha
  have h0 : E env 0 = _ := ha 0 _ rfl
  have h1 : E env 1 = _ := ha 1 _ rfl
  have hlen : elen env = _ := hlen
  simp only [a40] at hlen
  unfold a40
  try dsimp only [oO, oG]
  have hbx : boxV 1 (.ptr id 0) = some (fun id => .ptr id 0, .row [.ptr id 0] true) := rfl
  have hK1 : Keep s (s.push (.row [.ptr id 0] true)) := (Keep.refl s).push _
  have hk1 := hk.keep hK1
  obtain ⟨a0, alt⟩ := row1_lod (St.get_push_new s (.row [.ptr id 0] true))
  obtain ⟨b0, b1, blt⟩ := row2_lod hk1.box
  have q1 := q_zero false hk1.box
  have q2 := q_BSF false hk1 hs k (St.get_push_new s (.row [.ptr id 0] true))
  simp (config := {contextual := true, maxDischargeDepth := 12, maxSteps := 4000000}) only [tb_at, h0, h1, hlen, hbx, a0, alt, b0, b1, blt, nchkV_ptr, q1, q2, notV_bool, Bool.not_true, Bool.not_false, pickV_t, pickV_f, bin_eql, bin_neq, bin_neb, bin_npn, bin_np, bin_npnx, gcall_tt, gpure_tf, beq_self_eq_true, Bool.true_and, Bool.and_true, decide_true, decide_false, ↓bD, bU, forall_const, bS, implies_true, isNx, eq_self, ↓wp_cond, ↓wp_loop, ↓reduceIte, reduceCtorEq, Nat.reduceEqDiff, Nat.reduceLT, Nat.reduceAdd, Nat.reduceMul, bT, ↓sg_bsl, ↓st_callf, bX, ap_mkfn, ap_conv, ↓wi_seq, ↓wi_base, ↓wi_block, ↓wi_cond, ↓wi_loop, ↓wi_rf, ↓wy_seq, ↓wy_base, ↓wy_block, ↓wy_cond, ↓wy_loop, ↓wy_yld, ae_callvV, callvV_fn, List.append_nil, List.cons_append, List.nil_append, bin_nff, bin_nfn, bin_nffx, bin_nfnx]
  all_goals first | exact hK1 | skip
theorem q_find (cl : Bool) {s : St} {id : Nat} {q : Option Nat} {d : Bool} {L : List PrS} (hk : MpR s id q d L) (hs : SrtD d L) (k : Int) : acall R_find cl [.ptr id 0, .int .i64 k] s = some (.tup [.int .i64 ((rkD d L k : Nat) : Int), .bool (gtD d L k).isSome], s) := run_same n_find (by simp [a40]) rfl (w_find (s := lowd s) hk.low hs k)
noncomputable def R_Rank : Con := runFn (tb [(40, R_find)]) a26
theorem s_Rank : SoundAt Try.prog 26 R_Rank := run_sound (tb_sound (l := [(40, R_find)]) (by simpa using s_find)) mixed Try.func26 k26 c26
theorem n_Rank : noNxtC a26.body = true := by kernel_rfl
theorem w_Rank {s : St} {id : Nat} {q : Option Nat} {d : Bool} {L : List PrS} (hk : MpR s id q d L) (hs : SrtD d L) (k : Int) : ∀ env : Env, elen env = a26.ntmps → (∀ i x_, [.ptr id 0, .int .i64 k][i]? = some x_ → E env i = x_) → awp (tb [(40, R_find)]) a26.body (fun x e t => (∀ i, x ≠ .exit i) ∧ aresults e t a26.results = some (.int .i64 ((rkD d L k : Nat) : Int)) ∧ Keep s t) env s := by
  intro env hlen ha
  have h0 : E env 0 = _ := ha 0 _ rfl
  have h1 : E env 1 = _ := ha 1 _ rfl
  have hlen : elen env = _ := hlen
  simp only [a26] at hlen
  unfold a26
  try dsimp only [oO, oG]
  have q1 := q_find false hk hs k
  simp (config := {contextual := true, maxDischargeDepth := 12, maxSteps := 4000000}) only [tb_at, h0, h1, hlen, q1, notV_bool, Bool.not_true, Bool.not_false, pickV_t, pickV_f, bin_eql, bin_neq, bin_neb, bin_npn, bin_np, bin_npnx, gcall_tt, gpure_tf, beq_self_eq_true, Bool.true_and, Bool.and_true, decide_true, decide_false, ↓bD, bU, forall_const, bS, implies_true, isNx, eq_self, ↓wp_cond, ↓wp_loop, ↓reduceIte, reduceCtorEq, Nat.reduceEqDiff, Nat.reduceLT, Nat.reduceAdd, Nat.reduceMul, bT, ↓sg_bsl, ↓st_callf, bX, ap_mkfn, ap_conv, ↓wi_seq, ↓wi_base, ↓wi_block, ↓wi_cond, ↓wi_loop, ↓wi_rf, ↓wy_seq, ↓wy_base, ↓wy_block, ↓wy_cond, ↓wy_loop, ↓wy_yld, ae_callvV, callvV_fn, List.append_nil, List.cons_append, List.nil_append, bin_nff, bin_nfn, bin_nffx, bin_nfnx]
  all_goals first | exact .refl s | exact .refl _ | skip
theorem q_Rank (cl : Bool) {s : St} {id : Nat} {q : Option Nat} {d : Bool} {L : List PrS} (hk : MpR s id q d L) (hs : SrtD d L) (k : Int) : acall R_Rank cl [.ptr id 0, .int .i64 k] s = some (.int .i64 ((rkD d L k : Nat) : Int), s) := run_same n_Rank (by simp [a26]) rfl (w_Rank (s := lowd s) hk.low hs k)
noncomputable def R_Set : Con := runFn (tb [(39, R_zero), (40, R_find), (41, conIns)]) a11
theorem s_Set : SoundAt Try.prog 11 R_Set := run_sound (tb_sound (l := [(39, R_zero), (40, R_find), (41, conIns)]) (by simpa using ⟨s_zero, s_find, s_cInsI⟩)) mixed Try.func11 k11 c11
theorem n_Set : noNxtC a11.body = true := by kernel_rfl

theorem fstep_bw0' {x : AV} (hx : x.cells = [x] ∧ x.one = true) (z w : AV) (K : List AV → Option (List AV)) : fstep [z, w] 0 1 x K = K [x, w] := by simp [fstep, hx.1, hx.2, setAt]
theorem fstep_bw1' {x : AV} (hx : x.cells = [x] ∧ x.one = true) (z w : AV) (K : List AV → Option (List AV)) : fstep [z, w] 1 1 x K = K [z, x] := by simp [fstep, hx.1, hx.2, setAt]
theorem gtD_split (d : Bool) (L : List PrS) (k : Int) : (gtD d L k = none ∧ (gtD d L k).isSome = false) ∨ ∃ v, gtD d L k = some v ∧ (gtD d L k).isSome = true := by cases gtD d L k <;> simp
theorem low_put (u : St) (i : Nat) (b : AB) {n : Nat} (h : i < n) : (u.put i b).low < n := by simp; omega
theorem w_Set {s : St} {id : Nat} {q : Option Nat} {d : Bool} {L : List PrS} (hk : MpR s id q d L) (hs : SrtD d L) (k : Int) (v : ByteArray) (hn : L.length < 1000) : ∀ env : Env, elen env = a11.ntmps → (∀ i x_, [.ptr id 0, .int .i64 k, .str v][i]? = some x_ → E env i = x_) → awp (tb [(39, R_zero), (40, R_find), (41, conIns)]) a11.body (fun x e t => (∀ i, x ≠ .exit i) ∧ ∃ r, aresults e t a11.results = some r ∧ (r = getV (gtD d L k) ∧ ∃ q', MpR t id q' d (putD d L k v) ∧ ∀ j, q' = some j → q = some j ∨ s.next ≤ j) ∧ Chg (id :: q.toList) s t ∧ (r.ground = false ∨ t.low < s.next)) env s := by
  intro env hlen ha
  have h0 : E env 0 = _ := ha 0 _ rfl
  have h1 : E env 1 = _ := ha 1 _ rfl
  have h2 : E env 2 = _ := ha 2 _ rfl
  have hlen : elen env = _ := hlen
  simp only [a11] at hlen
  unfold a11
  try dsimp only [oO, oG]
  have q1 := q_zero false hk.box
  have q2 := q_find false hk hs k
  obtain ⟨b0, b1, blt⟩ := row2_lod hk.box
  have hid := St.get_lt hk.box
  rcases gtD_split d L k with ⟨hg, hg1⟩ | ⟨v0, hg, hg1⟩
  · rw [hg1] at q2
    have fs0 := fstep_bw0' (x := .int .i64 k) ⟨rfl, rfl⟩ (.int .i64 0) (.str ⟨#[]⟩)
    have fs1 := fstep_bw1' (x := .str v) ⟨rfl, rfl⟩ (.int .i64 k) (.str ⟨#[]⟩)
    have hbs : bslV [.int .i64 0, .str ⟨#[]⟩] 1 2 [(0, .agg [.int .i64 k, .str v])] = some (fun id => .sl id 0 1 (some 1) 2, .row [.int .i64 k, .str v] true) := by
      simp [bslV, fillP, aev, AV.cells, AV.one, setAt]
    have hK1 : Keep s (s.push (.row [.int .i64 k, .str v] true)) := (Keep.refl s).push _
    have hrk := rk_le d k L
    obtain ⟨t1, q3, g1, g2, hC⟩ := q_cIns (hk.keep hK1) hn (vid := s.next) (i := rkD d L k) (x := (k, v)) (St.get_push_new s _) (fun j e => by have := St.get_lt (hk.dat j e).2; omega) hrk
    have hbx1 : t1.get id = some (.row [ordV d, mpV q L] true) := hC.blk (hK1.blk hk.box) (by
      cases q with
      | none => simp
      | some j => simpa using Ne.symm (hk.dat j rfl).1)
    obtain ⟨_, st1⟩ := row2_sto hbx1 (x := .sl (s.push (.row [.int .i64 k, .str v] true)).next 0 (L.length + 1) none 2) rfl rfl
    have ht1 := St.get_lt hbx1
    rw [hg]
    simp only [getV]
    simp (config := {contextual := true, maxDischargeDepth := 12, maxSteps := 4000000}) only [tb_at, h0, h1, h2, hlen, q1, q2, b1, blt, nchkV_ptr, ap_build, fillP_nil, fillP_cons, fs0, fs1, hbs, q3, st1, ht1, notV_bool, Bool.not_true, Bool.not_false, pickV_t, pickV_f, bin_eql, bin_neq, bin_neb, bin_npn, bin_np, bin_npnx, gcall_tt, gpure_tf, beq_self_eq_true, Bool.true_and, Bool.and_true, decide_true, decide_false, ↓bD, bU, forall_const, bS, implies_true, isNx, eq_self, ↓wp_cond, ↓wp_loop, ↓reduceIte, reduceCtorEq, Nat.reduceEqDiff, Nat.reduceLT, Nat.reduceAdd, Nat.reduceMul, bT, ↓sg_bsl, ↓st_callf, bX, ap_mkfn, ap_conv, ↓wi_seq, ↓wi_base, ↓wi_block, ↓wi_cond, ↓wi_loop, ↓wi_rf, ↓wy_seq, ↓wy_base, ↓wy_block, ↓wy_cond, ↓wy_loop, ↓wy_yld, ae_callvV, callvV_fn, List.append_nil, List.cons_append, List.nil_append, bin_nff, bin_nfn, bin_nffx, bin_nfnx]
    have hpd : putD d L k v = L.take (rkD d L k) ++ (k, v) :: L.drop (rkD d L k) := by unfold putD; rw [hg1]; rfl
    have hpl : (putD d L k v).length = L.length + 1 := by
      rw [hpd, List.length_append, List.length_cons, List.length_take, List.length_drop]
      omega
    have hnn : (s.push (.row [.int .i64 k, .str v] true)).next = s.next + 1 := rfl
    refine ⟨_, rfl, ⟨rfl, some (s.next + 1), ⟨?_, (fun e => by cases e), fun j e => ?_, by omega⟩, fun j e => by injection e with e; omega⟩, ?_, .inr (low_put _ _ _ hid)⟩
    · rw [St.get_put_same hbx1]
      simp only [mpV, hpl, hnn]
    · injection e with e
      subst e
      refine ⟨by omega, ?_⟩
      rw [St.get_put_ne _ _ (by omega) (by omega), hpd, ← hnn]
      exact g1
    · refine ((hK1.chg (id :: q.toList)).trans (M' := q.toList) hC fun i hi => .inl (List.mem_cons_of_mem _ hi)).put _ (.inl (by simp)) ht1
  · rw [hg1] at q2
    obtain ⟨j, rfl, i1, a1, a2, a3, a4⟩ := hk.at (gt_some hg)
    obtain ⟨j', e', i2, lt2, st1, hk2⟩ := hk.sto1 (gt_some hg) v
    obtain rfl : j = j' := by injection e'
    rw [hg]
    simp only [getV]
    simp (config := {contextual := true, maxDischargeDepth := 12, maxSteps := 4000000}) only [tb_at, h0, h1, h2, hlen, q1, q2, b1, blt, nchkV_ptr, i1, a3, a4, st1, notV_bool, Bool.not_true, Bool.not_false, pickV_t, pickV_f, bin_eql, bin_neq, bin_neb, bin_npn, bin_np, bin_npnx, gcall_tt, gpure_tf, beq_self_eq_true, Bool.true_and, Bool.and_true, decide_true, decide_false, ↓bD, bU, forall_const, bS, implies_true, isNx, eq_self, ↓wp_cond, ↓wp_loop, ↓reduceIte, reduceCtorEq, Nat.reduceEqDiff, Nat.reduceLT, Nat.reduceAdd, Nat.reduceMul, bT, ↓sg_bsl, ↓st_callf, bX, ap_mkfn, ap_conv, ↓wi_seq, ↓wi_base, ↓wi_block, ↓wi_cond, ↓wi_loop, ↓wi_rf, ↓wy_seq, ↓wy_base, ↓wy_block, ↓wy_cond, ↓wy_loop, ↓wy_yld, ae_callvV, callvV_fn, List.append_nil, List.cons_append, List.nil_append, bin_nff, bin_nfn, bin_nffx, bin_nfnx]
    have hpd : putD d L k v = L.take (rkD d L k) ++ (k, v) :: L.drop (rkD d L k + 1) := by unfold putD; rw [hg1]; rfl
    have hjl := St.get_lt (hk.dat j rfl).2
    rw [hpd]
    exact ⟨_, rfl, ⟨rfl, some j, hk2, fun i e => .inl e⟩, (Chg.refl _ s).put _ (.inl (by simp)) hjl, .inr (low_put _ _ _ hjl)⟩
theorem q_Set {s : St} {id : Nat} {q : Option Nat} {d : Bool} {L : List PrS} (hk : MpR s id q d L) (hs : SrtD d L) (k : Int) (v : ByteArray) (hn : L.length < 1000) : ∃ t, acall R_Set false [.ptr id 0, .int .i64 k, .str v] s = some (getV (gtD d L k), t) ∧ (∃ q', MpR t id q' d (putD d L k v) ∧ ∀ j, q' = some j → q = some j ∨ s.next ≤ j) ∧ Chg (id :: q.toList) s t ∧ t.low < s.next := by
  obtain ⟨r, t, h1, ⟨rfl, h2⟩, h3, h4⟩ := run_newl n_Set (by simp [a11]) (Q := fun r t => r = getV (gtD d L k) ∧ ∃ q', MpR t id q' d (putD d L k v) ∧ ∀ j, q' = some j → q = some j ∨ s.next ≤ j) (fun r t t' hg hn hq => by
    have hmono : ∀ id b, t.get id = some b → t'.get id = some b := fun id b hb => by rw [hg]; exact hb
    obtain ⟨q1, q', q2, q3⟩ := hq
    exact ⟨q1, q', q2.mono hmono, q3⟩) (w_Set (s := lowd s) hk.low hs k v hn)
  exact ⟨t, h1, h2, h3, h4.resolve_left (by first | (intro h; cases h; done) | (cases gtD d L k <;> (intro h; cases h)))⟩
noncomputable def R_Delete : Con := runFn (tb [(40, R_find), (44, conDel)]) a17
theorem s_Delete : SoundAt Try.prog 17 R_Delete := run_sound (tb_sound (l := [(40, R_find), (44, conDel)]) (by simpa using ⟨s_find, s_cDelI⟩)) mixed Try.func17 k17 c17
theorem n_Delete : noNxtC a17.body = true := by kernel_rfl
theorem w_Delete_m {s : St} {id : Nat} {q : Option Nat} {d : Bool} {L : List PrS} (hk : MpR s id q d L) (hs : SrtD d L) (k : Int) (hg : gtD d L k = none) : ∀ env : Env, elen env = a17.ntmps → (∀ i x_, [.ptr id 0, .int .i64 k][i]? = some x_ → E env i = x_) → awp (tb [(40, R_find), (44, conDel)]) a17.body (fun x e t => (∀ i, x ≠ .exit i) ∧ aresults e t a17.results = some (.bool false) ∧ Keep s t) env s := by
  intro env hlen ha
  have h0 : E env 0 = _ := ha 0 _ rfl
  have h1 : E env 1 = _ := ha 1 _ rfl
  have hlen : elen env = _ := hlen
  simp only [a17] at hlen
  unfold a17
  try dsimp only [oO, oG]
  have q2 := q_find false hk hs k
  have hg1 : (gtD d L k).isSome = false := by rw [hg]; rfl
  rw [hg1] at q2
  simp (config := {contextual := true, maxDischargeDepth := 12, maxSteps := 4000000}) only [tb_at, h0, h1, hlen, q2, notV_bool, Bool.not_true, Bool.not_false, pickV_t, pickV_f, bin_eql, bin_neq, bin_neb, bin_npn, bin_np, bin_npnx, gcall_tt, gpure_tf, beq_self_eq_true, Bool.true_and, Bool.and_true, decide_true, decide_false, ↓bD, bU, forall_const, bS, implies_true, isNx, eq_self, ↓wp_cond, ↓wp_loop, ↓reduceIte, reduceCtorEq, Nat.reduceEqDiff, Nat.reduceLT, Nat.reduceAdd, Nat.reduceMul, bT, ↓sg_bsl, ↓st_callf, bX, ap_mkfn, ap_conv, ↓wi_seq, ↓wi_base, ↓wi_block, ↓wi_cond, ↓wi_loop, ↓wi_rf, ↓wy_seq, ↓wy_base, ↓wy_block, ↓wy_cond, ↓wy_loop, ↓wy_yld, ae_callvV, callvV_fn, List.append_nil, List.cons_append, List.nil_append, bin_nff, bin_nfn, bin_nffx, bin_nfnx]
  all_goals first | exact .refl s | exact .refl _ | skip
theorem q_Delete_m (cl : Bool) {s : St} {id : Nat} {q : Option Nat} {d : Bool} {L : List PrS} (hk : MpR s id q d L) (hs : SrtD d L) (k : Int) (hg : gtD d L k = none) : acall R_Delete cl [.ptr id 0, .int .i64 k] s = some (.bool false, s) := run_same n_Delete (by simp [a17]) rfl (w_Delete_m (s := lowd s) hk.low hs k hg)
theorem w_Delete_h {s : St} {id : Nat} {q : Option Nat} {d : Bool} {L : List PrS} (hk : MpR s id q d L) (hs : SrtD d L) (k : Int) (hg : (gtD d L k).isSome = true) : ∀ env : Env, elen env = a17.ntmps → (∀ i x_, [.ptr id 0, .int .i64 k][i]? = some x_ → E env i = x_) → awp (tb [(40, R_find), (44, conDel)]) a17.body (fun x e t => (∀ i, x ≠ .exit i) ∧ ∃ r, aresults e t a17.results = some r ∧ (r = .bool true ∧ ∃ q', MpR t id q' d (delD d L k) ∧ ∀ j, q' = some j → q = some j ∨ s.next ≤ j) ∧ Chg (id :: q.toList) s t ∧ (r.ground = false ∨ t.low < s.next)) env s := by
  intro env hlen ha
  have h0 : E env 0 = _ := ha 0 _ rfl
  have h1 : E env 1 = _ := ha 1 _ rfl
  have hlen : elen env = _ := hlen
  simp only [a17] at hlen
  unfold a17
  try dsimp only [oO, oG]
  have q2 := q_find false hk hs k
  obtain ⟨b0, b1, blt⟩ := row2_lod hk.box
  have hid := St.get_lt hk.box
  obtain ⟨v0, hv0⟩ := Option.isSome_iff_exists.1 hg
  rw [hg] at q2
  have hx := gt_some hv0
  have hil := getlt hx
  obtain ⟨j, rfl, i1, a1, a2, a3, a4⟩ := hk.at hx
  have hw := wrap_add1 (n := rkD d L k) (by have := hk.hn; omega)
  obtain ⟨t1, q3, g1, g2, hC⟩ := q_cDel hk hil
  have hbx1 : t1.get id = some (.row [ordV d, mpV (some j) L] true) := hC.blk hk.box (by simpa using Ne.symm (hk.dat j rfl).1)
  obtain ⟨_, st1⟩ := row2_sto hbx1 (x := .sl s.next 0 (L.length - 1) none 2) rfl rfl
  have ht1 := St.get_lt hbx1
  simp (config := {contextual := true, maxDischargeDepth := 12, maxSteps := 4000000}) only [tb_at, h0, h1, hlen, q2, b1, blt, nchkV_ptr, hw, q3, st1, ht1, notV_bool, Bool.not_true, Bool.not_false, pickV_t, pickV_f, bin_eql, bin_neq, bin_neb, bin_npn, bin_np, bin_npnx, gcall_tt, gpure_tf, beq_self_eq_true, Bool.true_and, Bool.and_true, decide_true, decide_false, ↓bD, bU, forall_const, bS, implies_true, isNx, eq_self, ↓wp_cond, ↓wp_loop, ↓reduceIte, reduceCtorEq, Nat.reduceEqDiff, Nat.reduceLT, Nat.reduceAdd, Nat.reduceMul, bT, ↓sg_bsl, ↓st_callf, bX, ap_mkfn, ap_conv, ↓wi_seq, ↓wi_base, ↓wi_block, ↓wi_cond, ↓wi_loop, ↓wi_rf, ↓wy_seq, ↓wy_base, ↓wy_block, ↓wy_cond, ↓wy_loop, ↓wy_yld, ae_callvV, callvV_fn, List.append_nil, List.cons_append, List.nil_append, bin_nff, bin_nfn, bin_nffx, bin_nfnx]
  have hpd : delD d L k = L.take (rkD d L k) ++ L.drop (rkD d L k + 1) := by unfold delD; rw [hg]; rfl
  have hpl : (delD d L k).length = L.length - 1 := by
    rw [hpd, List.length_append, List.length_take, List.length_drop]
    omega
  have hn := hk.hn
  refine ⟨_, rfl, ⟨rfl, some s.next, ⟨?_, (fun e => by cases e), fun i e => ?_, by omega⟩, fun i e => by injection e with e; omega⟩, ?_, .inr (low_put _ _ _ hid)⟩
  · rw [St.get_put_same hbx1]
    simp only [mpV, hpl]
  · injection e with e
    subst e
    refine ⟨by omega, ?_⟩
    rw [St.get_put_ne _ _ (by omega) (by omega), hpd]
    exact g1
  · exact ((Chg.refl (id :: [j]) s).trans (M' := [j]) hC fun i hi => .inl (List.mem_cons_of_mem _ hi)).put _ (.inl (by simp)) ht1
theorem q_Delete_h {s : St} {id : Nat} {q : Option Nat} {d : Bool} {L : List PrS} (hk : MpR s id q d L) (hs : SrtD d L) (k : Int) (hg : (gtD d L k).isSome = true) : ∃ t, acall R_Delete false [.ptr id 0, .int .i64 k] s = some (.bool true, t) ∧ (∃ q', MpR t id q' d (delD d L k) ∧ ∀ j, q' = some j → q = some j ∨ s.next ≤ j) ∧ Chg (id :: q.toList) s t ∧ t.low < s.next := by
  obtain ⟨r, t, h1, ⟨rfl, h2⟩, h3, h4⟩ := run_newl n_Delete (by simp [a17]) (Q := fun r t => r = .bool true ∧ ∃ q', MpR t id q' d (delD d L k) ∧ ∀ j, q' = some j → q = some j ∨ s.next ≤ j) (fun r t t' hg hn hq => by
    have hmono : ∀ id b, t.get id = some b → t'.get id = some b := fun id b hb => by rw [hg]; exact hb
    obtain ⟨q1, q', q2, q3⟩ := hq
    exact ⟨q1, q', q2.mono hmono, q3⟩) (w_Delete_h (s := lowd s) hk.low hs k hg)
  exact ⟨t, h1, h2, h3, h4.resolve_left (by first | (intro h; cases h; done) | (cases gtD d L k <;> (intro h; cases h)))⟩
theorem q_Delete {s : St} {id : Nat} {q : Option Nat} {d : Bool} {L : List PrS} (hk : MpR s id q d L) (hs : SrtD d L) (k : Int) : ∃ t, acall R_Delete false [.ptr id 0, .int .i64 k] s = some (.bool (gtD d L k).isSome, t) ∧ (∃ q', MpR t id q' d (delD d L k) ∧ ∀ j, q' = some j → q = some j ∨ s.next ≤ j) ∧ Chg (id :: q.toList) s t := by
  rcases gtD_split d L k with ⟨hg, hg1⟩ | ⟨v0, hg, hg1⟩
  · have hd : delD d L k = L := by unfold delD; rw [hg1]; rfl
    rw [hg1, hd]
    exact ⟨s, q_Delete_m false hk hs k hg, ⟨q, hk, fun j e => .inl e⟩, .refl _ s⟩
  · obtain ⟨t, h1, h2, h3, _⟩ := q_Delete_h hk hs k hg1
    rw [hg1]
    exact ⟨t, h1, h2, h3⟩
end Go.AM
end
/-
  Functions that range over functions, as the abstract machine runs them. Printed by a program of this project.
-/
section
set_option maxRecDepth 100000
namespace Go.AM
open Go Go.Proofs

/- redpencil/omap.over[int,string]$1 -/
def y63 : AY :=
  .seq (.base (.reg [oO 5 (.load1 (.t 1)),
 oO 6 (.len .sl (.t 5)),
 oO 7 (.mv (.c (.int .i64 0)))]))
 (.block 0 (.loop (.seq (.base (.reg [oO 8 (.bin .lss .no (.t 7) (.t 6))]))
 (.seq (.cond (.t 8) (.base (.skip))
 (.base (.exit 0)))
 (.seq (.block 1 (.seq (.base (.reg [oO 9 (.iad 2 (.t 5) (.t 7)),
 oO 10 (.loadn 2 (.t 9)),
 oO 4 (.alloc [(.int .i64 0), (.str ⟨#[]⟩)]),
 ⟨none, .store 2 (.t 4) (.t 10), none, none, false⟩]))
 (.seq (.yld [oO 11 (.mv (.t 0)),
 oO 12 (.fad 0 (.t 4)),
 oO 13 (.load1 (.t 12)),
 oO 14 (.fad 1 (.t 4)),
 oO 15 (.load1 (.t 14))] (some 16) (.t 11) [(.t 13), (.t 15)] [oO 17 (.un .not (.t 16))])
 (.cond (.t 17) (.base (.ret))
 (.base (.skip))))))
 (.base (.reg [oO 18 (.bin .add .no (.t 7) (.c (.int .i64 1))),
 oO 7 (.mv (.t 18))])))))))
/- redpencil/omap.over[string,[]int]$1 -/
def y69 : AY :=
  .seq (.base (.reg [oO 5 (.load1 (.t 1)),
 oO 6 (.len .sl (.t 5)),
 oO 7 (.mv (.c (.int .i64 0)))]))
 (.block 0 (.loop (.seq (.base (.reg [oO 8 (.bin .lss .no (.t 7) (.t 6))]))
 (.seq (.cond (.t 8) (.base (.skip))
 (.base (.exit 0)))
 (.seq (.block 1 (.seq (.base (.reg [oO 9 (.iad 2 (.t 5) (.t 7)),
 oO 10 (.loadn 2 (.t 9)),
 oO 4 (.alloc [(.str ⟨#[]⟩), .nils]),
 ⟨none, .store 2 (.t 4) (.t 10), none, none, false⟩]))
 (.seq (.yld [oO 11 (.mv (.t 0)),
 oO 12 (.fad 0 (.t 4)),
 oO 13 (.load1 (.t 12)),
 oO 14 (.fad 1 (.t 4)),
 oO 15 (.load1 (.t 14))] (some 16) (.t 11) [(.t 13), (.t 15)] [oO 17 (.un .not (.t 16))])
 (.cond (.t 17) (.base (.ret))
 (.base (.skip))))))
 (.base (.reg [oO 18 (.bin .add .no (.t 7) (.c (.int .i64 1))),
 oO 7 (.mv (.t 18))])))))))
/- redpencil/redpencillaw08.OmapIterates -/
def ai3 : AFnI := ⟨143, [.cell1 8],
  .seq (.base (.reg [oO 7 (.box 1 (.t 3)),
 oO 8 (.alloc [(.bool false)])]))
 (.seq (.base (.seq (.reg [oO 19 (.mv (.t 1)),
 oO 20 (.call 8 false [(.t 19)]),
 oO 21 (.un .not (.t 20)),
 oO 22 (.mv (.t 21)),
 oG 23 (.mv (.t 2)) 22 false,
 oG 24 (.bin .gtr .no (.t 23) (.c (.int .i64 4611686018427387904))) 22 false,
 oO 25 (.pick (.t 22) (.c (.bool true)) (.t 24)),
 oO 26 (.mv (.t 25)),
 oG 27 (.mv (.t 2)) 26 false,
 oG 28 (.bin .lss .no (.t 27) (.c (.int .i64 (-4611686018427387904)))) 26 false,
 oO 29 (.pick (.t 26) (.c (.bool true)) (.t 28))])
 (.cond (.t 29) (.seq (.reg [oO 30 (.call 9 false []),
 ⟨none, .store 1 (.t 8) (.t 30), none, none, false⟩])
 (.ret))
 (.skip))))
 (.seq (.base (.reg [oO 31 (.mv (.t 0)),
 oO 32 (.call 10 false [(.t 31)]),
 oO 33 (.mv (.t 0)),
 oO 34 (.build [(.bool false), .nils] [(0, 1, (.t 33))]),
 oO 9 (.alloc [.nilp]),
 oO 10 (.alloc [(.bool false), .nils]),
 ⟨none, .store 1 (.t 9) (.t 32), none, none, false⟩,
 ⟨none, .store 2 (.t 10) (.t 34), none, none, false⟩]))
 (.seq (.base (.seq (.reg [oO 35 (.load1 (.t 9)),
 oO 36 (.bin .eql .np (.t 35) (.c .nilp))])
 (.cond (.t 36) (.seq (.reg [⟨none, .store 1 (.t 8) (.c (.bool false)), none, none, false⟩])
 (.ret))
 (.skip))))
 (.seq (.base (.seq (.reg [oO 37 (.mv (.t 1)),
 oO 38 (.len .sl (.t 37)),
 oO 39 (.mv (.c (.int .i64 0)))])
 (.block 0 (.loop (.seq (.reg [oO 40 (.bin .lss .no (.t 39) (.t 38))])
 (.seq (.cond (.t 40) (.skip)
 (.exit 0))
 (.seq (.block 1 (.seq (.reg [oO 41 (.iad 3 (.t 37) (.t 39)),
 oO 42 (.loadn 3 (.t 41)),
 oO 12 (.alloc [(.int .i64 0), (.int .i64 0), (.str ⟨#[]⟩)]),
 ⟨none, .store 3 (.t 12) (.t 42), none, none, false⟩])
 (.seq (.reg [oO 43 (.load1 (.t 9)),
 oO 44 (.fad 1 (.t 12)),
 oO 45 (.load1 (.t 44)),
 oO 46 (.fad 2 (.t 12)),
 oO 47 (.load1 (.t 46)),
 oO 48 (.call 11 false [(.t 43), (.t 45), (.t 47)])])
 (.reg [oO 49 (.loadn 2 (.t 10)),
 oO 50 (.fad 1 (.t 12)),
 oO 51 (.load1 (.t 50)),
 oO 52 (.fad 2 (.t 12)),
 oO 53 (.load1 (.t 52)),
 oO 54 (.call 12 false [(.t 49), (.t 51), (.t 53)]),
 ⟨none, .store 2 (.t 10) (.t 54), none, none, false⟩]))))
 (.reg [oO 55 (.bin .add .no (.t 39) (.c (.int .i64 1))),
 oO 39 (.mv (.t 55))]))))))))
 (.seq (.base (.regd 0 [oO 56 (.load1 (.t 9)),
 ⟨(some 57), .call 13 false [(.t 56)], none, none, true⟩,
 oO 58 (.load1 (.t 9)),
 oO 59 (.mv (.t 2)),
 oO 60 (.call 14 false [(.t 58), (.t 59)]),
 oO 13 (.mv (.t 57)),
 oO 14 (.mv (.t 60))]))
 (.seq (.base (.reg [oO 61 (.load1 (.t 7)),
 oO 62 (.conv .i64 (.t 61)),
 oO 63 (.fad 1 (.t 10)),
 oO 64 (.load1 (.t 63)),
 oO 65 (.len .sl (.t 64)),
 oO 66 (.mm false [(.t 62), (.t 65)]),
 oO 15 (.mv (.t 66))]))
 (.seq (.base (.seq (.regd 0 [oO 67 (.mv (.t 13)),
 oO 68 (.bin .eql .nf (.t 67) (.c .nilf)),
 oO 69 (.mv (.t 68)),
 oG 70 (.mv (.t 14)) 69 false,
 oG 71 (.bin .eql .nf (.t 70) (.c .nilf)) 69 false,
 oO 72 (.pick (.t 69) (.c (.bool true)) (.t 71)),
 oO 73 (.mv (.t 72)),
 oG 74 (.mv (.t 15)) 73 false,
 oG 75 (.bin .gtr .no (.t 74) (.c (.int .i64 0))) 73 false,
 oG 76 (.mv (.t 75)) 73 false,
 oG 77 (.mv (.t 13)) 76 true,
 oG 78 (.mv (.t 15)) 76 true,
 ⟨(some 79), .call 16 false [(.t 77), (.t 78)], (some (76, true)), none, true⟩,
 oG 80 (.fad 1 (.t 10)) 76 true,
 oG 81 (.load1 (.t 80)) 76 true,
 oG 82 (.mv (.t 15)) 76 true,
 oG 83 (.slc 2 (.t 81) none (some (.t 82)) none) 76 true,
 oG 84 (.call 15 false [(.t 79), (.t 83)]) 76 true,
 oG 85 (.un .not (.t 84)) 76 true,
 oG 86 (.pick (.t 76) (.t 85) (.c (.bool false))) 73 false,
 oO 87 (.pick (.t 73) (.c (.bool true)) (.t 86))])
 (.cond (.t 87) (.seq (.reg [⟨none, .store 1 (.t 8) (.c (.bool false)), none, none, false⟩])
 (.ret))
 (.skip))))
 (.seq (.base (.reg [oO 16 (.alloc [.nils])]))
 (.seq (.seq (.base (.reg [oO 88 (.mv (.t 13))]))
 (.block 2 (.rf (.t 88) [89, 90] (.seq (.reg [oO 17 (.mv (.t 89))])
 (.reg [oO 18 (.mv (.t 90))]))
 (.block 3 (.seq (.reg [oO 91 (.load1 (.t 16)),
 oO 92 (.mv (.t 17)),
 oO 93 (.mv (.t 18)),
 oO 94 (.build [(.int .i64 0), (.str ⟨#[]⟩)] [(0, 1, (.t 92)), (1, 1, (.t 93))]),
 oO 95 (.bsl [(.int .i64 0), (.str ⟨#[]⟩)] 1 2 [(0, (.t 94))]),
 oO 96 (.app 2 24 [(.int .i64 0), (.str ⟨#[]⟩)] (.t 91) (.t 95)),
 ⟨none, .store 1 (.t 16) (.t 96), none, none, false⟩])
 (.seq (.seq (.reg [oO 97 (.load1 (.t 16)),
 oO 98 (.len .sl (.t 97)),
 oO 99 (.fad 1 (.t 10)),
 oO 100 (.load1 (.t 99)),
 oO 101 (.len .sl (.t 100)),
 oO 102 (.bin .gtr .no (.t 98) (.t 101))])
 (.cond (.t 102) (.seq (.reg [⟨none, .store 1 (.t 8) (.c (.bool false)), none, none, false⟩])
 (.ret))
 (.skip)))
 (.seq (.reg [oO 103 (.load1 (.t 16)),
 oO 104 (.len .sl (.t 103)),
 oO 105 (.load1 (.t 7)),
 oO 106 (.conv .i64 (.t 105)),
 oO 107 (.bin .eql .no (.t 104) (.t 106))])
 (.cond (.t 107) (.seq (.reg [oO 108 (.load1 (.t 9)),
 oO 109 (.mv (.t 17)),
 oO 110 (.call 11 false [(.t 108), (.t 109), (.c (.str ⟨#[111, 116, 104, 101, 114]⟩))])])
 (.seq (.reg [oO 111 (.load1 (.t 9)),
 oO 112 (.mv (.t 17)),
 oO 113 (.bin .add .no (.t 112) (.c (.int .i64 1))),
 oO 114 (.call 11 false [(.t 111), (.t 113), (.c (.str ⟨#[110, 101, 119]⟩))])])
 (.regd 0 [oO 115 (.load1 (.t 9)),
 oO 116 (.load1 (.t 16)),
 oO 117 (.iad 2 (.t 116) (.c (.int .i64 0))),
 oO 118 (.fad 0 (.t 117)),
 oO 119 (.load1 (.t 118)),
 oO 120 (.call 17 false [(.t 115), (.t 119)])])))
 (.skip)))))) [(63, 19, y63), (69, 19, y69)])))
 (.base (.seq (.regd 0 [oO 121 (.load1 (.t 16)),
 oO 122 (.fad 1 (.t 10)),
 oO 123 (.load1 (.t 122)),
 oO 124 (.call 15 false [(.t 121), (.t 123)]),
 oO 125 (.mv (.t 124)),
 oG 126 (.mv (.t 13)) 125 true,
 ⟨(some 127), .call 16 false [(.t 126), (.c (.int .i64 100))], (some (125, true)), none, true⟩,
 oG 128 (.fad 1 (.t 10)) 125 true,
 oG 129 (.load1 (.t 128)) 125 true,
 oG 130 (.call 15 false [(.t 127), (.t 129)]) 125 true,
 oO 131 (.pick (.t 125) (.t 130) (.c (.bool false))),
 oO 132 (.mv (.t 131)),
 oG 133 (.mv (.t 14)) 132 true,
 ⟨(some 134), .call 16 false [(.t 133), (.c (.int .i64 100))], (some (132, true)), none, true⟩,
 oG 135 (.loadn 2 (.t 10)) 132 true,
 oG 136 (.mv (.t 2)) 132 true,
 oG 137 (.call 18 false [(.t 135), (.t 136)]) 132 true,
 oG 138 (.call 15 false [(.t 134), (.t 137)]) 132 true,
 oO 139 (.pick (.t 132) (.t 138) (.c (.bool false))),
 oO 140 (.mv (.t 139)),
 oG 141 (.call 9 false []) 140 true,
 oO 142 (.pick (.t 140) (.t 141) (.c (.bool false))),
 ⟨none, .store 1 (.t 8) (.t 142), none, none, false⟩])
 (.ret))))))))))))⟩
/- redpencil/redpencillaw08.OmapStrings -/
/- redpencil/redpencillaw08.pairs -/
def ai16 : AFnI := ⟨28, [.t 4],
  .seq (.base (.reg [oO 3 (.box 1 (.t 1)),
 oO 4 (.mv (.c .nils))]))
 (.seq (.base (.reg [oO 5 (.alloc [.nils])]))
 (.seq (.base (.seq (.reg [oO 8 (.mv (.t 0)),
 oO 9 (.bin .eql .nf (.t 8) (.c .nilf)),
 oO 10 (.mv (.t 9)),
 oG 11 (.load1 (.t 3)) 10 false,
 oG 12 (.bin .lss .no (.t 11) (.c (.int .i64 1))) 10 false,
 oO 13 (.pick (.t 10) (.c (.bool true)) (.t 12))])
 (.cond (.t 13) (.seq (.reg [oO 4 (.mv (.c .nils))])
 (.ret))
 (.skip))))
 (.seq (.seq (.base (.reg [oO 14 (.mv (.t 0))]))
 (.block 0 (.rf (.t 14) [15, 16] (.seq (.reg [oO 6 (.mv (.t 15))])
 (.reg [oO 7 (.mv (.t 16))]))
 (.block 1 (.seq (.reg [oO 17 (.load1 (.t 5)),
 oO 18 (.mv (.t 6)),
 oO 19 (.mv (.t 7)),
 oO 20 (.build [(.int .i64 0), (.str ⟨#[]⟩)] [(0, 1, (.t 18)), (1, 1, (.t 19))]),
 oO 21 (.bsl [(.int .i64 0), (.str ⟨#[]⟩)] 1 2 [(0, (.t 20))]),
 oO 22 (.app 2 24 [(.int .i64 0), (.str ⟨#[]⟩)] (.t 17) (.t 21)),
 ⟨none, .store 1 (.t 5) (.t 22), none, none, false⟩])
 (.seq (.reg [oO 23 (.load1 (.t 5)),
 oO 24 (.len .sl (.t 23)),
 oO 25 (.load1 (.t 3)),
 oO 26 (.bin .geq .no (.t 24) (.t 25))])
 (.cond (.t 26) (.exit 0)
 (.skip))))) [(63, 19, y63), (69, 19, y69)])))
 (.base (.seq (.reg [oO 27 (.load1 (.t 5)),
 oO 4 (.mv (.t 27))])
 (.ret))))))⟩
/- (*redpencil/omap.Map[int, string]).Copy -/
theorem ci3 : cfnI Try.prog [63, 69] Try.f3 = some ai3 := by kernel_rfl
theorem ki3 : callable Try.prog 3 = true := by kernel_rfl
theorem ci16 : cfnI Try.prog [63, 69] Try.f16 = some ai16 := by kernel_rfl
theorem ki16 : callable Try.prog 16 = true := by kernel_rfl
end Go.AM
end
/-
  Ordered maps: All, From, ranges over pairs. Own work of this project; in part printed by a program of it.
-/
section
set_option maxRecDepth 100000
set_option maxHeartbeats 8000000
namespace Go.AM
open Go Go.Proofs

variable {s t u : St}

/-- A list that was made since, or nil. -/
def NwP (s t : St) (w : AV) (l : List PrS) : Prop := (w = .nils ∧ l = []) ∨ ∃ j cap, w = .sl j 0 l.length cap 2 ∧ s.next ≤ j ∧ t.get j = some (.row (prC.cells l) true)
theorem NwP.mono {w : AV} {l : List PrS} (h : NwP s t w l) (k : ∀ id b, t.get id = some b → u.get id = some b) : NwP s u w l := h.imp (fun q => q) fun ⟨j, cap, e, h1, h2⟩ => ⟨j, cap, e, h1, k _ _ h2⟩
theorem NwP.chg {M : List Nat} {w : AV} {l : List PrS} (h : NwP s t w l) (hC : Chg M t u) (hM : ∀ i ∈ M, ¬ (s.next ≤ i ∧ ∃ n cap, w = .sl i 0 n cap 2)) : NwP s u w l := h.imp (fun q => q) fun ⟨j, cap, e, h1, h2⟩ => ⟨j, cap, e, h1, hC.blk h2 fun q => hM j q ⟨h1, _, _, e⟩⟩
theorem NwP.rd {w : AV} {l : List PrS} (h : NwP s t w l) : AM.read prC t w = some l := by
  rcases h with ⟨rfl, rfl⟩ | ⟨j, cap, rfl, h1, h2⟩
  · rfl
  · refine read_of rfl h2 (by simp [cells_len]) ?_
    rw [List.drop_zero, ← cells_len]
    simp
theorem NwP.from {s0 : St} {w : AV} {l : List PrS} (h : NwP s t w l) (hn : s0.next ≤ s.next) : NwP s0 t w l := h.imp (fun q => q) fun ⟨j, cap, e, h1, h2⟩ => ⟨j, cap, e, by omega, h2⟩
theorem NwP.one {w : AV} {l : List PrS} (h : NwP s t w l) : w.cells = [w] ∧ w.one = true := by rcases h with ⟨rfl, _⟩ | ⟨j, cap, rfl, _⟩ <;> exact ⟨rfl, rfl⟩
/-- An iterator over a list. -/
def ItR (s t : St) (f : AV) (l : List PrS) : Prop := ∃ b w, f = .fn 63 [.ptr b 0] ∧ s.next ≤ b ∧ t.get b = some (.row [w] true) ∧ NwP s t w l ∧ (∀ n cap, w ≠ .sl b 0 n cap 2)
theorem ItR.mono {f : AV} {l : List PrS} (h : ItR s t f l) (k : ∀ id b, t.get id = some b → u.get id = some b) : ItR s u f l := by
  obtain ⟨b, w, e, h1, h2, h3, h4⟩ := h
  exact ⟨b, w, e, h1, k _ _ h2, h3.mono k, h4⟩
theorem ItR.keep {f : AV} {l : List PrS} (h : ItR s t f l) (hK : Keep t u) : ItR s u f l := h.mono fun _ _ => hK.blk
theorem ItR.from {s0 : St} {f : AV} {l : List PrS} (h : ItR s t f l) (hn : s0.next ≤ s.next) : ItR s0 t f l := by
  obtain ⟨b, w, e, h1, h2, h3, h4⟩ := h
  exact ⟨b, w, e, by omega, h2, h3.from hn, h4⟩
theorem sto_z2 {m : Nat} {t : St} (h : sameN m t) {a b : AV} (ha : a.one = true) (hb : b.one = true) (cs : List AV) (hcs : cs.length = 2) : AM.sto (t.push (.row cs true)) 2 (.ptr m 0) (.agg [a, b]) = some (.und, t.lowed.push (.row [a, b] true)) := by
  unfold sameN at h
  subst h
  have hg : (t.push (.row cs true)).get t.next = some (.row cs true) := St.get_push_new t _
  simp only [AM.sto, hg]
  rw [if_pos ⟨rfl, by simp [AV.cells, ha, hb], by omega⟩]
  simp [setAt, AV.cells, hcs, St.push, St.put, St.lowed]
noncomputable def R_Clone : Con := runFn (tb []) a62
theorem s_Clone : SoundAt Try.prog 62 R_Clone := run_sound (tb_sound (l := []) (by simp)) mixed Try.func62 k62 c62
theorem n_Clone : noNxtC a62.body = true := by kernel_rfl
theorem w_Clone {s : St} {v : AV} {l : List PrS} (hr : AM.read prC s v = some l) (hl : l.length ≤ 100000) : ∀ env : Env, elen env = a62.ntmps → (∀ i x_, [v][i]? = some x_ → E env i = x_) → awp (tb []) a62.body (fun x e t => (∀ i, x ≠ .exit i) ∧ ∃ r, aresults e t a62.results = some r ∧ NwP s t r l ∧ Keep s t) env s := by
  intro env hlen ha
  have h0 : E env 0 = _ := ha 0 _ rfl
  have hlen : elen env = _ := hlen
  simp only [a62] at hlen
  unfold a62
  try dsimp only [oO, oG]
  cases v with
  | nils =>
    have hl0 : l = [] := by simpa [AM.read] using hr.symm
    subst hl0
    simp (config := {contextual := true, maxDischargeDepth := 12, maxSteps := 4000000}) only [tb_at, h0, hlen, bin_nsn, notV_bool, Bool.not_true, Bool.not_false, pickV_t, pickV_f, bin_eql, bin_neq, bin_neb, bin_npn, bin_np, bin_npnx, gcall_tt, gpure_tf, beq_self_eq_true, Bool.true_and, Bool.and_true, decide_true, decide_false, ↓bD, bU, forall_const, bS, implies_true, isNx, eq_self, ↓wp_cond, ↓wp_loop, ↓reduceIte, reduceCtorEq, Nat.reduceEqDiff, Nat.reduceLT, Nat.reduceAdd, Nat.reduceMul, bT, ↓sg_bsl, ↓st_callf, bX, ap_mkfn, ap_conv, ↓wi_seq, ↓wi_base, ↓wi_block, ↓wi_cond, ↓wi_loop, ↓wi_rf, ↓wy_seq, ↓wy_base, ↓wy_block, ↓wy_cond, ↓wy_loop, ↓wy_yld, ae_callvV, callvV_fn, List.append_nil, List.cons_append, List.nil_append, bin_nff, bin_nfn, bin_nffx, bin_nfnx]
    exact ⟨_, rfl, Or.inl ⟨rfl, rfl⟩⟩
  | sl id off n cap z =>
    have hbs : bslV [] 0 2 [] = some (fun id => .sl id 0 0 (some 0) 2, .row [] true) := rfl
    have hK1 : Keep s (s.push (.row [] true)) := (Keep.refl s).push _
    have hr1 := hK1.read hr
    have hg1 := St.get_push_new s (.row [] true)
    obtain ⟨w, t1, hap, hw, hK2⟩ : ∃ w t1, appV (s.push (.row [] true)) 2 24 (.sl s.next 0 0 (some 0) 2) (.sl id off n cap z) = some (w, t1) ∧ NwP s t1 w l ∧ Keep s t1 := by
      have e1 : shown (s.push (.row [] true)) 2 (.sl id off n cap z) = some (prC.cells l) := read_shown hr1
      have e2 := read_len hr1
      simp only [appV, e1, e2, aappend, hg1, if_true]
      by_cases h0 : l.length = 0
      · rw [if_pos h0]
        have : l = [] := by simpa using h0
        subst this
        exact ⟨_, _, rfl, .inr ⟨s.next, some 0, rfl, Nat.le_refl _, hg1⟩, hK1⟩
      · rw [if_neg h0, if_pos ⟨by simp, by unfold roomBytes; omega⟩, if_neg (by omega)]
        refine ⟨_, _, rfl, .inr ⟨s.next + 1, none, by simp, by omega, ?_⟩, hK1.push _⟩
        have := St.get_push_new (s.push (.row [] true)) (.row (prC.cells l) true)
        simpa using this
    simp (config := {contextual := true, maxDischargeDepth := 12, maxSteps := 4000000}) only [tb_at, h0, hlen, bin_nss, hbs, hap, notV_bool, Bool.not_true, Bool.not_false, pickV_t, pickV_f, bin_eql, bin_neq, bin_neb, bin_npn, bin_np, bin_npnx, gcall_tt, gpure_tf, beq_self_eq_true, Bool.true_and, Bool.and_true, decide_true, decide_false, ↓bD, bU, forall_const, bS, implies_true, isNx, eq_self, ↓wp_cond, ↓wp_loop, ↓reduceIte, reduceCtorEq, Nat.reduceEqDiff, Nat.reduceLT, Nat.reduceAdd, Nat.reduceMul, bT, ↓sg_bsl, ↓st_callf, bX, ap_mkfn, ap_conv, ↓wi_seq, ↓wi_base, ↓wi_block, ↓wi_cond, ↓wi_loop, ↓wi_rf, ↓wy_seq, ↓wy_base, ↓wy_block, ↓wy_cond, ↓wy_loop, ↓wy_yld, ae_callvV, callvV_fn, List.append_nil, List.cons_append, List.nil_append, bin_nff, bin_nfn, bin_nffx, bin_nfnx]
    exact ⟨_, rfl, hw, hK2⟩
  | _ => simp [AM.read] at hr
theorem q_Clone {s : St} {v : AV} {l : List PrS} (hr : AM.read prC s v = some l) (hl : l.length ≤ 100000) : ∃ w t, acall R_Clone false [v] s = some (w, t) ∧ NwP s t w l ∧ Keep s t :=
  run_any (s := s) n_Clone (args := [v]) (Q := fun r t => NwP s t r l) (by simp [a62]) (fun r t t' hg hn h => h.mono fun id b hb => by rw [hg]; exact hb) (fun r t hgr hk h => by
    rcases h with ⟨rfl, rfl⟩ | ⟨j, cap, rfl, _⟩
    · exact .inl ⟨rfl, rfl⟩
    · cases hgr) (w_Clone (s := lowd s) (read_low' hr) hl)
noncomputable def R_over : Con := runFn (tb [(62, R_Clone)]) a43
theorem s_over : SoundAt Try.prog 43 R_over := run_sound (tb_sound (l := [(62, R_Clone)]) (by simpa using s_Clone)) mixed Try.func43 k43 c43
theorem n_over : noNxtC a43.body = true := by kernel_rfl
theorem w_over {s : St} {v : AV} {l : List PrS} (hr : AM.read prC s v = some l) (hl : l.length ≤ 100000) : ∀ env : Env, elen env = a43.ntmps → (∀ i x_, [v][i]? = some x_ → E env i = x_) → awp (tb [(62, R_Clone)]) a43.body (fun x e t => (∀ i, x ≠ .exit i) ∧ ∃ r, aresults e t a43.results = some r ∧ ItR s t r l ∧ Keep s t) env s := by
  intro env hlen ha
  have h0 : E env 0 = _ := ha 0 _ rfl
  have hlen : elen env = _ := hlen
  simp only [a43] at hlen
  unfold a43
  try dsimp only [oO, oG]
  have hv : v.cells = [v] ∧ v.one = true := by
    cases v <;> first | exact ⟨rfl, rfl⟩ | simp [AM.read] at hr
  have hbx : boxV 1 v = some (fun id => .ptr id 0, .row [v] true) := by
    unfold boxV
    simp [hv.1, hv.2]
  have hK1 : Keep s (s.push (.row [v] true)) := (Keep.refl s).push _
  have hg1 := St.get_push_new s (.row [v] true)
  obtain ⟨a0, alt⟩ := row1_lod hg1
  obtain ⟨w, t1, q1, hw, hK2⟩ := q_Clone (hK1.read hr) hl
  have hg2 := hK2.blk hg1
  have st1 := row1_sto hg2 hw.one
  have ht1 := St.get_lt hg2
  simp (config := {contextual := true, maxDischargeDepth := 12, maxSteps := 4000000}) only [tb_at, h0, hlen, hbx, a0, alt, q1, st1, ht1, notV_bool, Bool.not_true, Bool.not_false, pickV_t, pickV_f, bin_eql, bin_neq, bin_neb, bin_npn, bin_np, bin_npnx, gcall_tt, gpure_tf, beq_self_eq_true, Bool.true_and, Bool.and_true, decide_true, decide_false, ↓bD, bU, forall_const, bS, implies_true, isNx, eq_self, ↓wp_cond, ↓wp_loop, ↓reduceIte, reduceCtorEq, Nat.reduceEqDiff, Nat.reduceLT, Nat.reduceAdd, Nat.reduceMul, bT, ↓sg_bsl, ↓st_callf, bX, ap_mkfn, ap_conv, ↓wi_seq, ↓wi_base, ↓wi_block, ↓wi_cond, ↓wi_loop, ↓wi_rf, ↓wy_seq, ↓wy_base, ↓wy_block, ↓wy_cond, ↓wy_loop, ↓wy_yld, ae_callvV, callvV_fn, List.append_nil, List.cons_append, List.nil_append, bin_nff, bin_nfn, bin_nffx, bin_nfnx]
  have hnn : (s.push (.row [v] true)).next = s.next + 1 := rfl
  refine ⟨_, rfl, ⟨s.next, w, rfl, Nat.le_refl _, St.get_put_same hg2, ?_, fun n cap e => ?_⟩, (hK1.trans hK2).put _ (Nat.le_refl _) ht1⟩
  · rcases hw with ⟨e1, e2⟩ | ⟨j, cap, e1, h1, h2⟩
    · exact .inl ⟨e1, e2⟩
    · exact .inr ⟨j, cap, e1, by omega, by rw [St.get_put_ne _ _ ht1 (by omega)]; exact h2⟩
  · rcases hw with ⟨e1, e2⟩ | ⟨j, cap', e1, h1, h2⟩
    · rw [e1] at e; cases e
    · rw [e1] at e
      injection e with e
      omega
theorem q_over {s : St} {v : AV} {l : List PrS} (hr : AM.read prC s v = some l) (hl : l.length ≤ 100000) : ∃ w t, acall R_over false [v] s = some (w, t) ∧ ItR s t w l ∧ Keep s t :=
  run_any (s := s) n_over (args := [v]) (Q := fun r t => ItR s t r l) (by simp [a43]) (fun r t t' hg hn h => h.mono fun id b hb => by rw [hg]; exact hb) (fun r t hgr hk h => by
    obtain ⟨b, w, rfl, _⟩ := h
    cases hgr) (w_over (s := lowd s) (read_low' hr) hl)
noncomputable def R_All : Con := runFn (tb [(39, R_zero), (43, R_over)]) a13
theorem s_All : SoundAt Try.prog 13 R_All := run_sound (tb_sound (l := [(39, R_zero), (43, R_over)]) (by simpa using ⟨s_zero, s_over⟩)) mixed Try.func13 k13 c13
theorem n_All : noNxtC a13.body = true := by kernel_rfl
theorem w_All {s : St} {id : Nat} {q : Option Nat} {d : Bool} {L : List PrS} (hk : MpR s id q d L) : ∀ env : Env, elen env = a13.ntmps → (∀ i x_, [.ptr id 0][i]? = some x_ → E env i = x_) → awp (tb [(39, R_zero), (43, R_over)]) a13.body (fun x e t => (∀ i, x ≠ .exit i) ∧ ∃ r, aresults e t a13.results = some r ∧ ItR s t r L ∧ Keep s t) env s := by
  intro env hlen ha
  have h0 : E env 0 = _ := ha 0 _ rfl
  have hlen : elen env = _ := hlen
  simp only [a13] at hlen
  unfold a13
  try dsimp only [oO, oG]
  have q1 := q_zero false hk.box
  obtain ⟨b0, b1, blt⟩ := row2_lod hk.box
  obtain ⟨w, t1, q2, h1, h2⟩ := q_over hk.rd (by have := hk.hn; omega)
  simp (config := {contextual := true, maxDischargeDepth := 12, maxSteps := 4000000}) only [tb_at, h0, hlen, q1, b1, blt, nchkV_ptr, q2, notV_bool, Bool.not_true, Bool.not_false, pickV_t, pickV_f, bin_eql, bin_neq, bin_neb, bin_npn, bin_np, bin_npnx, gcall_tt, gpure_tf, beq_self_eq_true, Bool.true_and, Bool.and_true, decide_true, decide_false, ↓bD, bU, forall_const, bS, implies_true, isNx, eq_self, ↓wp_cond, ↓wp_loop, ↓reduceIte, reduceCtorEq, Nat.reduceEqDiff, Nat.reduceLT, Nat.reduceAdd, Nat.reduceMul, bT, ↓sg_bsl, ↓st_callf, bX, ap_mkfn, ap_conv, ↓wi_seq, ↓wi_base, ↓wi_block, ↓wi_cond, ↓wi_loop, ↓wi_rf, ↓wy_seq, ↓wy_base, ↓wy_block, ↓wy_cond, ↓wy_loop, ↓wy_yld, ae_callvV, callvV_fn, List.append_nil, List.cons_append, List.nil_append, bin_nff, bin_nfn, bin_nffx, bin_nfnx]
  exact ⟨_, rfl, h1, h2⟩
theorem q_All {s : St} {id : Nat} {q : Option Nat} {d : Bool} {L : List PrS} (hk : MpR s id q d L) : ∃ w t, acall R_All false [.ptr id 0] s = some (w, t) ∧ ItR s t w L ∧ Keep s t :=
  run_any (s := s) n_All (args := [.ptr id 0]) (Q := fun r t => ItR s t r L) (by simp [a13]) (fun r t t' hg hn h => h.mono fun id b hb => by rw [hg]; exact hb) (fun r t hgr hk h => by
    obtain ⟨b, w, rfl, _⟩ := h
    cases hgr) (w_All (s := lowd s) hk.low)
noncomputable def R_From : Con := runFn (tb [(39, R_zero), (43, R_over), (26, R_Rank)]) a14
theorem s_From : SoundAt Try.prog 14 R_From := run_sound (tb_sound (l := [(39, R_zero), (43, R_over), (26, R_Rank)]) (by simpa using ⟨s_zero, s_over, s_Rank⟩)) mixed Try.func14 k14 c14
theorem n_From : noNxtC a14.body = true := by kernel_rfl
theorem w_From {s : St} {id : Nat} {q : Option Nat} {d : Bool} {L : List PrS} (hk : MpR s id q d L) (hs : SrtD d L) (k : Int) : ∀ env : Env, elen env = a14.ntmps → (∀ i x_, [.ptr id 0, .int .i64 k][i]? = some x_ → E env i = x_) → awp (tb [(39, R_zero), (43, R_over), (26, R_Rank)]) a14.body (fun x e t => (∀ i, x ≠ .exit i) ∧ ∃ r, aresults e t a14.results = some r ∧ ItR s t r (L.drop (rkD d L k)) ∧ Keep s t) env s := by
  intro env hlen ha
  have h0 : E env 0 = _ := ha 0 _ rfl
  have h1 : E env 1 = _ := ha 1 _ rfl
  have hlen : elen env = _ := hlen
  simp only [a14] at hlen
  unfold a14
  try dsimp only [oO, oG]
  have q1 := q_zero false hk.box
  obtain ⟨b0, b1, blt⟩ := row2_lod hk.box
  have q3 := q_Rank true hk hs k
  obtain ⟨v', hsl, hrd⟩ := slc_lo (C := prC) hk.rd (k := .i64) (i := ((rkD d L k : Nat) : Int)) rfl (rk_le d k L)
  obtain ⟨w, t1, q2, m1, m2⟩ := q_over (hrd s (.refl s)) (by rw [List.length_drop]; have := hk.hn; omega)
  rw [prC_sz] at hsl
  simp (config := {contextual := true, maxDischargeDepth := 12, maxSteps := 4000000}) only [tb_at, h0, h1, hlen, q1, b1, blt, nchkV_ptr, q2, q3, hsl, reserve0, notV_bool, Bool.not_true, Bool.not_false, pickV_t, pickV_f, bin_eql, bin_neq, bin_neb, bin_npn, bin_np, bin_npnx, gcall_tt, gpure_tf, beq_self_eq_true, Bool.true_and, Bool.and_true, decide_true, decide_false, ↓bD, bU, forall_const, bS, implies_true, isNx, eq_self, ↓wp_cond, ↓wp_loop, ↓reduceIte, reduceCtorEq, Nat.reduceEqDiff, Nat.reduceLT, Nat.reduceAdd, Nat.reduceMul, bT, ↓sg_bsl, ↓st_callf, bX, ap_mkfn, ap_conv, ↓wi_seq, ↓wi_base, ↓wi_block, ↓wi_cond, ↓wi_loop, ↓wi_rf, ↓wy_seq, ↓wy_base, ↓wy_block, ↓wy_cond, ↓wy_loop, ↓wy_yld, ae_callvV, callvV_fn, List.append_nil, List.cons_append, List.nil_append, bin_nff, bin_nfn, bin_nffx, bin_nfnx]
  exact ⟨_, rfl, m1, m2⟩
theorem q_From {s : St} {id : Nat} {q : Option Nat} {d : Bool} {L : List PrS} (hk : MpR s id q d L) (hs : SrtD d L) (k : Int) : ∃ w t, acall R_From false [.ptr id 0, .int .i64 k] s = some (w, t) ∧ ItR s t w (L.drop (rkD d L k)) ∧ Keep s t :=
  run_any (s := s) n_From (args := [.ptr id 0, .int .i64 k]) (Q := fun r t => ItR s t r (L.drop (rkD d L k))) (by simp [a14]) (fun r t t' hg hn h => h.mono fun id b hb => by rw [hg]; exact hb) (fun r t hgr hk h => by
    obtain ⟨b, w, rfl, _⟩ := h
    cases hgr) (w_From (s := lowd s) hk.low hs k)
/-! ### A range over such an iterator -/
theorem rf_over {call : Nat → List AV → St → Option (AV × St)} {env : Env} {g : AO} {p1 p2 : Nat} {asg body : AC} {Q : AEx → Env → St → Prop} {b : Nat} {w : AV} {l : List PrS} {own : Bool} (hg : aev env g = .fn 63 [.ptr b 0]) (hl : l.length ≤ 100000) (hb : s.get b = some (.row [w] own)) (J : Nat → St → Prop)
    (h0 : J 0 s) (hrd : ∀ i t, J i t → AM.read prC t w = some l)
    (hstep : ∀ i y t t', J i t → l[i]? = some y → Keep t t' → awp call asg (fun x e t1 => x = .nor ∧ awp call body (fun x _ t2 => match x with
      | .nor => J (i + 1) t2
      | .exit k => Q (.exit k) env t2
      | .ret => Q .ret env t2) e t1) (setPs env [p1, p2] [.int .i64 y.1, .str y.2]) t')
    (hend : ∀ t, J l.length t → Q .nor env t) : @rfwp call g [p1, p2] asg body [(63, 19, y63), (69, 19, y69)] env s ⟨Q⟩ := by
  refine rf_start (f := 63) (n := 19) (caps := [.ptr b 0]) (y := y63) hg rfl fun yl => ?_
  refine start_env (args := [.yd yl, .ptr b 0]) (n := 19) (p := fun env1 => awpY _ _ _ y63 none _ env1 s) (by simp) fun env1 hl1 ha1 => ?_
  have a0 : E env1 0 = _ := ha1 0 _ rfl
  have a1 : E env1 1 = _ := ha1 1 _ rfl
  unfold y63
  try dsimp only [oO, oG]
  obtain ⟨b0, blt⟩ := row1_lod hb
  have hL := lenV_read (hrd 0 s h0)
  simp (config := {contextual := true, maxDischargeDepth := 12, maxSteps := 4000000}) only [tb_at, a0, a1, hl1, b0, blt, hL, notV_bool, Bool.not_true, Bool.not_false, pickV_t, pickV_f, bin_eql, bin_neq, bin_neb, bin_npn, bin_np, bin_npnx, gcall_tt, gpure_tf, beq_self_eq_true, Bool.true_and, Bool.and_true, decide_true, decide_false, ↓bD, bU, forall_const, bS, implies_true, isNx, eq_self, ↓wp_cond, ↓wp_loop, ↓reduceIte, reduceCtorEq, Nat.reduceEqDiff, Nat.reduceLT, Nat.reduceAdd, Nat.reduceMul, bT, ↓sg_bsl, ↓st_callf, bX, ap_mkfn, ap_conv, ↓wi_seq, ↓wi_base, ↓wi_block, ↓wi_cond, ↓wi_loop, ↓wi_rf, ↓wy_seq, ↓wy_base, ↓wy_block, ↓wy_cond, ↓wy_loop, ↓wy_yld, ae_callvV, callvV_fn, List.append_nil, List.cons_append, List.nil_append, bin_nff, bin_nfn, bin_nffx, bin_nfnx]
  obtain ⟨I, hI⟩ : ∃ I : Nat → Env → St → Prop, ∀ n e t, I n e t = (∃ i, n + i = l.length ∧ elen e = 19 ∧ E e 0 = .yd yl ∧ E e 5 = w ∧ E e 6 = .int .i64 (l.length : Int) ∧ E e 7 = .int .i64 (i : Int) ∧ J i t) := ⟨fun n e t => (∃ i, n + i = l.length ∧ elen e = 19 ∧ E e 0 = .yd yl ∧ E e 5 = w ∧ E e 6 = .int .i64 (l.length : Int) ∧ E e 7 = .int .i64 (i : Int) ∧ J i t), fun _ _ _ => rfl⟩
  refine lwpY_inv roundY_mono I (n := l.length) ?_ ?_
  · rw [hI]
    exact ⟨0, by omega, (by simp only [bE, Nat.reduceEqDiff, bN, Nat.reduceLT, hl1, a0, a1]; try rfl), (by simp only [bE, Nat.reduceEqDiff, bN, Nat.reduceLT, hl1, a0, a1]; try rfl), (by simp only [bE, Nat.reduceEqDiff, bN, Nat.reduceLT, hl1, a0, a1]; try rfl), (by simp only [bE, Nat.reduceEqDiff, bN, Nat.reduceLT, hl1, a0, a1]; try rfl), (by simp only [bE, Nat.reduceEqDiff, bN, Nat.reduceLT, hl1, a0, a1]; try rfl), h0⟩
  clear a0 a1 hl1 ha1
  intro n e t hi
  rw [hI] at hi
  obtain ⟨i, hni, he, e0, e5, e6, e7, hJ⟩ := hi
  by_cases hlt : i < l.length
  rotate_left
  · have hz := eq_false (show ¬ (i : Int) < (l.length : Int) by omega)
    obtain rfl : i = l.length := by omega
    simp (config := {contextual := true, maxDischargeDepth := 12, maxSteps := 4000000}) only [tb_at, he, e0, e5, e6, e7, hz, notV_bool, Bool.not_true, Bool.not_false, pickV_t, pickV_f, bin_eql, bin_neq, bin_neb, bin_npn, bin_np, bin_npnx, gcall_tt, gpure_tf, beq_self_eq_true, Bool.true_and, Bool.and_true, decide_true, decide_false, ↓bD, bU, forall_const, bS, implies_true, isNx, eq_self, ↓wp_cond, ↓wp_loop, ↓reduceIte, reduceCtorEq, Nat.reduceEqDiff, Nat.reduceLT, Nat.reduceAdd, Nat.reduceMul, bT, ↓sg_bsl, ↓st_callf, bX, ap_mkfn, ap_conv, ↓wi_seq, ↓wi_base, ↓wi_block, ↓wi_cond, ↓wi_loop, ↓wi_rf, ↓wy_seq, ↓wy_base, ↓wy_block, ↓wy_cond, ↓wy_loop, ↓wy_yld, ae_callvV, callvV_fn, List.append_nil, List.cons_append, List.nil_append, bin_nff, bin_nfn, bin_nffx, bin_nfnx]
    exact hend t hJ
  have hz := eq_true (show (i : Int) < (l.length : Int) by omega)
  have hw := wrap_add1 (n := i) (by omega)
  obtain ⟨y, hy⟩ := getsome hlt
  obtain ⟨i1, a1, _, _, a4⟩ := pr_lods (hrd i t hJ) hy
  have st1 := sto_z2 (m := t.next) (t := t) rfl (a := .int .i64 y.1) (b := .str y.2) rfl rfl [.int .i64 0, .str ⟨#[]⟩] rfl
  have hK1 : Keep t (t.lowed.push (.row [.int .i64 y.1, .str y.2] true)) := (keep_lowed t).push _
  obtain ⟨t1, ht1⟩ : ∃ t1, t1 = t.lowed.push (.row [.int .i64 y.1, .str y.2] true) := ⟨_, rfl⟩
  have hg1 : t1.get t.next = some (.row [.int .i64 y.1, .str y.2] true) := by rw [ht1]; exact St.get_push_new t.lowed _
  rw [← ht1] at st1 hK1
  obtain ⟨c0, c1, clt⟩ := row2_lod hg1
  simp (config := {contextual := true, maxDischargeDepth := 12, maxSteps := 4000000}) only [tb_at, he, e0, e5, e6, e7, hz, i1, a1, a4, st1, c0, c1, clt, notV_bool, Bool.not_true, Bool.not_false, pickV_t, pickV_f, bin_eql, bin_neq, bin_neb, bin_npn, bin_np, bin_npnx, gcall_tt, gpure_tf, beq_self_eq_true, Bool.true_and, Bool.and_true, decide_true, decide_false, ↓bD, bU, forall_const, bS, implies_true, isNx, eq_self, ↓wp_cond, ↓wp_loop, ↓reduceIte, reduceCtorEq, Nat.reduceEqDiff, Nat.reduceLT, Nat.reduceAdd, Nat.reduceMul, bT, ↓sg_bsl, ↓st_callf, bX, ap_mkfn, ap_conv, ↓wi_seq, ↓wi_base, ↓wi_block, ↓wi_cond, ↓wi_loop, ↓wi_rf, ↓wy_seq, ↓wy_base, ↓wy_block, ↓wy_cond, ↓wy_loop, ↓wy_yld, ae_callvV, callvV_fn, List.append_nil, List.cons_append, List.nil_append, bin_nff, bin_nfn, bin_nffx, bin_nfnx]
  refine ystep_round rfl ?_
  refine awp_mono asg (fun x e2 t2 k => ⟨k.1, awp_mono body (fun x _ t3 k => ?_) k.2⟩) (hstep i y t t1 hJ hy hK1)
  cases x with
  | nor =>
    simp (config := {contextual := true, maxDischargeDepth := 12, maxSteps := 4000000}) only [tb_at, he, e0, e5, e6, e7, hw, putE_pE, notV_bool, Bool.not_true, Bool.not_false, pickV_t, pickV_f, bin_eql, bin_neq, bin_neb, bin_npn, bin_np, bin_npnx, gcall_tt, gpure_tf, beq_self_eq_true, Bool.true_and, Bool.and_true, decide_true, decide_false, ↓bD, bU, forall_const, bS, implies_true, isNx, eq_self, ↓wp_cond, ↓wp_loop, ↓reduceIte, reduceCtorEq, Nat.reduceEqDiff, Nat.reduceLT, Nat.reduceAdd, Nat.reduceMul, bT, ↓sg_bsl, ↓st_callf, bX, ap_mkfn, ap_conv, ↓wi_seq, ↓wi_base, ↓wi_block, ↓wi_cond, ↓wi_loop, ↓wi_rf, ↓wy_seq, ↓wy_base, ↓wy_block, ↓wy_cond, ↓wy_loop, ↓wy_yld, ae_callvV, callvV_fn, List.append_nil, List.cons_append, List.nil_append, bin_nff, bin_nfn, bin_nffx, bin_nfnx]
    refine ⟨n - 1, by omega, ?_⟩
    rw [hI]
    exact ⟨i + 1, by omega, (by simp only [bE, Nat.reduceEqDiff, bN, Nat.reduceLT, he, e0, e5, e6, e7]; try rfl), (by simp only [bE, Nat.reduceEqDiff, bN, Nat.reduceLT, he, e0, e5, e6, e7]; try rfl), (by simp only [bE, Nat.reduceEqDiff, bN, Nat.reduceLT, he, e0, e5, e6, e7]; try rfl), (by simp only [bE, Nat.reduceEqDiff, bN, Nat.reduceLT, he, e0, e5, e6, e7]; try rfl), (by simp only [bE, Nat.reduceEqDiff, bN, Nat.reduceLT, he, e0, e5, e6, e7]; try rfl), k⟩
  | exit j =>
    simp (config := {contextual := true, maxDischargeDepth := 12, maxSteps := 4000000}) only [tb_at, he, e0, e5, e6, e7, hw, putE_pE, notV_bool, Bool.not_true, Bool.not_false, pickV_t, pickV_f, bin_eql, bin_neq, bin_neb, bin_npn, bin_np, bin_npnx, gcall_tt, gpure_tf, beq_self_eq_true, Bool.true_and, Bool.and_true, decide_true, decide_false, ↓bD, bU, forall_const, bS, implies_true, isNx, eq_self, ↓wp_cond, ↓wp_loop, ↓reduceIte, reduceCtorEq, Nat.reduceEqDiff, Nat.reduceLT, Nat.reduceAdd, Nat.reduceMul, bT, ↓sg_bsl, ↓st_callf, bX, ap_mkfn, ap_conv, ↓wi_seq, ↓wi_base, ↓wi_block, ↓wi_cond, ↓wi_loop, ↓wi_rf, ↓wy_seq, ↓wy_base, ↓wy_block, ↓wy_cond, ↓wy_loop, ↓wy_yld, ae_callvV, callvV_fn, List.append_nil, List.cons_append, List.nil_append, bin_nff, bin_nfn, bin_nffx, bin_nfnx]
    exact k
  | ret =>
    simp (config := {contextual := true, maxDischargeDepth := 12, maxSteps := 4000000}) only [tb_at, he, e0, e5, e6, e7, hw, putE_pE, notV_bool, Bool.not_true, Bool.not_false, pickV_t, pickV_f, bin_eql, bin_neq, bin_neb, bin_npn, bin_np, bin_npnx, gcall_tt, gpure_tf, beq_self_eq_true, Bool.true_and, Bool.and_true, decide_true, decide_false, ↓bD, bU, forall_const, bS, implies_true, isNx, eq_self, ↓wp_cond, ↓wp_loop, ↓reduceIte, reduceCtorEq, Nat.reduceEqDiff, Nat.reduceLT, Nat.reduceAdd, Nat.reduceMul, bT, ↓sg_bsl, ↓st_callf, bX, ap_mkfn, ap_conv, ↓wi_seq, ↓wi_base, ↓wi_block, ↓wi_cond, ↓wi_loop, ↓wi_rf, ↓wy_seq, ↓wy_base, ↓wy_block, ↓wy_cond, ↓wy_loop, ↓wy_yld, ae_callvV, callvV_fn, List.append_nil, List.cons_append, List.nil_append, bin_nff, bin_nfn, bin_nffx, bin_nfnx]
    exact k

end Go.AM
end
/-
  Ordered maps: what iterators yield; the helpers of the statements. Own work of this project; in part printed by a program of it.
-/
section
set_option maxRecDepth 100000
set_option maxHeartbeats 8000000
namespace Go.AM
open Go Go.Proofs

variable {s t u : St}

theorem own_ne {β : Type} {C : Cod β} {lv : AV} {l : List β} (h : Own C s t lv l) {id : Nat} {cs : List AV} {own : Bool} (hg : t.get id = some (.row cs own)) (hc : cs.length < C.sz) : ∀ o n c z, lv ≠ .sl id o n c z := by
  rintro o n c z rfl
  rcases h with ⟨h, _⟩ | ⟨j, h, h0, h1, h2⟩
  · cases h
  · injection h with h
    subst h
    rw [hg] at h2
    injection h2 with h2
    injection h2 with h2 _
    have := congrArg List.length h2
    rw [cells_len] at this
    cases l with
    | nil => exact h0 rfl
    | cons y r =>
      rw [List.length_cons, Nat.succ_mul] at this
      omega
theorem own_one1 {β : Type} {C : Cod β} {lv : AV} {l : List β} (h : Own C s t lv l) : lv.cells = [lv] ∧ lv.one = true := by rcases h with ⟨rfl, _⟩ | ⟨j, rfl, _⟩ <;> exact ⟨rfl, rfl⟩
/-- A list in a box, one element more. -/
theorem box1_app {β : Type} {C : Cod β} {lv : AV} {l : List β} {ib : Nat} (hK : Keep s t) (hb : t.get ib = some (.row [lv] true)) (hib : s.next ≤ ib) (hO : Own C s t lv l) (hsz : 1 < C.sz) (y : β) (bytes : Nat) (hr : (l.length + 1) * bytes ≤ roomBytes) :
    ∃ lv' t', appV (t.push (.row (C.enc y) true)) C.sz bytes lv (.sl t.next 0 1 (some 1) C.sz) = some (lv', t') ∧ AM.sto t' 1 (.ptr ib 0) lv' = some (.und, t'.put ib (.row [lv'] true)) ∧ ltN ib t' ∧ Keep s (t'.put ib (.row [lv'] true)) ∧ (t'.put ib (.row [lv'] true)).get ib = some (.row [lv'] true) ∧ Own C s (t'.put ib (.row [lv'] true)) lv' (l ++ [y]) ∧
      ∀ id b, t.get id = some b → id ≠ ib → (∀ o n c z, lv ≠ .sl id o n c z) → (t'.put ib (.row [lv'] true)).get id = some b := by
  obtain ⟨lv', t', hap, hK', hO'⟩ := appV_one (C := C) hK hO y bytes hr
  have fr : ∀ id b, t.get id = some b → (∀ o n c z, lv ≠ .sl id o n c z) → t'.get id = some b := fun id b hg hn => appV_frame hap hn (get_push_some _ hg)
  have hb' := fr ib _ hb (own_ne hO hb hsz)
  have hlt := St.get_lt hb'
  have hO2 : Own C s (t'.put ib (.row [lv'] true)) lv' (l ++ [y]) := by
    have hne := own_ne hO' hb' hsz
    rcases hO' with q | ⟨j, q, h0, h1, h2⟩
    · exact .inl q
    · refine .inr ⟨j, q, h0, h1, ?_⟩
      rw [St.get_put_ne _ _ hlt fun e => hne 0 _ none _ (by rw [q, e])]
      exact h2
  exact ⟨lv', t', hap, row1_sto hb' (own_one1 hO'), hlt, hK'.put _ hib hlt, St.get_put_same hb', hO2, fun id b hg hi hn => by rw [St.get_put_ne _ _ hlt hi]; exact fr id b hg hn⟩
theorem bin_streq (k : EK) (a b : ByteArray) : binOp .eql k (.str a) (.str b) = some (.bool (decide (a = b))) := by
  have : (a.toList == b.toList) = decide (a = b) := by
    by_cases h : a = b
    · subst h; simp
    · rw [decide_eq_false h]
      have : a.toList ≠ b.toList := fun e => h (by
        rw [ByteArray.toList_eq, ByteArray.toList_eq] at e
        cases a; cases b
        simp only at e
        congr 1
        exact Array.toList_inj.1 e)
      simpa using this
  show strOp .eql a b = _
  simp only [strOp, this]
def pPairs : List AV → St → Option (List PrS × Option AV) := fun xs s => match xs with
  | [.fn 63 [.ptr b 0], .int .i64 m] => match s.get b with
    | some (.row [w] true) => match AM.read prC s w with
      | some l => if l.length ≤ 10000 then some (if m < 1 then [] else l.take m.toNat, none) else none
      | none => none
    | _ => none
  | _ => none
theorem a_pairs {s : St} {b : Nat} {w : AV} {l : List PrS} {m : Int} (hb : s.get b = some (.row [w] true)) (hr : AM.read prC s w = some l) (hl : l.length ≤ 10000) : ∀ env : Env, elen env = ai16.ntmps → (∀ i x_, [.fn 63 [.ptr b 0], .int .i64 m][i]? = some x_ → E env i = x_) → awpI (tb []) ai16.body (fun x e t => (∀ i, x ≠ .exit i) ∧ Keep s t ∧ ∃ v, aresults e t ai16.results = some (mkR none v) ∧ Own prC s t v (if m < 1 then [] else l.take m.toNat)) env s := by
  intro env hlen ha
  have h0 : E env 0 = _ := ha 0 _ rfl
  have h1 : E env 1 = _ := ha 1 _ rfl
  have hlen : elen env = _ := hlen
  simp only [ai16] at hlen
  unfold ai16
  try dsimp only [oO, oG]
  have hbx : boxV 1 (.int .i64 m) = some (fun id => .ptr id 0, .row [.int .i64 m] true) := rfl
  have hK1 : Keep s (s.push (.row [.int .i64 m] true)) := (Keep.refl s).push _
  have hK2 : Keep s ((s.push (.row [.int .i64 m] true)).push (.row [.nils] true)) := hK1.push _
  have g3 : ((s.push (.row [.int .i64 m] true)).push (.row [.nils] true)).get s.next = some (.row [.int .i64 m] true) := get_push_some _ (St.get_push_new s _)
  have g5 : ((s.push (.row [.int .i64 m] true)).push (.row [.nils] true)).get (s.next + 1) = some (.row [.nils] true) := St.get_push_new (s.push (.row [.int .i64 m] true)) _
  have hnn : (s.push (.row [.int .i64 m] true)).next = s.next + 1 := rfl
  obtain ⟨u, hu⟩ : ∃ u, u = (s.push (.row [.int .i64 m] true)).push (.row [.nils] true) := ⟨_, rfl⟩
  rw [← hu] at hK2 g3 g5
  obtain ⟨a3, a3l⟩ := row1_lod g3
  obtain ⟨a5, a5l⟩ := row1_lod g5
  by_cases hm : m < 1
  · have z1 := eq_true hm
    rw [if_pos hm]
    simp (config := {contextual := true, maxDischargeDepth := 12, maxSteps := 4000000}) only [tb_at, h0, h1, hlen, hbx, hnn, ← hu, a3, a3l, z1, notV_bool, Bool.not_true, Bool.not_false, pickV_t, pickV_f, bin_eql, bin_neq, bin_neb, bin_npn, bin_np, bin_npnx, gcall_tt, gpure_tf, beq_self_eq_true, Bool.true_and, Bool.and_true, decide_true, decide_false, ↓bD, bU, forall_const, bS, implies_true, isNx, eq_self, ↓wp_cond, ↓wp_loop, ↓reduceIte, reduceCtorEq, Nat.reduceEqDiff, Nat.reduceLT, Nat.reduceAdd, Nat.reduceMul, bT, ↓sg_bsl, ↓st_callf, bX, ap_mkfn, ap_conv, ↓wi_seq, ↓wi_base, ↓wi_block, ↓wi_cond, ↓wi_loop, ↓wi_rf, ↓wy_seq, ↓wy_base, ↓wy_block, ↓wy_cond, ↓wy_loop, ↓wy_yld, ae_callvV, callvV_fn, List.append_nil, List.cons_append, List.nil_append, bin_nff, bin_nfn, bin_nffx, bin_nfnx, bin_streq]
    first | exact ⟨hK2, _, rfl, .nil _ _ _⟩ | exact ⟨_, rfl, .nil _ _ _⟩ | exact ⟨hK2, .nil _ _ _⟩
  have z1 := eq_false hm
  rw [if_neg hm]
  simp (config := {contextual := true, maxDischargeDepth := 12, maxSteps := 4000000}) only [tb_at, h0, h1, hlen, hbx, hnn, ← hu, a3, a3l, z1, notV_bool, Bool.not_true, Bool.not_false, pickV_t, pickV_f, bin_eql, bin_neq, bin_neb, bin_npn, bin_np, bin_npnx, gcall_tt, gpure_tf, beq_self_eq_true, Bool.true_and, Bool.and_true, decide_true, decide_false, ↓bD, bU, forall_const, bS, implies_true, isNx, eq_self, ↓wp_cond, ↓wp_loop, ↓reduceIte, reduceCtorEq, Nat.reduceEqDiff, Nat.reduceLT, Nat.reduceAdd, Nat.reduceMul, bT, ↓sg_bsl, ↓st_callf, bX, ap_mkfn, ap_conv, ↓wi_seq, ↓wi_base, ↓wi_block, ↓wi_cond, ↓wi_loop, ↓wi_rf, ↓wy_seq, ↓wy_base, ↓wy_block, ↓wy_cond, ↓wy_loop, ↓wy_yld, ae_callvV, callvV_fn, List.append_nil, List.cons_append, List.nil_append, bin_nff, bin_nfn, bin_nffx, bin_nfnx, bin_streq]
  refine rf_gen (fun e => elen e = 28 ∧ E e 3 = .ptr s.next 0 ∧ E e 5 = .ptr (s.next + 1) 0 ∧ E e 14 = .fn 63 [.ptr b 0]) ⟨(by simp only [bE, Nat.reduceEqDiff, bN, Nat.reduceLT, hlen, h0]; try rfl), (by simp only [bE, Nat.reduceEqDiff, bN, Nat.reduceLT, hlen, h0]; try rfl), (by simp only [bE, Nat.reduceEqDiff, bN, Nat.reduceLT, hlen, h0]; try rfl), (by simp only [bE, Nat.reduceEqDiff, bN, Nat.reduceLT, hlen, h0]; try rfl)⟩ ?_
  clear h0 h1 ha hlen
  rintro e0 ⟨he0, x3, x5, x14⟩
  refine rf_over (by rw [aev_t]; exact x14) (by omega) (hK2.blk hb) (fun i t => Keep s t ∧ (i : Int) < m ∧ t.get s.next = some (.row [.int .i64 m] true) ∧ ∃ lv, t.get (s.next + 1) = some (.row [lv] true) ∧ Own prC s t lv (l.take i)) ⟨hK2, by omega, g3, .nils, g5, .nil _ _ _⟩ (fun i t h => h.1.read hr) (fun i y t t' hJ hy hKt => ?_) (fun t hJ => ?_)
  · obtain ⟨hK, hi, q3, lv, q5, hO⟩ := hJ
    have hil := getlt hy
    have hset : ∀ a c, setPs e0 [15, 16] [a, c] = pE (pE e0 (some 15) a) (some 16) c := fun a c => by unfold pE; rfl
    rw [hset]
    have hK' := hK.trans hKt
    have q3' := hKt.blk q3
    have q5' := hKt.blk q5
    have hO' := hO.mono fun _ _ => hKt.blk
    obtain ⟨b5, b5l⟩ := row1_lod q5'
    have fs0 := fstep_bw0' (x := .int .i64 y.1) ⟨rfl, rfl⟩ (.int .i64 0) (.str ⟨#[]⟩)
    have fs1 := fstep_bw1' (x := .str y.2) ⟨rfl, rfl⟩ (.int .i64 y.1) (.str ⟨#[]⟩)
    have hbs : bslV [.int .i64 0, .str ⟨#[]⟩] 1 2 [(0, .agg [.int .i64 y.1, .str y.2])] = some (fun id => .sl id 0 1 (some 1) 2, .row [.int .i64 y.1, .str y.2] true) := by
      simp [bslV, fillP, aev, AV.cells, AV.one, setAt]
    obtain ⟨lv', t2, hap, hst, hlt, hK2', g5', hO2, hfr⟩ := box1_app hK' q5' (by omega) hO' (by decide) y 24 (by rw [List.length_take]; unfold roomBytes; omega)
    rw [← take_snoc hy] at hO2
    have g3' := hfr _ _ q3' (by omega) (own_ne hO' q3' (by rw [prC_sz]; simp))
    have hap : appV (t'.push (.row [.int .i64 y.1, .str y.2] true)) 2 24 lv (.sl t'.next 0 1 (some 1) 2) = some (lv', t2) := hap
    obtain ⟨c3, c3l⟩ := row1_lod g3'
    obtain ⟨c5, c5l⟩ := row1_lod g5'
    have hLv := lenV_read hO2.read
    rw [List.length_take, Nat.min_eq_left (by omega)] at hLv
    by_cases hlast : m ≤ ((i + 1 : Nat) : Int)
    · have z2 := eq_true hlast
      have hm1 : m.toNat = i + 1 := by omega
      simp (config := {contextual := true, maxDischargeDepth := 12, maxSteps := 4000000}) only [tb_at, he0, x3, x5, x14, b5, b5l, ap_build, fillP_nil, fillP_cons, fs0, fs1, hbs, hap, hst, hlt, c3, c3l, c5, c5l, hLv, z2, notV_bool, Bool.not_true, Bool.not_false, pickV_t, pickV_f, bin_eql, bin_neq, bin_neb, bin_npn, bin_np, bin_npnx, gcall_tt, gpure_tf, beq_self_eq_true, Bool.true_and, Bool.and_true, decide_true, decide_false, ↓bD, bU, forall_const, bS, implies_true, isNx, eq_self, ↓wp_cond, ↓wp_loop, ↓reduceIte, reduceCtorEq, Nat.reduceEqDiff, Nat.reduceLT, Nat.reduceAdd, Nat.reduceMul, bT, ↓sg_bsl, ↓st_callf, bX, ap_mkfn, ap_conv, ↓wi_seq, ↓wi_base, ↓wi_block, ↓wi_cond, ↓wi_loop, ↓wi_rf, ↓wy_seq, ↓wy_base, ↓wy_block, ↓wy_cond, ↓wy_loop, ↓wy_yld, ae_callvV, callvV_fn, List.append_nil, List.cons_append, List.nil_append, bin_nff, bin_nfn, bin_nffx, bin_nfnx, bin_streq]
      rw [hm1]
      first | exact ⟨hK2', _, rfl, hO2⟩ | exact ⟨hK2', hO2⟩ | exact ⟨_, rfl, hO2⟩
    · have z2 := eq_false hlast
      simp (config := {contextual := true, maxDischargeDepth := 12, maxSteps := 4000000}) only [tb_at, he0, x3, x5, x14, b5, b5l, ap_build, fillP_nil, fillP_cons, fs0, fs1, hbs, hap, hst, hlt, c3, c3l, c5, c5l, hLv, z2, notV_bool, Bool.not_true, Bool.not_false, pickV_t, pickV_f, bin_eql, bin_neq, bin_neb, bin_npn, bin_np, bin_npnx, gcall_tt, gpure_tf, beq_self_eq_true, Bool.true_and, Bool.and_true, decide_true, decide_false, ↓bD, bU, forall_const, bS, implies_true, isNx, eq_self, ↓wp_cond, ↓wp_loop, ↓reduceIte, reduceCtorEq, Nat.reduceEqDiff, Nat.reduceLT, Nat.reduceAdd, Nat.reduceMul, bT, ↓sg_bsl, ↓st_callf, bX, ap_mkfn, ap_conv, ↓wi_seq, ↓wi_base, ↓wi_block, ↓wi_cond, ↓wi_loop, ↓wi_rf, ↓wy_seq, ↓wy_base, ↓wy_block, ↓wy_cond, ↓wy_loop, ↓wy_yld, ae_callvV, callvV_fn, List.append_nil, List.cons_append, List.nil_append, bin_nff, bin_nfn, bin_nffx, bin_nfnx, bin_streq]
      exact ⟨hK2', by omega, g3', lv', g5', hO2⟩
  · obtain ⟨hK, hi, q3, lv, q5, hO⟩ := hJ
    obtain ⟨b5, b5l⟩ := row1_lod q5
    rw [List.take_length] at hO
    have : l.take m.toNat = l := List.take_of_length_le (by omega)
    simp (config := {contextual := true, maxDischargeDepth := 12, maxSteps := 4000000}) only [tb_at, he0, x3, x5, x14, b5, b5l, notV_bool, Bool.not_true, Bool.not_false, pickV_t, pickV_f, bin_eql, bin_neq, bin_neb, bin_npn, bin_np, bin_npnx, gcall_tt, gpure_tf, beq_self_eq_true, Bool.true_and, Bool.and_true, decide_true, decide_false, ↓bD, bU, forall_const, bS, implies_true, isNx, eq_self, ↓wp_cond, ↓wp_loop, ↓reduceIte, reduceCtorEq, Nat.reduceEqDiff, Nat.reduceLT, Nat.reduceAdd, Nat.reduceMul, bT, ↓sg_bsl, ↓st_callf, bX, ap_mkfn, ap_conv, ↓wi_seq, ↓wi_base, ↓wi_block, ↓wi_cond, ↓wi_loop, ↓wi_rf, ↓wy_seq, ↓wy_base, ↓wy_block, ↓wy_cond, ↓wy_loop, ↓wy_yld, ae_callvV, callvV_fn, List.append_nil, List.cons_append, List.nil_append, bin_nff, bin_nfn, bin_nffx, bin_nfnx, bin_streq]
    rw [this]
    first | exact ⟨hK, _, rfl, hO⟩ | exact ⟨hK, hO⟩ | exact ⟨_, rfl, hO⟩
theorem s_pairs : SoundAt Try.prog 16 (conF prC pPairs) :=
  con_freshI (tb_sound (l := []) (by simp)) mixed Try.func16 ki16 ci16 fun args s l e h => by
    unfold pPairs at h
    split at h
    · split at h
      · rename_i hb
        split at h
        · rename_i hr
          split at h
          · rename_i hl
            injection h with h
            obtain ⟨rfl, rfl⟩ := Prod.mk.inj h
            exact ⟨(fun x hx => by cases hx), by simp [ai16], a_pairs hb hr hl⟩
          · cases h
        · cases h
      · cases h
    · cases h
theorem q_pairs {s s0 : St} {f : AV} {l : List PrS} (h : ItR s0 s f l) (hl : l.length ≤ 10000) {m : Int} : ∃ v t, acall (conF prC pPairs) false [f, .int .i64 m] s = some (v, t) ∧ Own prC s t v (if m < 1 then [] else l.take m.toNat) ∧ Keep s t := by
  obtain ⟨b, w, rfl, h1, h2, h3, _⟩ := h
  have hp : pPairs [.fn 63 [.ptr b 0], .int .i64 m] { heap := s.heap, next := s.next, low := s.next } = some (if m < 1 then [] else l.take m.toNat, none) := by
    show (match s.get b with
      | some (.row [w] true) => match AM.read prC (lowd s) w with
        | some l => if l.length ≤ 10000 then some (if m < 1 then [] else l.take m.toNat, (none : Option AV)) else none
        | none => none
      | _ => none) = _
    rw [h2]
    simp only
    rw [read_low' h3.rd]
    simp only
    rw [if_pos hl]
  obtain ⟨v, t, q1, q2, q3⟩ := acall_fresh (D := prC) hp (fun x hx => by cases hx)
  exact ⟨v, t, q1, q3, q2⟩

end Go.AM
end
/-
  Ordered maps: New, the helpers of the statements, Copy. Own work of this project; in part printed by a program of it.
-/
section
set_option maxRecDepth 100000
set_option maxHeartbeats 8000000
namespace Go.AM
open Go Go.Proofs

variable {s t u : St}

theorem bin_bo_same (a : Bool) : binOp .eql .bo (.bool a) (.bool a) = some (.bool true) := by cases a <;> rfl
noncomputable def R_New : Con := runFn (tb []) a36
theorem s_New : SoundAt Try.prog 36 R_New := run_sound (tb_sound (l := []) (by simp)) mixed Try.func36 k36 c36
theorem n_New : noNxtC a36.body = true := by kernel_rfl
theorem w_New {s : St} (d : Bool) : ∀ env : Env, elen env = a36.ntmps → (∀ i x_, [ordV d][i]? = some x_ → E env i = x_) → awp (tb []) a36.body (fun x e t => (∀ i, x ≠ .exit i) ∧ ∃ r, aresults e t a36.results = some r ∧ (∃ i, r = .ptr i 0 ∧ s.next ≤ i ∧ MpR t i none d []) ∧ Keep s t) env s := by
  intro env hlen ha
  have h0 : E env 0 = _ := ha 0 _ rfl
  have hlen : elen env = _ := hlen
  simp only [a36] at hlen
  unfold a36
  try dsimp only [oO, oG]
  have ho := ordV_one d
  have fs0 := fstep_bw0' (x := ordV d) ho .nilf .nils
  have hbx : boxV 2 (.agg [ordV d, .nils]) = some (fun id => .ptr id 0, .row [ordV d, .nils] true) := by cases d <;> rfl
  simp (config := {contextual := true, maxDischargeDepth := 12, maxSteps := 4000000}) only [tb_at, h0, hlen, bin_ord, ap_build, fillP_nil, fillP_cons, fs0, hbx, notV_bool, Bool.not_true, Bool.not_false, pickV_t, pickV_f, bin_eql, bin_neq, bin_neb, bin_npn, bin_np, bin_npnx, gcall_tt, gpure_tf, beq_self_eq_true, Bool.true_and, Bool.and_true, decide_true, decide_false, ↓bD, bU, forall_const, bS, implies_true, isNx, eq_self, ↓wp_cond, ↓wp_loop, ↓reduceIte, reduceCtorEq, Nat.reduceEqDiff, Nat.reduceLT, Nat.reduceAdd, Nat.reduceMul, bT, ↓sg_bsl, ↓st_callf, bX, ap_mkfn, ap_conv, ↓wi_seq, ↓wi_base, ↓wi_block, ↓wi_cond, ↓wi_loop, ↓wi_rf, ↓wy_seq, ↓wy_base, ↓wy_block, ↓wy_cond, ↓wy_loop, ↓wy_yld, ae_callvV, callvV_fn, List.append_nil, List.cons_append, List.nil_append, bin_nff, bin_nfn, bin_nffx, bin_nfnx, bin_streq, bin_bo_same]
  have hK1 : Keep s (s.push (.row [ordV d, .nils] true)) := (Keep.refl s).push _
  first | exact ⟨_, rfl, ⟨s.next, rfl, Nat.le_refl _, St.get_push_new s _, fun _ => rfl, (fun j e => by cases e), by simp⟩, hK1⟩ | exact ⟨_, rfl, s.next, rfl, Nat.le_refl _, St.get_push_new s _, fun _ => rfl, (fun j e => by cases e), by simp⟩
theorem q_New {s : St} (d : Bool) : ∃ i t, acall R_New false [ordV d] s = some (.ptr i 0, t) ∧ s.next ≤ i ∧ MpR t i none d [] ∧ Keep s t := by
  obtain ⟨r, t, h1, ⟨i, rfl, h2, h3⟩, h4⟩ := run_any (s := s) n_New (args := [ordV d]) (Q := fun r t => ∃ i, r = .ptr i 0 ∧ s.next ≤ i ∧ MpR t i none d []) (by simp [a36]) (fun r t t' hg hn ⟨i, e, h, h3⟩ => ⟨i, e, h, h3.mono fun id b hb => by rw [hg]; exact hb⟩) (fun r t hgr hk h => by
    obtain ⟨b, rfl, _⟩ := h
    cases hgr) (w_New (s := lowd s) d)
  exact ⟨i, t, h1, h2, h3, h4⟩
noncomputable def R_made : Con := runFn (tb [(36, R_New)]) a10
theorem s_made : SoundAt Try.prog 10 R_made := run_sound (tb_sound (l := [(36, R_New)]) (by simpa using s_New)) mixed Try.func10 k10 c10
theorem n_made : noNxtC a10.body = true := by kernel_rfl
theorem w_made {s : St} (d : Bool) : ∀ env : Env, elen env = a10.ntmps → (∀ i x_, [.bool d][i]? = some x_ → E env i = x_) → awp (tb [(36, R_New)]) a10.body (fun x e t => (∀ i, x ≠ .exit i) ∧ ∃ r, aresults e t a10.results = some r ∧ (∃ i, r = .ptr i 0 ∧ s.next ≤ i ∧ MpR t i none d []) ∧ Keep s t) env s := by
  intro env hlen ha
  have h0 : E env 0 = _ := ha 0 _ rfl
  have hlen : elen env = _ := hlen
  simp only [a10] at hlen
  unfold a10
  try dsimp only [oO, oG]
  obtain ⟨i, t1, q1, m1, m2, m3⟩ := q_New (s := s) d
  cases d
  · rw [ordV_f] at q1
    simp (config := {contextual := true, maxDischargeDepth := 12, maxSteps := 4000000}) only [tb_at, h0, hlen, q1, notV_bool, Bool.not_true, Bool.not_false, pickV_t, pickV_f, bin_eql, bin_neq, bin_neb, bin_npn, bin_np, bin_npnx, gcall_tt, gpure_tf, beq_self_eq_true, Bool.true_and, Bool.and_true, decide_true, decide_false, ↓bD, bU, forall_const, bS, implies_true, isNx, eq_self, ↓wp_cond, ↓wp_loop, ↓reduceIte, reduceCtorEq, Nat.reduceEqDiff, Nat.reduceLT, Nat.reduceAdd, Nat.reduceMul, bT, ↓sg_bsl, ↓st_callf, bX, ap_mkfn, ap_conv, ↓wi_seq, ↓wi_base, ↓wi_block, ↓wi_cond, ↓wi_loop, ↓wi_rf, ↓wy_seq, ↓wy_base, ↓wy_block, ↓wy_cond, ↓wy_loop, ↓wy_yld, ae_callvV, callvV_fn, List.append_nil, List.cons_append, List.nil_append, bin_nff, bin_nfn, bin_nffx, bin_nfnx, bin_streq, bin_bo_same]
    exact ⟨_, rfl, ⟨i, rfl, m1, m2⟩, m3⟩
  · rw [ordV_t] at q1
    simp (config := {contextual := true, maxDischargeDepth := 12, maxSteps := 4000000}) only [tb_at, h0, hlen, q1, notV_bool, Bool.not_true, Bool.not_false, pickV_t, pickV_f, bin_eql, bin_neq, bin_neb, bin_npn, bin_np, bin_npnx, gcall_tt, gpure_tf, beq_self_eq_true, Bool.true_and, Bool.and_true, decide_true, decide_false, ↓bD, bU, forall_const, bS, implies_true, isNx, eq_self, ↓wp_cond, ↓wp_loop, ↓reduceIte, reduceCtorEq, Nat.reduceEqDiff, Nat.reduceLT, Nat.reduceAdd, Nat.reduceMul, bT, ↓sg_bsl, ↓st_callf, bX, ap_mkfn, ap_conv, ↓wi_seq, ↓wi_base, ↓wi_block, ↓wi_cond, ↓wi_loop, ↓wi_rf, ↓wy_seq, ↓wy_base, ↓wy_block, ↓wy_cond, ↓wy_loop, ↓wy_yld, ae_callvV, callvV_fn, List.append_nil, List.cons_append, List.nil_append, bin_nff, bin_nfn, bin_nffx, bin_nfnx, bin_streq, bin_bo_same]
    exact ⟨_, rfl, ⟨i, rfl, m1, m2⟩, m3⟩
theorem q_made {s : St} (d : Bool) : ∃ i t, acall R_made false [.bool d] s = some (.ptr i 0, t) ∧ s.next ≤ i ∧ MpR t i none d [] ∧ Keep s t := by
  obtain ⟨r, t, h1, ⟨i, rfl, h2, h3⟩, h4⟩ := run_any (s := s) n_made (args := [.bool d]) (Q := fun r t => ∃ i, r = .ptr i 0 ∧ s.next ≤ i ∧ MpR t i none d []) (by simp [a10]) (fun r t t' hg hn ⟨i, e, h, h3⟩ => ⟨i, e, h, h3.mono fun id b hb => by rw [hg]; exact hb⟩) (fun r t hgr hk h => by
    obtain ⟨b, rfl, _⟩ := h
    cases hgr) (w_made (s := lowd s) d)
  exact ⟨i, t, h1, h2, h3, h4⟩
end Go.AM
end
/-
  Ordered maps: Copy. Own work of this project; in part printed by a program of it.
-/
section
set_option maxRecDepth 100000
set_option maxHeartbeats 8000000
namespace Go.AM
open Go Go.Proofs

variable {s t u : St}

variable {id : Nat} {q : Option Nat} {d : Bool} {L : List PrS}
theorem SrtD.take (h : SrtD d L) (i : Nat) : SrtD d (L.take i) := List.Pairwise.sublist (List.take_sublist i L) h
theorem atomsG (W : Option ByteArray) : ∃ a b, getV W = .tup [a, b] := by cases W <;> exact ⟨_, _, rfl⟩
end Go.AM
end
