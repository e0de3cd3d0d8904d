/-
  Ranges over functions, the third part: soundness. Own work of this project.
-/
import Derived.Test.YtfigjolpmhlnpaaP2
import Derived.Test.YtfigjolpmhlnpaaProg
import Derived.KernelRfl
import Derived.Shelf.SortM.SortNone
import Derived.Shelf.SortM.Plain
import Derived.Ground.SlgmProg
import Derived.Shelf.SlGeneric
import Derived.ProofKit
import Derived.Carry
import Derived.Deep.Slices
import Derived.HandedShaped
import Derived.OpenShut
set_option linter.unusedVariables false
set_option linter.unusedSimpArgs false
section
namespace Go.AM
open Go

variable {P : Program} {ρ : Ren} {n : Nat}

theorem splitY_spec : ∀ {l pre post : List AOper} {d : Option Nat} {x : AO} {args : List AO}, splitY l = some (pre, d, x, args, post) → ∃ o, l = pre ++ o :: post ∧ o.dst = d ∧ o.op = .callv x false args ∧ o.guard = none
  | [], _, _, _, _, _, h => by simp [splitY] at h
  | o :: r, pre, post, d, x, args, h => by
    unfold splitY at h
    split at h
    · rename_i x' args' h1 h2
      simp only [Option.some.injEq, Prod.mk.injEq] at h
      obtain ⟨rfl, rfl, rfl, rfl, rfl⟩ := h
      exact ⟨o, rfl, rfl, h1, h2⟩
    · obtain ⟨⟨a, d', x', args', b⟩, h1, h2⟩ := Option.map_eq_some_iff.1 h
      simp only [Prod.mk.injEq] at h2
      obtain ⟨rfl, rfl, rfl, rfl, rfl⟩ := h2
      obtain ⟨o', rfl, h3⟩ := splitY_spec h1
      exact ⟨o', rfl, h3⟩
theorem cregP_split {ops : Array Oper} : ∀ {pre post : List AOper} {ao : AOper} {os : List Oper}, cregP P ops os = some (pre ++ ao :: post) → ∃ os1 o os2, os = os1 ++ o :: os2 ∧ cregP P ops os1 = some pre ∧ cregP P ops os2 = some post ∧ guardOf ops o = some ao.guard ∧ ao.op = cop P false o.op ∧ ao.dst = o.dst
  | pre, post, ao, [], h => by
    simp only [cregP] at h
    injection h with h
    cases pre <;> cases h
  | pre, post, ao, o :: os, h => by
    simp only [cregP] at h
    split at h
    · rename_i g l' hg hl
      injection h with h
      cases pre with
      | nil =>
        simp only [List.nil_append] at h
        obtain ⟨h1, h2⟩ := List.cons.inj h
        subst h1; subst h2
        exact ⟨[], o, os, rfl, rfl, hl, hg, rfl, rfl⟩
      | cons p pre =>
        simp only [List.cons_append] at h
        obtain ⟨h1, h2⟩ := List.cons.inj h
        subst h1; subst h2
        obtain ⟨os1, o', os2, rfl, e1, e2, e3⟩ := cregP_split hl
        refine ⟨o :: os1, o', os2, rfl, ?_, e2, e3⟩
        simp only [cregP, hg, e1]
    · cases h

theorem exec_yield {o : Oper} {a : Act} {c : Call} (hop : o.op = .call c) {x : Operand} (hc : c.callee = .value x) {l : Nat} (hx : a.eval x = .func (.yield l) #[] #[]) (w : World) :
    (execOp a.eval o).run P w = (Instr.yield l (c.args.toList.map a.eval).toArray).run P w := by
  obtain ⟨callee, args, argTypes⟩ := c
  simp only at hc
  subst hc
  have : (args.map a.eval) = (args.toList.map a.eval).toArray := by apply Array.ext'; simp
  simp [execOp, hop, resolve, hx, Deferred.ofValue, invoke, this]
theorem callv_of {op : Op} {x : AO} {args : List AO} (h : cop P false op = .callv x false args) : ∃ c x0, op = .call c ∧ c.callee = .value x0 ∧ x = copd x0 ∧ args = c.args.toList.map copd ∧ (copd x0).ok = true ∧ ∀ y ∈ c.args.toList, (copd y).ok = true := by
  obtain ⟨hok, hc⟩ := cop_ok (P := P) (cl := false) (op := op) (by intro e; rw [e] at h; cases h)
  rw [hc] at h
  cases hop : op with
  | call c =>
    rw [hop] at h hok
    simp only [cop0] at h
    have hargs : ∀ x ∈ c.args.toList, (copd x).ok = true := fun x hx => hok x (by simp [Op.operands, Call.operands]; exact .inr (by simpa using hx))
    cases hcal : c.callee with
    | value x0 =>
      have hx : (copd x0).ok = true := hok x0 (by simp [Op.operands, Call.operands, hcal])
      refine ⟨c, x0, rfl, hcal, ?_⟩
      unfold ccall at h
      rw [hcal] at h
      cases x0 with
      | func f => simp only at h; split at h <;> cases h
      | _ => simp only at h; injection h with h1 h2 h3; exact ⟨h1.symm, h3.symm, hx, hargs⟩
    | invoke r m => unfold ccall at h; rw [hcal] at h; cases h
    | builtin b =>
      exfalso
      unfold ccall at h
      rw [hcal] at h
      simp only at h
      revert h
      repeat' split
      all_goals simp
  | makeFunc fn first caps =>
    rw [hop] at h
    exfalso
    revert h
    cases fn <;> simp only [cop0] <;> (try split) <;> simp
  | _ =>
    rw [hop] at h
    exfalso
    revert h
    simp only [cop0]
    repeat' split
    all_goals simp

/-! ### An iterator's code -/
def AEx.code : AEx → Code
  | .nor => .skip
  | .exit id => .exit id
  | .ret => .ret
/-- The loop's record. -/
def objL (fnid : FuncId) (tmps0 : Array Value) (ps : Array Tmp) (asg body : Code) (D : Nat) : YP → Obj
  | none => .loop { state := .ready, pending := none, fn := fnid, tmps := tmps0, params := ps, assign := asg, body := body, defers := D }
  | some x => .loop { state := .done, pending := some x.code, fn := fnid, tmps := tmps0, params := ps, assign := asg, body := body, defers := D }
theorem objL_sys (fnid : FuncId) (tmps0 : Array Value) (ps : Array Tmp) (asg body : Code) (D : Nat) (p : YP) : isSys (objL fnid tmps0 ps asg body D p) = true := by cases p <;> rfl

section
variable {call : Nat → List AV → St → Option (AV × St)} {fnid : FuncId} {tmps0 : Array Value} {ps : Array Tmp} {asg body : Code} {k D : Nat} {env0 : Env}
theorem base_in (hS : Sound P call) (hm : P.follows .mixedOrders = true) (c : Code) (p : YP) (Qa : YP → AEx → Env → St → Prop) (env : Env) (s : St) (ρ : Ren) (a : Act) (G W : World) (Q : Exit → Act → World → Prop)
    (h : awp call (ccode P c) (Qa p) env s) (hE : EnvR ρ env a.tmps) (hR : R s ρ G) (hf : Free s ρ) (hd : a.defers = []) (hG : G.heap[k]? = some (objL fnid tmps0 ps asg body D none)) (hW : W = G.putObj k (objL fnid tmps0 ps asg body D p))
    (hQ : ∀ p' x env' s' ρ' a' G' W', Qa p' x env' s' → Step s s' ρ ρ' G G' → R s' ρ' G' → Free s' ρ' → EnvR ρ' env' a'.tmps → a'.defers = [] → G'.heap[k]? = some (objL fnid tmps0 ps asg body D none) → W' = G'.putObj k (objL fnid tmps0 ps asg body D p') → Q x.out a' W') :
    c.wpIn (fenceAt none) n P Q a W := by
  obtain ⟨hRW, hl⟩ := lift_loop hW hG (objL_sys ..) (objL_sys ..) hR
  refine awp_in hS hm (df := []) c (Qa p) env s ρ a W Q (.inl rfl) h hE hRW hf hd fun x env' s' ρ' a' W' hq g1 g2 g3 g4 g5 => ?_
  obtain ⟨G', e1, e2, e3, e4⟩ := hl s' ρ' W' g1 g2
  exact hQ p x env' s' ρ' a' G' W' hq e1 e4 g3 g4 g5 e3 e2

theorem yld_in (hS : Sound P call) (hm : P.follows .mixedOrders = true) (hna : noDefer asg = true) (hnb : noDefer body = true) {id : Nat} {ops : Array Oper} {l pre post : List AOper} {d : Option Nat} {x : AO} {args : List AO} (hl : cregP P ops ops.toList = some l) (hs : splitY l = some (pre, d, x, args, post))
    (p : YP) (Qa : YP → AEx → Env → St → Prop) (env : Env) (s : St) (ρ : Ren) (a : Act) (G W : World) (Q : Exit → Act → World → Prop)
    (h : awpY call (.yd k) (roundY call ps.toList (ccode P asg) (ccode P body) env0) (.yld pre d x args post) p Qa env s) (hE : EnvR ρ env a.tmps) (hE0 : EnvR ρ env0 tmps0) (hR : R s ρ G) (hf : Free s ρ) (hd : a.defers = []) (hG : G.heap[k]? = some (objL fnid tmps0 ps asg body D none)) (hW : W = G.putObj k (objL fnid tmps0 ps asg body D p))
    (hQ : ∀ p' x env' s' ρ' a' G' W', Qa p' x env' s' → Step s s' ρ ρ' G G' → R s' ρ' G' → Free s' ρ' → EnvR ρ' env' a'.tmps → a'.defers = [] → G'.heap[k]? = some (objL fnid tmps0 ps asg body D none) → W' = G'.putObj k (objL fnid tmps0 ps asg body D p') → Q x.out a' W') :
    (Code.region id ops false).wpIn (fenceAt none) n P Q a W := by
  obtain ⟨ao, rfl, hod, hoo, hog⟩ := splitY_spec hs
  obtain ⟨os1, o, os2, hos, hc1, hc2, hg, hop, hdst⟩ := cregP_split hl
  rw [hoo] at hop
  rw [hod] at hdst
  subst hdst
  obtain ⟨hRW, hlift⟩ := lift_loop hW hG (objL_sys ..) (objL_sys ..) hR
  simp only [awpY] at h
  refine wpIn_region ?_
  have hsz : ops.size = os1.length + (os2.length + 1) := by
    rw [← Array.length_toList, hos, List.length_append, List.length_cons]
  have hrg : List.range ops.size = List.range' 0 os1.length ++ (os1.length :: List.range' (os1.length + 1) os2.length) := by
    rw [List.range_eq_range', hsz, ← List.range'_append_1]
    simp [List.range'_succ]
  have hat : ∀ j, ops[j]? = (os1 ++ o :: os2)[j]? := fun j => by rw [← hos, Array.getElem?_toList]
  rw [hrg]
  refine awops_in hS (df := []) (.inl rfl) os1 0 pre env s ρ a W (fun j o' hj => by rw [hat, Nat.zero_add, List.getElem?_append_left (List.getElem?_eq_some_iff.1 hj).1]; exact hj) hc1 h hE hRW hf hd fun e t ρ1 a1 W1 hq g1 g2 g3 g4 g5 => ?_
  obtain ⟨hx, rfl, hround⟩ := hq
  obtain ⟨G1, e1, e2, e3, e4⟩ := hlift t ρ1 W1 g1 g2
  rw [putObj_self e3] at e2
  subst e2
  have ho : ops[os1.length]? = some o := by rw [hat]; simp
  simp only [wpOpsIn, ho]
  have hwt : wanted ⟨o.dst, .bad, ao.guard, none, false⟩ e = some true := by simp [wanted, hog]
  rw [wanted_rel g4 hg hwt, if_pos rfl]
  obtain ⟨cc, x0, hcall, hcal, rfl, rfl, hxok, haok⟩ := callv_of hop.symm
  have hxv := aev_rel g4 hxok
  rw [hx] at hxv
  simp only [VR] at hxv
  have hargs := VRs_map g4 cc.args.toList haok
  obtain ⟨hlen, hasg⟩ := hround
  refine ⟨fun _ _ => trivial, ?_⟩
  have hsem : o.semAt (fenceAt none).round a1.eval = execOp a1.eval o := rfl
  have hsize : (cc.args.toList.map a1.eval).toArray.size = ps.size := by
    have hlen' := hlen
    simp at hlen' ⊢
    exact hlen'
  have hst1 : Step s t ρ ρ1 G W1 := e1
  rw [hsem, exec_yield hcall hcal hxv, run_yield e3 hsize, Oper.uponIn_round]
  refine ⟨fun q => by simp [fenceAt, Fence.wide] at q, ?_⟩
  refine roundIn_of_wpIn (F := fenceAt none) trivial ?_
  have hE1 := (hE0.step hf hst1).sets hargs (ps := ps.toList)
  rw [← zip_fold] at hE1
  refine awp_in (ro := some k) hS hm (df := []) asg _ _ t ρ1 { tmps := _, defers := [] } W1 _ (.inr hna) hasg hE1 g2 g3 rfl fun x2 e2 t2 ρ2 a2 W2 hq2 k1 k2 k3 k4 k5 => ?_
  obtain ⟨rfl, hq2⟩ := hq2
  have h2 := k1.sys g2 e3 (objL_sys ..)
  refine ⟨_, run_beginRound h2 rfl, ?_⟩
  refine awp_in (ro := some k) hS hm (df := []) body _ e2 t2 ρ2 a2 _ _ (.inr hnb) hq2 k4 (k2.sys h2 (objL_sys ..) _) k3 k5 fun x3 e3' t3 ρ3 a3 W3 hq3 j1 j2 j3 j4 j5 => ?_
  have hb3 := j1.sys (k2.sys h2 (objL_sys ..) _) (putObj_at h2) rfl
  have hst3 : Step t t3 ρ1 ρ3 W1 (W3.putObj k (objL fnid tmps0 ps asg body D none)) := k1.trans (j1.reloop rfl h2)
  have fin : ∀ (p' : YP) (v : AV) (cv : Value), VR ρ3 v cv → awops call t3.next post (Qa p' .nor) (putE e o.dst v) t3 → wpOpsIn (fenceAt none) n P ops Q (List.range' (os1.length + 1) os2.length) (a1.put o.dst cv) (W3.putObj k (objL fnid tmps0 ps asg body D p')) := by
    intro p' v cv hv hpost
    obtain ⟨hR4, hlift4⟩ := lift_loop (G := W3.putObj k (objL fnid tmps0 ps asg body D none)) (o := objL fnid tmps0 ps asg body D p') (o0 := objL fnid tmps0 ps asg body D none) rfl (putObj_at hb3) (objL_sys ..) (objL_sys ..) (j2.sys hb3 rfl _)
    rw [putObj_put] at hR4 hlift4
    have := awops_in (n := n) (Q := Q) hS (df := []) (rest := []) (ro := none) (ops := ops) (.inl rfl) os2 (os1.length + 1) post (putE e o.dst v) t3 ρ3 (a1.put o.dst cv) (W3.putObj k (objL fnid tmps0 ps asg body D p')) (fun j o' hj => by rw [hat, Nat.add_assoc, List.getElem?_append_right (by omega), show os1.length + (1 + j) - os1.length = j + 1 by omega, List.getElem?_cons_succ]; exact hj) hc2 hpost ((g4.step g3 hst3).put hv o.dst) hR4 j3 (by cases hdst : o.dst <;> simpa [Act.put] using g5) fun env' s' ρ' a' w' hq q1 q2 q3 q4 q5 => by
        obtain ⟨G4, f1, f2, f3, f4⟩ := hlift4 s' ρ' w' q1 q2
        exact hQ p' .nor env' s' ρ' a' G4 w' hq ((hst1.trans hst3).trans f1) f4 q3 q4 q5 f3 f2
    simpa using this
  cases x3 with
  | nor => exact ⟨_, _, run_endRound none hb3, fin none (.bool true) (.bool true) (by simp [VR]) hq3⟩
  | exit i => exact ⟨_, _, run_endRound (some (.exit i)) hb3, fin (some (.exit i)) (.bool false) (.bool false) (by simp [VR]) hq3⟩
  | ret => exact ⟨_, _, run_endRound (some .ret) hb3, fin (some .ret) (.bool false) (.bool false) (by simp [VR]) hq3⟩

theorem awpY_in (hS : Sound P call) (hm : P.follows .mixedOrders = true) (hna : noDefer asg = true) (hnb : noDefer body = true) : ∀ (c : Code) (p : YP) (Qa : YP → AEx → Env → St → Prop) (env : Env) (s : St) (ρ : Ren) (a : Act) (G W : World) (Q : Exit → Act → World → Prop),
    awpY call (.yd k) (roundY call ps.toList (ccode P asg) (ccode P body) env0) (ccodeY P c) p Qa env s → EnvR ρ env a.tmps → EnvR ρ env0 tmps0 → R s ρ G → Free s ρ → a.defers = [] → G.heap[k]? = some (objL fnid tmps0 ps asg body D none) → W = G.putObj k (objL fnid tmps0 ps asg body D p) →
    (∀ p' x env' s' ρ' a' G' W', Qa p' x env' s' → Step s s' ρ ρ' G G' → R s' ρ' G' → Free s' ρ' → EnvR ρ' env' a'.tmps → a'.defers = [] → G'.heap[k]? = some (objL fnid tmps0 ps asg body D none) → W' = G'.putObj k (objL fnid tmps0 ps asg body D p') → Q x.out a' W') →
    c.wpIn (fenceAt none) n P Q a W := by
  intro c
  induction c with
  | seq c d ihc ihd =>
    intro p Qa env s ρ a G W Q h hE hE0 hR hf hd hG hW hQ
    simp only [ccodeY, awpY] at h
    refine wpIn_seq (ihc p _ env s ρ a G W _ h hE hE0 hR hf hd hG hW fun p1 x env1 s1 ρ1 a1 G1 W1 hx g1 g2 g3 g4 g5 g6 g7 => ?_)
    cases x with
    | nor => exact ihd p1 Qa env1 s1 ρ1 a1 G1 W1 Q hx g4 (hE0.step hf g1) g2 g3 g5 g6 g7 fun p2 y env2 s2 ρ2 a2 G2 W2 hy k1 k2 k3 k4 k5 k6 k7 => hQ p2 y env2 s2 ρ2 a2 G2 W2 hy (g1.trans k1) k2 k3 k4 k5 k6 k7
    | exit id => exact hQ p1 (.exit id) env1 s1 ρ1 a1 G1 W1 hx g1 g2 g3 g4 g5 g6 g7
    | ret => exact hQ p1 .ret env1 s1 ρ1 a1 G1 W1 hx g1 g2 g3 g4 g5 g6 g7
  | cond q c d ihc ihd =>
    intro p Qa env s ρ a G W Q h hE hE0 hR hf hd hG hW hQ
    simp only [ccodeY] at h
    split at h
    · rename_i hok
      simp only [awpY] at h
      have hv := aev_rel hE hok
      split at h
      · rename_i hb
        rw [hb] at hv
        simp only [VR] at hv
        exact wpIn_cond_true hv (ihc p Qa env s ρ a G W Q h hE hE0 hR hf hd hG hW hQ)
      · rename_i hb
        rw [hb] at hv
        simp only [VR] at hv
        exact wpIn_cond_false hv (ihd p Qa env s ρ a G W Q h hE hE0 hR hf hd hG hW hQ)
      · exact h.elim
    · simp only [awpY, awp] at h
  | block id c ih =>
    intro p Qa env s ρ a G W Q h hE hE0 hR hf hd hG hW hQ
    simp only [ccodeY, awpY] at h
    refine wpIn_block (ih p _ env s ρ a G W _ h hE hE0 hR hf hd hG hW fun p1 x env1 s1 ρ1 a1 G1 W1 hx g1 g2 g3 g4 g5 g6 g7 => ?_)
    cases x with
    | nor => exact hQ p1 .nor env1 s1 ρ1 a1 G1 W1 hx g1 g2 g3 g4 g5 g6 g7
    | exit i =>
      simp only at hx
      by_cases hi : i = id
      · rw [if_pos hi] at hx
        simp only [AEx.out, Exit.inBlock, if_pos hi]
        exact hQ p1 .nor env1 s1 ρ1 a1 G1 W1 hx g1 g2 g3 g4 g5 g6 g7
      · rw [if_neg hi] at hx
        simp only [AEx.out, Exit.inBlock, if_neg hi]
        exact hQ p1 (.exit i) env1 s1 ρ1 a1 G1 W1 hx g1 g2 g3 g4 g5 g6 g7
    | ret => exact hQ p1 .ret env1 s1 ρ1 a1 G1 W1 hx g1 g2 g3 g4 g5 g6 g7
  | loop c ih =>
    intro p Qa env s ρ a G W Q h hE hE0 hR hf hd hG hW hQ
    simp only [ccodeY, awpY] at h
    obtain ⟨m, h⟩ := h
    refine wpIn_loop_rounds m ?_
    induction m generalizing p env s ρ a G W with
    | zero => exact h.elim
    | succ m ihn =>
      simp only [aroundsY] at h
      simp only [Code.roundsIn]
      refine ih p _ env s ρ a G W _ h hE hE0 hR hf hd hG hW fun p1 x env1 s1 ρ1 a1 G1 W1 hx g1 g2 g3 g4 g5 g6 g7 => ?_
      cases x with
      | nor => exact ihn p1 env1 s1 ρ1 a1 G1 W1 g4 (hE0.step hf g1) g2 g3 g5 g6 g7 (fun p2 y env2 s2 ρ2 a2 G2 W2 hy k1 k2 k3 k4 k5 k6 k7 => hQ p2 y env2 s2 ρ2 a2 G2 W2 hy (g1.trans k1) k2 k3 k4 k5 k6 k7) hx
      | exit id => exact hQ p1 (.exit id) env1 s1 ρ1 a1 G1 W1 hx g1 g2 g3 g4 g5 g6 g7
      | ret => exact hQ p1 .ret env1 s1 ρ1 a1 G1 W1 hx g1 g2 g3 g4 g5 g6 g7
  | region id ops draw =>
    intro p Qa env s ρ a G W Q h hE hE0 hR hf hd hG hW hQ
    cases draw
    · simp only [ccodeY] at h
      split at h
      · rename_i l hl
        split at h
        · rename_i pre d x args post hs
          exact yld_in hS hm hna hnb hl hs p Qa env s ρ a G W Q h hE hE0 hR hf hd hG hW hQ
        · simp only [awpY] at h
          exact base_in hS hm _ p Qa env s ρ a G W Q h hE hR hf hd hG hW hQ
      · simp only [awpY, awp] at h
    · simp only [ccodeY, awpY] at h
      exact base_in hS hm _ p Qa env s ρ a G W Q h hE hR hf hd hG hW hQ
  | _ =>
    intro p Qa env s ρ a G W Q h hE hE0 hR hf hd hG hW hQ
    simp only [ccodeY, awpY] at h
    exact base_in hS hm _ p Qa env s ρ a G W Q h hE hR hf hd hG hW hQ
end

/-! ### Functions -/
def markD (D : Nat) : Deferred := { target := .collected D, args := #[] }
def DefOk (w0 w : World) (ds : List Deferred) : Prop := ∃ Ds : List Nat, ds = Ds.map markD ∧ Ds.Nodup ∧ ∀ D ∈ Ds, w0.heap.size ≤ D ∧ w.heap[D]? = some (.deferred (some []))
theorem DefOk.step {w0 w w' : World} {s s' : St} {ρ' : Ren} {ds : List Deferred} (h : DefOk w0 w ds) (hR : R s ρ w) (hst : Step s s' ρ ρ' w w') : DefOk w0 w' ds := by
  obtain ⟨Ds, rfl, h2, h3⟩ := h
  exact ⟨Ds, rfl, h2, fun D hD => ⟨(h3 D hD).1, hst.sys hR (h3 D hD).2 rfl⟩⟩
theorem findI_spec {f : Nat} : ∀ {l : List (Nat × Nat × AY)} {n : Nat} {y : AY}, findI f l = some (n, y) → (f, n, y) ∈ l
  | [], _, _, h => by cases h
  | (g, m, z) :: r, n, y, h => by
    unfold findI at h
    split at h
    · rename_i e
      injection h with h
      obtain ⟨rfl, rfl⟩ := Prod.mk.inj h
      rw [e]
      exact List.mem_cons_self
    · exact List.mem_cons_of_mem _ (findI_spec h)
theorem iters_spec {its : List Nat} {f m : Nat} {y : AY} (h : (f, m, y) ∈ iters P its) : ∃ fn c, P.funcs[f]? = some fn ∧ callable P f = true ∧ fn.results = #[] ∧ fn.body = some c ∧ m = fn.ntmps ∧ y = ccodeY P c := by
  unfold iters at h
  obtain ⟨g, _, hg⟩ := List.mem_filterMap.1 h
  split at hg
  · rename_i fn hfn
    split at hg
    · rename_i hc
      simp only [Bool.and_eq_true, beq_iff_eq] at hc
      obtain ⟨c, hb, e⟩ := Option.map_eq_some_iff.1 hg
      simp only [Prod.mk.injEq] at e
      obtain ⟨rfl, rfl, rfl⟩ := e
      exact ⟨fn, c, hfn, hc.1, Array.eq_empty_of_size_eq_zero hc.2, hb, rfl, rfl⟩
    · cases hg
  · cases hg
theorem enters_of_callable {f : Nat} (hcal : callable P f = true) (args : Array Value) (w : World) : (callFunc f args).run P w = .ok (.enter f args) w := by
  unfold callable at hcal
  cases hfn : P.funcs[f]? with
  | none => simp [hfn] at hcal
  | some fn =>
    simp only [hfn, Bool.and_eq_true, bne_iff_ne, ne_eq] at hcal
    cases hbd : fn.body with
    | none => simp [hbd] at hcal
    | some b => simp [callFunc, hfn, hcal.2, hbd]
theorem results_no {fn : Func} (h : fn.results = #[]) (tmps : Array Value) (w : World) : ∃ v, (results fn tmps).run P w = .ok v w := by
  unfold results
  rw [h]
  simp

theorem rf_in {call : Nat → List AV → St → Option (AV × St)} (hS : Sound P call) (hm : P.follows .mixedOrders = true) {its : List Nat} {w0 : World} {g : Operand} {ps : Array Tmp} {asg body : Code} (hg : (copd g).ok = true) (hna : noDefer asg = true) (hnb : noDefer body = true)
    (Qa : AEx → Env → St → Prop) (env : Env) (s : St) (ρ : Ren) (a : Act) (w : World) (Q : Exit → Act → World → Prop)
    (h : awpI call (.rf (copd g) ps.toList (ccode P asg) (ccode P body) (iters P its)) Qa env s) (hE : EnvR ρ env a.tmps) (hR : R s ρ w) (hf : Free s ρ) (hd : DefOk w0 w a.defers) (hsz : w0.heap.size ≤ w.heap.size)
    (hQ : ∀ x env' s' ρ' a' w', Qa x env' s' → Step s s' ρ ρ' w w' → R s' ρ' w' → Free s' ρ' → EnvR ρ' env' a'.tmps → DefOk w0 w' a'.defers → Q x.out a' w') : (Code.rangeFunc g ps asg body).wpIn (fenceAt none) n P Q a w := by
  simp only [awpI] at h
  have hgv := aev_rel hE hg
  split at h
  · rename_i f caps hav
    rw [hav] at hgv
    simp only [VR] at hgv
    obtain ⟨lb, hval, hcaps⟩ := hgv
    split at h
    · rename_i m y hfi
      obtain ⟨fn, c, hfn, hcal, hres, hbd, rfl, rfl⟩ := iters_spec (findI_spec hfi)
      refine wpIn_rangeFunc ?_
      intro fnid _
      have h := h (w.heap.size + 1)
      obtain ⟨W1, hW1⟩ : ∃ W1, (w.alloc (.deferred (some []))).alloc (objL fnid a.tmps ps asg body w.heap.size none) = W1 := ⟨_, rfl⟩
      have hL1 : W1.heap[w.heap.size + 1]? = some (objL fnid a.tmps ps asg body w.heap.size none) := by
        rw [← hW1]; have := World.alloc_heap_new (w.alloc (.deferred (some []))) (objL fnid a.tmps ps asg body w.heap.size none); rwa [World.size_alloc] at this
      have hD1 : W1.heap[w.heap.size]? = some (.deferred (some [])) := by
        rw [← hW1]
        show ((w.heap.push _).push _)[w.heap.size]? = _
        rw [Array.getElem?_push_lt (by simp)]
        simp
      have hcl : Clean w W1 := by rw [← hW1]; exact (clean_pushW w _).trans (clean_pushW _ _)
      have hst1 : Step s s ρ ρ w W1 := hcl.step s ρ
      have hR1 : R s ρ W1 := hR.clean hcl
      refine ⟨w.heap.size + 1, [markD w.heap.size], W1, { target := .fn (.func f) lb.toArray, args := #[.func (.yield (w.heap.size + 1)) #[] #[]] }, W1, f, #[.func (.yield (w.heap.size + 1)) #[] #[]] ++ lb.toArray, W1, ?_, ?_, fun _ _ => trivial, ?_, fun q => by simp [fenceAt, Fence.wide] at q, ?_⟩
      · rw [← hW1]; exact run_enterLoop_outer _ _ _ _ _
      · simp only [resolve, hval]
        simp [Deferred.ofValue, Act.eval]
      · simp [invoke, enters_of_callable hcal]
      · refine callsIn_of_wp (F := fenceAt none) hfn hbd trivial ?_
        have hen := env_start (ρ := ρ) (args := .yd (w.heap.size + 1) :: caps) (cargs := .func (.yield (w.heap.size + 1)) #[] #[] :: lb) (VRs_cons.2 ⟨by simp [VR], hcaps⟩) fn.ntmps
        have hcons : (Value.func (.yield (w.heap.size + 1)) #[] #[] :: lb).toArray = #[Value.func (.yield (w.heap.size + 1)) #[] #[]] ++ lb.toArray := by simp
        rw [hcons] at hen
        refine awpY_in (k := w.heap.size + 1) (D := w.heap.size) (fnid := fnid) (tmps0 := a.tmps) (ps := ps) hS hm hna hnb c none _ _ s ρ { tmps := _, defers := [] } W1 W1 _ h hen hE hR1 hf rfl hL1 (putObj_self hL1).symm fun p x env' s' ρ' a' G' W' hq g1 g2 g3 g4 g5 g6 g7 => ?_
        obtain ⟨hx, hq⟩ := hq
        obtain ⟨v, hv⟩ := results_no (P := P) hres a'.tmps W'
        have hrp : rangePost (fenceAt none) n P (w.heap.size + 1) Q { a with defers := [markD w.heap.size] ++ a.defers } (.returned v) W' := by
          have hat : W'.heap[w.heap.size + 1]? = some (objL fnid a.tmps ps asg body w.heap.size p) := by rw [g7]; exact putObj_at g6
          have hstW : ∀ o, Step s s' ρ ρ' w (W'.putObj (w.heap.size + 1) o) := fun o => by
            rw [g7, putObj_put]
            exact (hst1.trans g1).putNew (by omega) o
          have hRW : ∀ o, R s' ρ' (W'.putObj (w.heap.size + 1) o) := fun o => by
            rw [g7, putObj_put]
            exact g2.sys g6 (objL_sys ..) o
          have hDW : ∀ o, DefOk w0 (W'.putObj (w.heap.size + 1) o) ([markD w.heap.size] ++ a.defers) := fun o => by
            obtain ⟨Ds, e1, e2, e3⟩ := hd.step hR (hstW o)
            refine ⟨w.heap.size :: Ds, by rw [e1]; rfl, List.nodup_cons.2 ⟨fun hmem => ?_, e2⟩, fun D hD => ?_⟩
            · obtain ⟨Ds', e1', e2', e3'⟩ := hd
              have : Ds' = Ds := by
                have hinj : Function.Injective markD := fun i j e => by simpa [markD] using e
                exact (List.map_inj_right (fun _ _ e => hinj e)).1 (e1'.symm.trans e1)
              subst this
              have := (Array.getElem?_eq_some_iff.1 (e3' _ hmem).2).1
              omega
            · rcases List.mem_cons.1 hD with rfl | hD
              · refine ⟨hsz, ?_⟩
                rw [g7, putObj_put, World.putObj_heap_other (by omega)]
                exact g1.sys hR1 hD1 rfl
              · exact e3 D hD
          cases p with
          | none =>
            refine ⟨_, _, run_endLoop hat (by simp), ?_⟩
            exact hQ .nor env s' ρ' _ _ hq (hstW _) (hRW _) g3 (hE.step hf (hst1.trans g1)) (hDW _)
          | some z =>
            cases z with
            | nor =>
              refine ⟨_, _, run_endLoop hat (by simp), ?_⟩
              exact wpIn_skip (hQ .nor env s' ρ' _ _ hq (hstW _) (hRW _) g3 (hE.step hf (hst1.trans g1)) (hDW _))
            | exit i =>
              refine ⟨_, _, run_endLoop hat (by simp), ?_⟩
              exact wpIn_exit (hQ (.exit i) env s' ρ' _ _ hq (hstW _) (hRW _) g3 (hE.step hf (hst1.trans g1)) (hDW _))
            | ret =>
              refine ⟨_, _, run_endLoop hat (by simp), ?_⟩
              exact wpIn_ret (hQ .ret env s' ρ' _ _ hq (hstW _) (hRW _) g3 (hE.step hf (hst1.trans g1)) (hDW _))
        cases x with
        | nor => exact ⟨g5, v, hv, hrp⟩
        | ret => exact ⟨g5, v, hv, hrp⟩
        | exit i => exact absurd rfl (hx i)
    · exact h.elim
  · exact h.elim
end Go.AM
end
/-
  Ranges over functions, the fourth part: whole functions. Own work of this project.
-/
section
namespace Go.AM
open Go

variable {P : Program} {ρ : Ren} {n : Nat}

theorem awpI_base {call : Nat → List AV → St → Option (AV × St)} (hS : Sound P call) (hm : P.follows .mixedOrders = true) {w0 : World} (c : Code) (Qa : AEx → Env → St → Prop) (env : Env) (s : St) (ρ : Ren) (a : Act) (w : World) (Q : Exit → Act → World → Prop)
    (h : awp call (ccode P c) Qa env s) (hE : EnvR ρ env a.tmps) (hR : R s ρ w) (hf : Free s ρ) (hd : DefOk w0 w a.defers)
    (hQ : ∀ x env' s' ρ' a' w', Qa x env' s' → Step s s' ρ ρ' w w' → R s' ρ' w' → Free s' ρ' → EnvR ρ' env' a'.tmps → DefOk w0 w' a'.defers → Q x.out a' w') : c.wpIn (fenceAt none) n P Q a w :=
  awp_in hS hm (df := a.defers) c Qa env s ρ a w Q (.inl rfl) h hE hR hf rfl fun x env' s' ρ' a' w' hq g1 g2 g3 g4 g5 => hQ x env' s' ρ' a' w' hq g1 g2 g3 g4 (by rw [g5]; exact hd.step hR g1)
theorem awpI_in {call : Nat → List AV → St → Option (AV × St)} (hS : Sound P call) (hm : P.follows .mixedOrders = true) {its : List Nat} {w0 : World} : ∀ (c : Code) (Qa : AEx → Env → St → Prop) (env : Env) (s : St) (ρ : Ren) (a : Act) (w : World) (Q : Exit → Act → World → Prop),
    awpI call (ccodeI P its c) Qa env s → EnvR ρ env a.tmps → R s ρ w → Free s ρ → DefOk w0 w a.defers → w0.heap.size ≤ w.heap.size →
    (∀ x env' s' ρ' a' w', Qa x env' s' → Step s s' ρ ρ' w w' → R s' ρ' w' → Free s' ρ' → EnvR ρ' env' a'.tmps → DefOk w0 w' a'.defers → Q x.out a' w') → c.wpIn (fenceAt none) n P Q a w := by
  intro c
  induction c with
  | seq c d ihc ihd =>
    intro Qa env s ρ a w Q h hE hR hf hd hsz hQ
    simp only [ccodeI] at h
    split at h
    · simp only [awpI] at h
      refine wpIn_seq (ihc _ env s ρ a w _ h hE hR hf hd hsz fun x env1 s1 ρ1 a1 w1 hx g1 g2 g3 g4 g5 => ?_)
      cases x with
      | nor => exact ihd Qa env1 s1 ρ1 a1 w1 Q hx g4 g2 g3 g5 (Nat.le_trans hsz g1.size) fun y env2 s2 ρ2 a2 w2 hy k1 k2 k3 k4 k5 => hQ y env2 s2 ρ2 a2 w2 hy (g1.trans k1) k2 k3 k4 k5
      | exit id => exact hQ (.exit id) env1 s1 ρ1 a1 w1 hx g1 g2 g3 g4 g5
      | ret => exact hQ .ret env1 s1 ρ1 a1 w1 hx g1 g2 g3 g4 g5
    · simp only [awpI] at h
      exact awpI_base hS hm _ Qa env s ρ a w Q h hE hR hf hd hQ
  | cond q c d ihc ihd =>
    intro Qa env s ρ a w Q h hE hR hf hd hsz hQ
    simp only [ccodeI] at h
    split at h
    · split at h
      · rename_i hok
        simp only [awpI] at h
        have hv := aev_rel hE hok
        split at h
        · rename_i hb
          rw [hb] at hv
          simp only [VR] at hv
          exact wpIn_cond_true hv (ihc Qa env s ρ a w Q h hE hR hf hd hsz hQ)
        · rename_i hb
          rw [hb] at hv
          simp only [VR] at hv
          exact wpIn_cond_false hv (ihd Qa env s ρ a w Q h hE hR hf hd hsz hQ)
        · exact h.elim
      · simp only [awpI, awp] at h
    · simp only [awpI] at h
      exact awpI_base hS hm _ Qa env s ρ a w Q h hE hR hf hd hQ
  | block id c ih =>
    intro Qa env s ρ a w Q h hE hR hf hd hsz hQ
    simp only [ccodeI] at h
    split at h
    · simp only [awpI] at h
      refine wpIn_block (ih _ env s ρ a w _ h hE hR hf hd hsz fun x env1 s1 ρ1 a1 w1 hx g1 g2 g3 g4 g5 => ?_)
      cases x with
      | nor => exact hQ .nor env1 s1 ρ1 a1 w1 hx g1 g2 g3 g4 g5
      | exit i =>
        simp only at hx
        by_cases hi : i = id
        · rw [if_pos hi] at hx
          simp only [AEx.out, Exit.inBlock, if_pos hi]
          exact hQ .nor env1 s1 ρ1 a1 w1 hx g1 g2 g3 g4 g5
        · rw [if_neg hi] at hx
          simp only [AEx.out, Exit.inBlock, if_neg hi]
          exact hQ (.exit i) env1 s1 ρ1 a1 w1 hx g1 g2 g3 g4 g5
      | ret => exact hQ .ret env1 s1 ρ1 a1 w1 hx g1 g2 g3 g4 g5
    · simp only [awpI] at h
      exact awpI_base hS hm _ Qa env s ρ a w Q h hE hR hf hd hQ
  | loop c ih =>
    intro Qa env s ρ a w Q h hE hR hf hd hsz hQ
    simp only [ccodeI] at h
    split at h
    · simp only [awpI] at h
      obtain ⟨m, h⟩ := h
      refine wpIn_loop_rounds m ?_
      induction m generalizing env s ρ a w with
      | zero => exact h.elim
      | succ m ihn =>
        simp only [arounds] at h
        simp only [Code.roundsIn]
        refine ih _ env s ρ a w _ h hE hR hf hd hsz fun x env1 s1 ρ1 a1 w1 hx g1 g2 g3 g4 g5 => ?_
        cases x with
        | nor => exact ihn env1 s1 ρ1 a1 w1 g4 g2 g3 g5 (Nat.le_trans hsz g1.size) (fun y env2 s2 ρ2 a2 w2 hy k1 k2 k3 k4 k5 => hQ y env2 s2 ρ2 a2 w2 hy (g1.trans k1) k2 k3 k4 k5) hx
        | exit id => exact hQ (.exit id) env1 s1 ρ1 a1 w1 hx g1 g2 g3 g4 g5
        | ret => exact hQ .ret env1 s1 ρ1 a1 w1 hx g1 g2 g3 g4 g5
    · simp only [awpI] at h
      exact awpI_base hS hm _ Qa env s ρ a w Q h hE hR hf hd hQ
  | rangeFunc g ps asg body _ _ =>
    intro Qa env s ρ a w Q h hE hR hf hd hsz hQ
    simp only [ccodeI] at h
    split at h
    · rename_i hc
      simp only [Bool.and_eq_true] at hc
      exact rf_in hS hm hc.1.1 hc.1.2 hc.2 Qa env s ρ a w Q h hE hR hf hd hsz hQ
    · simp only [awpI, awp] at h
  | _ =>
    intro Qa env s ρ a w Q h hE hR hf hd hsz hQ
    simp only [ccodeI, awpI] at h
    exact awpI_base hS hm _ Qa env s ρ a w Q h hE hR hf hd hQ

/-- The way out: the marks are taken, the results read. -/
theorem leaves_in {fn : Func} {tmps : Array Value} {Rp : Ending → World → Prop} {w0 : World} {s s' : St} {ρ' : Ren} (hfin : ∀ w, Step s s' ρ ρ' w0 w → R s' ρ' w → ∃ v, (results fn tmps).run P w = .ok v w ∧ Rp (.returned v) w) : ∀ (Ds : List Nat) (w : World), Ds.Nodup → (∀ D ∈ Ds, w0.heap.size ≤ D ∧ w.heap[D]? = some (.deferred (some []))) → Step s s' ρ ρ' w0 w → R s' ρ' w →
    LeavesInM (fenceAt none) n P fn tmps Rp (Ds.map markD) .returning w
  | [], w, _, _, hst, hr => hfin w hst hr
  | D :: Ds, w, hnd, hD, hst, hr => by
    obtain ⟨h1, h2⟩ := List.nodup_cons.1 hnd
    obtain ⟨h3, h4⟩ := hD D List.mem_cons_self
    refine ⟨by simp, .inl ⟨D, _, rfl, run_takeDeferred h4, leaves_in hfin Ds _ h2 (fun E hE => ⟨(hD E (List.mem_cons_of_mem _ hE)).1, ?_⟩) (hst.putNew h3 _) (hr.sys h4 rfl _)⟩⟩
    have hne : E ≠ D := fun e => h1 (by rw [← e]; exact hE)
    rw [World.putObj_heap_other hne]
    exact (hD E (List.mem_cons_of_mem _ hE)).2

/-- A contract out of the code. -/
theorem con_soundI {call : Nat → List AV → St → Option (AV × St)} (hS : Sound P call) (hm : P.follows .mixedOrders = true) {its : List Nat} {g : Nat} {fn : Func} {afn : AFnI} (hf : P.funcs[g]? = some fn) (hcal : callable P g = true) (hc : cfnI P its fn = some afn)
    {c : List AV → St → Option (AV × St)}
    (h : ∀ args s r s', c args s = some (r, s') → (Grow s s' ∧ Keeps s s') ∧ awpI call afn.body (fun x env t => (∀ i, x ≠ .exit i) ∧ ∃ f, aresults env t afn.results = some (r.ren f) ∧ Emb f s s' t) (args ++ List.replicate (afn.ntmps - args.length) .und) s) :
    SoundAt P g c := by
  intro args s r s' hcall
  obtain ⟨hg, ha⟩ := h args s r s' hcall
  unfold cfnI at hc
  split at hc
  · rename_i cd rs hb hr
    injection hc with hc; subst hc
    refine ⟨hcal, hg, fun ρ w cargs hfree hR hargs => ?_⟩
    refine (callsIn_wide (n := 0)).1 (callsIn_of_wp_marks hf hb trivial ?_)
    refine awpI_in (w0 := w) hS hm cd _ _ s ρ { tmps := _, defers := [] } w _ ha (env_start hargs fn.ntmps) hR hfree ⟨[], rfl, List.nodup_nil, fun D hD => by simp at hD⟩ (Nat.le_refl _) fun x env t ρ' a' w' hq g1 g2 g3 g4 g5 => ?_
    obtain ⟨hx, f, hres, he⟩ := hq
    obtain ⟨Ds, d1, d2, d3⟩ := g5
    have hout : LeavesInM (fenceAt none) 0 P fn a'.tmps (fun e w' => ∃ ρ' v, e = .returned v ∧ VR ρ' r v ∧ Step s s' ρ ρ' w w' ∧ R s' ρ' w') a'.defers .returning w' := by
      rw [d1]
      refine leaves_in (fun w2 k1 k2 => ?_) Ds w' d2 d3 g1 g2
      obtain ⟨cv, h1, h2⟩ := results_run g4 k2 hr hres
      obtain ⟨q1, q2⟩ := he.sound hR hfree k1 k2
      exact ⟨cv, h2, _, cv, rfl, VR.ren r cv h1, q1, q2⟩
    cases x with
    | nor => exact hout
    | ret => exact hout
    | exit i => exact absurd rfl (hx i)
  · cases hc
end Go.AM
end
/-
  Ranges over functions: rules for stepping. Own work of this project.
-/
section
namespace Go.AM
open Go

variable {call : Nat → List AV → St → Option (AV × St)} {env : Env} {s t : St}

/-! ### Less is asked -/
theorem aroundsY_mono {body : YP → (YP → AEx → Env → St → Prop) → Env → St → Prop} (hb : ∀ (p : YP) (Q Q' : YP → AEx → Env → St → Prop), (∀ p x e t, Q p x e t → Q' p x e t) → ∀ e t, body p Q e t → body p Q' e t) {Q Q' : YP → AEx → Env → St → Prop} (h : ∀ p x e t, Q p x e t → Q' p x e t) : ∀ (n : Nat) {p : YP} {e : Env} {t : St}, aroundsY body Q n p e t → aroundsY body Q' n p e t
  | 0, _, _, _, k => k.elim
  | n + 1, p, e, t, k => hb _ _ _ (fun p x e t q => by
      cases x with
      | nor => exact aroundsY_mono hb h n q
      | _ => exact h _ _ e t q) _ _ k
theorem awpY_mono {yv : AV} {Yd : List AV → (YP → AV → St → Prop) → St → Prop} (hy : ∀ args K K' t, (∀ p v t, K p v t → K' p v t) → Yd args K t → Yd args K' t) : ∀ (c : AY) {p : YP} {Q Q' : YP → AEx → Env → St → Prop}, (∀ p x e t, Q p x e t → Q' p x e t) → ∀ {e : Env} {t : St}, awpY call yv Yd c p Q e t → awpY call yv Yd c p Q' e t
  | .base c, p, Q, Q', h, e, t, k => awp_mono c (h p) k
  | .seq a b, p, Q, Q', h, e, t, k => awpY_mono hy a (fun p x e t q => by
      cases x with
      | nor => exact awpY_mono hy b h q
      | _ => exact h _ _ e t q) k
  | .cond c a b, p, Q, Q', h, e, t, k => by
    simp only [awpY] at k ⊢
    split at k
    · exact awpY_mono hy a h k
    · exact awpY_mono hy b h k
    · exact k.elim
  | .block i c, p, Q, Q', h, e, t, k => awpY_mono hy c (fun p x e t q => by
      cases x with
      | exit j =>
        simp only at q ⊢
        split at q
        · rename_i hj; rw [if_pos hj]; exact h _ _ e t q
        · rename_i hj; rw [if_neg hj]; exact h _ _ e t q
      | _ => exact h _ _ e t q) k
  | .loop c, p, Q, Q', h, e, t, k => by
    simp only [awpY] at k ⊢
    obtain ⟨n, k⟩ := k
    exact ⟨n, aroundsY_mono (body := awpY call yv Yd c) (fun p Q Q' h e t k => awpY_mono hy c h k) h n k⟩
  | .yld pre d x args post, p, Q, Q', h, e, t, k => by
    simp only [awpY] at k ⊢
    exact awops_mono (fun e t q => ⟨q.1, q.2.1, hy _ _ _ _ (fun p v t q => awops_mono (fun e t q => h _ _ e t q) post _ _ q) q.2.2⟩) pre _ _ k
theorem roundY_mono {ps : List Nat} {asg body : AC} {env : Env} (args : List AV) (K K' : YP → AV → St → Prop) (t : St) (h : ∀ p v t, K p v t → K' p v t) (k : roundY call ps asg body env args K t) : roundY call ps asg body env args K' t :=
  ⟨k.1, awp_mono asg (fun x e t q => ⟨q.1, awp_mono body (fun x e t q => by
    cases x with
    | nor => exact h _ _ t q
    | _ => exact h _ _ t q) q.2⟩) k.2⟩
theorem awpI_mono : ∀ (c : AI) {Q Q' : AEx → Env → St → Prop}, (∀ x e t, Q x e t → Q' x e t) → ∀ {e : Env} {t : St}, awpI call c Q e t → awpI call c Q' e t
  | .base c, Q, Q', h, e, t, k => awp_mono c h k
  | .seq a b, Q, Q', h, e, t, k => awpI_mono a (fun x e t q => by
      cases x with
      | nor => exact awpI_mono b h q
      | _ => exact h _ e t q) k
  | .cond c a b, Q, Q', h, e, t, k => by
    simp only [awpI] at k ⊢
    split at k
    · exact awpI_mono a h k
    · exact awpI_mono b h k
    · exact k.elim
  | .block i c, Q, Q', h, e, t, k => awpI_mono c (fun x e t q => by
      cases x with
      | exit j =>
        simp only at q ⊢
        split at q
        · rename_i hj; rw [if_pos hj]; exact h _ e t q
        · rename_i hj; rw [if_neg hj]; exact h _ e t q
      | _ => exact h _ e t q) k
  | .loop c, Q, Q', h, e, t, k => by
    simp only [awpI] at k ⊢
    obtain ⟨n, k⟩ := k
    exact ⟨n, arounds_mono (b := awpI call c) (fun h _ _ k => awpI_mono c h k) h n n (Nat.le_refl n) k⟩
  | .rf g ps asg body its, Q, Q', h, e, t, k => by
    simp only [awpI] at k ⊢
    split at k
    · split at k
      · intro l
        refine awpY_mono roundY_mono _ (fun p x _ t q => ⟨q.1, ?_⟩) (k l)
        have q := q.2
        cases p with
        | none => exact h _ _ t q
        | some x => exact h _ _ t q
      · exact k.elim
    · exact k.elim

/-! ### Rules -/
section
variable {Q : AEx → Env → St → Prop}
theorem wi_base (c : AC) : awpI call (.base c) Q env s = awp call c Q env s := nrfl rfl
theorem wi_seq (a b : AI) : awpI call (.seq a b) Q env s = awpI call a (fun x e t => match x with
    | .nor => awpI call b Q e t
    | x => Q x e t) env s := nrfl rfl
theorem wi_block (i : Nat) (c : AI) : awpI call (.block i c) Q env s = awpI call c (fun x e t => match x with
    | .exit j => if j = i then Q .nor e t else Q (.exit j) e t
    | x => Q x e t) env s := nrfl rfl
theorem wi_cond (c : AO) (a b : AI) : awpI call (.cond c a b) Q env s = cstep (aev env c) (awpI call a Q env s) (awpI call b Q env s) := by
  simp only [awpI, cstep] <;> (generalize aev env c = v; cases v <;> first | rfl | (rename_i b; cases b <;> rfl))
def lwpI (call : Nat → List AV → St → Option (AV × St)) (c : AI) (env : Env) (s : St) [h : HQ] : Prop := awpI call (.loop c) h.q env s
theorem wi_loop (c : AI) : awpI call (.loop c) Q env s = @lwpI call c env s ⟨Q⟩ := nrfl rfl
def rfwp (call : Nat → List AV → St → Option (AV × St)) (g : AO) (ps : List Nat) (asg body : AC) (its : List (Nat × Nat × AY)) (env : Env) (s : St) [h : HQ] : Prop := awpI call (.rf g ps asg body its) h.q env s
theorem wi_rf (g : AO) (ps : List Nat) (asg body : AC) (its : List (Nat × Nat × AY)) : awpI call (.rf g ps asg body its) Q env s = @rfwp call g ps asg body its env s ⟨Q⟩ := nrfl rfl
theorem rf_start {g : AO} {ps : List Nat} {asg body : AC} {its : List (Nat × Nat × AY)} {f n : Nat} {caps : List AV} {y : AY} (hg : aev env g = .fn f caps) (hf : findI f its = some (n, y))
    (h : ∀ l, awpY call (.yd l) (roundY call ps asg body env) y none (fun p x _ t => (∀ i, x ≠ .exit i) ∧ match p with
          | none => Q .nor env t
          | some x => Q x env t) ((.yd l :: caps) ++ List.replicate (n - (AV.yd l :: caps).length) .und) s) : @rfwp call g ps asg body its env s ⟨Q⟩ := by
  show awpI call (.rf g ps asg body its) Q env s
  simp only [awpI]
  rw [hg]
  simp only
  rw [hf]
  exact h
end

section
variable {yv : AV} {Yd : List AV → (YP → AV → St → Prop) → St → Prop} {p : YP} {Q : YP → AEx → Env → St → Prop}
theorem wy_base (c : AC) : awpY call yv Yd (.base c) p Q env s = awp call c (Q p) env s := nrfl rfl
theorem wy_seq (a b : AY) : awpY call yv Yd (.seq a b) p Q env s = awpY call yv Yd a p (fun p x e t => match x with
    | .nor => awpY call yv Yd b p Q e t
    | x => Q p x e t) env s := nrfl rfl
theorem wy_block (i : Nat) (c : AY) : awpY call yv Yd (.block i c) p Q env s = awpY call yv Yd c p (fun p x e t => match x with
    | .exit j => if j = i then Q p .nor e t else Q p (.exit j) e t
    | x => Q p x e t) env s := nrfl rfl
theorem wy_cond (c : AO) (a b : AY) : awpY call yv Yd (.cond c a b) p Q env s = cstep (aev env c) (awpY call yv Yd a p Q env s) (awpY call yv Yd b p Q env s) := by
  simp only [awpY, cstep] <;> (generalize aev env c = v; cases v <;> first | rfl | (rename_i b; cases b <;> rfl))
class HY where
  q : YP → AEx → Env → St → Prop
def lwpY (call : Nat → List AV → St → Option (AV × St)) (yv : AV) (Yd : List AV → (YP → AV → St → Prop) → St → Prop) (c : AY) (p : YP) (env : Env) (s : St) [h : HY] : Prop := awpY call yv Yd (.loop c) p h.q env s
theorem wy_loop (c : AY) : awpY call yv Yd (.loop c) p Q env s = @lwpY call yv Yd c p env s ⟨Q⟩ := nrfl rfl
class HK2 where
  k : YP → AV → St → Prop
def ystep (Yd : List AV → (YP → AV → St → Prop) → St → Prop) (args : List AV) (t : St) [h : HK2] : Prop := Yd args h.k t
theorem wy_yld (pre : List AOper) (d : Option Nat) (x : AO) (args : List AO) (post : List AOper) : awpY call yv Yd (.yld pre d x args post) p Q env s = awops call s.next pre (fun e t => aev e x = yv ∧ p = none ∧ @ystep Yd (args.map (aev e)) t ⟨fun p' v t' => awops call t'.next post (Q p' .nor) (putE e d v) t'⟩) env s := nrfl rfl
theorem lwpY_inv (hy : ∀ args K K' t, (∀ p v t, K p v t → K' p v t) → Yd args K t → Yd args K' t) {c : AY} (I : Nat → Env → St → Prop) {n : Nat} (h : I n env s)
    (step : ∀ n e t, I n e t → awpY call yv Yd c none (fun p x e' t' => match x with
      | .nor => p = none ∧ ∃ m, m < n ∧ I m e' t'
      | x => Q p x e' t') e t) : @lwpY call yv Yd c none env s ⟨Q⟩ := by
  refine ⟨n + 1, ?_⟩
  induction n using Nat.strongRecOn generalizing env s with
  | _ n ih =>
    have up : ∀ (k m : Nat) {p : YP} {e : Env} {t : St}, m ≤ k → aroundsY (awpY call yv Yd c) Q m p e t → aroundsY (awpY call yv Yd c) Q k p e t := by
      intro k
      induction k with
      | zero => intro m p e t hm q; obtain rfl : m = 0 := by omega
                exact q
      | succ k ihk =>
        intro m p e t hm q
        cases m with
        | zero => exact q.elim
        | succ m =>
          exact awpY_mono hy c (fun p x e t q => by
            cases x with
            | nor => exact ihk m (by omega) q
            | _ => exact q) q
    exact awpY_mono hy c (fun p x e t q => by
      cases x with
      | nor =>
        obtain ⟨rfl, m, hm, q⟩ := q
        exact up n (m + 1) hm (ih m hm q)
      | _ => exact q) (step n env s h)
end
end Go.AM
end
/-
  Contracts of functions that range over functions. Own work of this project.
-/
section
namespace Go.AM
open Go

variable {β : Type}
theorem con_freshI {P : Program} {call : Nat → List AV → St → Option (AV × St)} (hS : Sound P call) (hm : P.follows .mixedOrders = true) {its : List Nat} {g : Nat} {fn : Func} {afn : AFnI} (hf : P.funcs[g]? = some fn) (hcal : callable P g = true) (hc : cfnI P its fn = some afn)
    {D : Cod β} {p : List AV → St → Option (List β × Option AV)} (h : ∀ args s l e, p args s = some (l, e) → (∀ x, e = some x → x.plain = true) ∧ args.length ≤ afn.ntmps ∧ ∀ env : Env, elen env = afn.ntmps → (∀ i v, args[i]? = some v → E env i = v) →
      awpI call afn.body (fun x env t => (∀ i, x ≠ .exit i) ∧ Keep s t ∧ ∃ v, aresults env t afn.results = some (mkR e v) ∧ Own D s t v l) env s) : SoundAt P g (conF D p) := by
  refine con_soundI hS hm hf hcal hc fun args s r s' hh => ?_
  obtain ⟨l, e, hp, rfl, rfl⟩ := conF_some hh
  obtain ⟨he, hl, k⟩ := h args s l e hp
  refine ⟨gk_fresh D s l, start_env hl fun env h1 h2 => awpI_mono _ (fun x env' t q => ?_) (k env h1 h2)⟩
  obtain ⟨q1, q2, v, q3, q4⟩ := q
  obtain ⟨f, _, hf, hv⟩ := emb_fresh q2 q4
  exact ⟨q1, f, by rw [q3, mkR_ren he, hv], hf⟩
end Go.AM
end
/-
  Cutting a walk in parts: behind the first part an own statement about registers and memory. Own work of this project.
-/
section
set_option maxRecDepth 100000
namespace Go.AM
open Go

theorem awp_cutM {call : Nat → List AV → St → Option (AV × St)} {A B : AC} {Q : AEx → Env → St → Prop} {env : Env} {s : St} (M : Env → St → Prop) (h1 : awp call A (fun x e t => x = .nor ∧ M e t) env s) (h2 : ∀ e t, M e t → awp call B Q e t) : awp call (.seq A B) Q env s := by
  rw [wp_seq]
  refine awp_mono _ (fun x e t h => ?_) h1
  obtain ⟨rfl, hm⟩ := h
  exact h2 e t hm
end Go.AM
end
/-
  Rules for ranges over functions and for new lists; lists of integers. Own work of this project.
-/
section
set_option maxRecDepth 100000
set_option maxHeartbeats 8000000
namespace Go.AM
open Go Go.Proofs

variable {s t u : St}
theorem getsome {α : Type} {l : List α} {i : Nat} (h : i < l.length) : ∃ x, l[i]? = some x := ⟨_, List.getElem?_eq_getElem h⟩
theorem getlt {α : Type} {l : List α} {i : Nat} {x : α} (h : l[i]? = some x) : i < l.length := (List.getElem?_eq_some_iff.1 h).1
theorem rf_gen {call : Nat → List AV → St → Option (AV × St)} {g : AO} {ps : List Nat} {asg body : AC} {its : List (Nat × Nat × AY)} {env : Env} {Q : AEx → Env → St → Prop} (P : Env → Prop) (h : P env) (k : ∀ e, P e → @rfwp call g ps asg body its e s ⟨Q⟩) : @rfwp call g ps asg body its env s ⟨Q⟩ := k env h
theorem ystep_round {call : Nat → List AV → St → Option (AV × St)} {ps : List Nat} {asg body : AC} {env : Env} {args : List AV} {K : YP → AV → St → Prop} (h1 : args.length = ps.length) (h2 : awp call asg (fun x e t1 => x = .nor ∧ awp call body (fun x _ t2 => match x with
    | .nor => K none (.bool true) t2
    | x => K (some x) (.bool false) t2) e t1) (setPs env ps args) t) : @ystep (roundY call ps asg body env) args t ⟨K⟩ := ⟨h1, h2⟩
theorem putE_pE (env : Env) (d : Option Nat) (v : AV) : putE env d v = pE env d v := by unfold pE; rfl
theorem ap_mkfn {env : Env} (f : Nat) (caps : List AO) : apure env (.mkfn f caps) = some (.fn f (caps.map (aev env))) := nrfl rfl
theorem ap_conv {env : Env} (k : IntKind) (x : AO) : apure env (.conv k x) = (match aev env x with
    | .int _ n => some (.int k (k.wrap n))
    | _ => none) := nrfl rfl
theorem row1_lod {id : Nat} {v : AV} {own : Bool} (h : t.get id = some (.row [v] own)) : lod1 t (.ptr id 0) = some v ∧ ltN id t := ⟨by simp [lod1, h], St.get_lt h⟩
theorem row1_sto {id : Nat} {v x : AV} (h : t.get id = some (.row [v] true)) (hx : x.cells = [x] ∧ x.one = true) : sto t 1 (.ptr id 0) x = some (.und, t.put id (.row [x] true)) := by
  simp [sto, h, hx.1, hx.2, setAt]
theorem wrapI {x : Int} (h1 : -4611686018427387904 ≤ x) (h2 : x < 4611686018427387904) : IntKind.i64.wrap x = x := by
  simp only [IntKind.wrap, IntKind.signed, IntKind.bits]
  simp
  omega
theorem keep_low (s : St) : Keep s (lowd s) := ⟨Nat.le_refl _, fun _ _ => rfl, Nat.min_le_right _ _⟩
/-- Integers of 64 bits. -/
def inC : Cod Int where
  sz := 1
  enc := fun b => [.int .i64 b]
  dec := fun cs => match cs with
    | [.int .i64 n] => some n
    | _ => none
  pos := by decide
  len := fun _ => rfl
  plain := fun _ => rfl
  dec_enc := fun b => rfl
  enc_dec := fun cs x h => by
    split at h
    · injection h with h
      subst h
      rfl
    · cases h
theorem inC_sz : inC.sz = 1 := rfl
theorem inC_map : ∀ l : List Int, inC.cells l = l.map fun b => .int .i64 b
  | [] => rfl
  | b :: l => by rw [cells_cons, inC_map l]; rfl
theorem in_lods {v : AV} {l : List Int} (h : AM.read inC s v = some l) {i : Nat} {b : Int} (hi : l[i]? = some b) : iadV 1 v (.int .i64 (i : Int)) = some (.ptr (bid v) (boff v + i)) ∧ lod1 s (.ptr (bid v) (boff v + i)) = some (.int .i64 b) ∧ ltN (bid v) s := by
  have h1 := read_idx h hi .i64
  rw [inC_sz, Nat.mul_one] at h1
  have hl := read_lt h (Keep.refl s) hi
  refine ⟨h1, ?_, hl⟩
  cases v with
  | nils => simp [AM.read] at h; subst h; simp at hi
  | sl id off n cap z =>
    obtain ⟨rfl, rfl, cs, own, hg, _, _, h5⟩ := read_sl h
    obtain ⟨k1, k2⟩ := h5 i b hi 0 1 (Nat.le_refl 1)
    rw [inC_sz, Nat.mul_one, Nat.add_zero] at k1 k2
    show lod1 s (.ptr id (off + i)) = _
    simp only [lod1, hg]
    have e := congrArg (fun l => l[0]?) k2
    simpa [show inC.enc b = [AV.int .i64 b] from rfl] using e
  | _ => simp [AM.read] at h
/-! ### Sorted lists of integers -/
def insI (x : Int) : List Int → List Int
  | [] => [x]
  | y :: r => if x ≤ y then x :: y :: r else y :: insI x r
def sortI : List Int → List Int
  | [] => []
  | x :: r => insI x (sortI r)
theorem insI_perm (x : Int) : ∀ l, (insI x l).Perm (x :: l)
  | [] => .refl _
  | y :: r => by
    unfold insI
    split
    · exact .refl _
    · exact ((insI_perm x r).cons y).trans (.swap x y r)
theorem sortI_perm : ∀ l, (sortI l).Perm l
  | [] => .refl _
  | x :: r => (insI_perm x _).trans ((sortI_perm r).cons x)
theorem sortI_len (l : List Int) : (sortI l).length = l.length := (sortI_perm l).length_eq
theorem insI_sorted (x : Int) : ∀ l : List Int, l.Pairwise (· ≤ ·) → (insI x l).Pairwise (· ≤ ·)
  | [], _ => by simp [insI]
  | y :: r, h => by
    unfold insI
    rw [List.pairwise_cons] at h
    split
    · rename_i hxy
      rw [List.pairwise_cons, List.pairwise_cons]
      refine ⟨fun z hz => ?_, h⟩
      rcases List.mem_cons.1 hz with rfl | hz
      · exact hxy
      · exact Int.le_trans hxy (h.1 z hz)
    · rename_i hxy
      rw [List.pairwise_cons]
      refine ⟨fun z hz => ?_, insI_sorted x r h.2⟩
      rcases List.mem_cons.1 ((insI_perm x r).mem_iff.1 hz) with rfl | hz
      · omega
      · exact h.1 z hz
theorem sortI_sorted : ∀ l : List Int, (sortI l).Pairwise (· ≤ ·)
  | [] => .nil
  | x :: r => insI_sorted x _ (sortI_sorted r)
theorem int_sorted_unique : ∀ l m : List Int, l.Perm m → l.Pairwise (· ≤ ·) → m.Pairwise (· ≤ ·) → l = m
  | [], m, h, _, _ => by simpa using h.symm.eq_nil
  | x :: l, [], h, _, _ => by simp at h
  | x :: l, y :: m, h, h1, h2 => by
    rw [List.pairwise_cons] at h1 h2
    have hx : x ∈ y :: m := h.mem_iff.1 (List.mem_cons_self ..)
    have hy : y ∈ x :: l := h.mem_iff.2 (List.mem_cons_self ..)
    have e1 : y ≤ x := by
      rcases List.mem_cons.1 hx with rfl | q
      · exact Int.le_refl _
      · exact h2.1 x q
    have e2 : x ≤ y := by
      rcases List.mem_cons.1 hy with rfl | q
      · exact Int.le_refl _
      · exact h1.1 y q
    have e : x = y := Int.le_antisymm e2 e1
    subst e
    rw [int_sorted_unique l m h.cons_inv h1.2 h2.2]
end Go.AM
end
/-
  Functions that range over functions, as the abstract machine runs them. Printed by a program of this project.
-/
section
set_option maxRecDepth 100000
namespace Go.AM
open Go Go.Proofs

/- slices.Values[[]int,int]$1 -/
def y40 : AY :=
  .seq (.base (.reg [oO 5 (.load1 (.t 1)),
 oO 6 (.len .sl (.t 5)),
 oO 7 (.mv (.c (.int .i64 0)))]))
 (.block 0 (.loop (.seq (.base (.reg [oO 8 (.bin .lss .no (.t 7) (.t 6))]))
 (.seq (.cond (.t 8) (.base (.skip))
 (.base (.exit 0)))
 (.seq (.block 1 (.seq (.base (.reg [oO 9 (.iad 1 (.t 5) (.t 7)),
 oO 10 (.load1 (.t 9)),
 oO 4 (.mv (.t 10))]))
 (.seq (.yld [oO 11 (.mv (.t 0)),
 oO 12 (.mv (.t 4))] (some 13) (.t 11) [(.t 12)] [oO 14 (.un .not (.t 13))])
 (.cond (.t 14) (.base (.ret))
 (.base (.skip))))))
 (.base (.reg [oO 15 (.bin .add .no (.t 7) (.c (.int .i64 1))),
 oO 7 (.mv (.t 15))])))))))
/- slices.AppendSeq[[]int,int] -/
def ai44 : AFnI := ⟨13, [.t 4],
  .seq (.base (.reg [oO 2 (.box 1 (.t 0)),
 oO 4 (.mv (.c .nils))]))
 (.seq (.seq (.base (.reg [oO 6 (.mv (.t 1))]))
 (.block 0 (.rf (.t 6) [7] (.reg [oO 5 (.mv (.t 7))])
 (.block 1 (.reg [oO 8 (.load1 (.t 2)),
 oO 9 (.mv (.t 5)),
 oO 10 (.bsl [(.int .i64 0)] 1 1 [(0, (.t 9))]),
 oO 11 (.app 1 8 [(.int .i64 0)] (.t 8) (.t 10)),
 ⟨none, .store 1 (.t 2) (.t 11), none, none, false⟩])) [(40, 16, y40)])))
 (.base (.seq (.reg [oO 12 (.load1 (.t 2)),
 oO 4 (.mv (.t 12))])
 (.ret))))⟩
theorem ci44 : cfnI Try.prog [40] Try.f44 = some ai44 := by kernel_rfl
theorem ki44 : callable Try.prog 44 = true := by kernel_rfl

end Go.AM
end
/-
  What a closed run by the kernel shows. Own work of this project.
-/
section
namespace Go.AM
open Go

def isTrue : Option (AV × St) → Bool
  | some (.bool true, _) => true
  | _ => false
theorem isTrue_ex {o : Option (AV × St)} (h : isTrue o = true) : ∃ s, o = some (.bool true, s) := by
  unfold isTrue at h
  split at h
  · exact ⟨_, rfl⟩
  · cases h
end Go.AM
end
/-
  Collecting the integers of a slice, by a range over a function. Own work of this project; in part printed by a program of it.
-/
section
set_option maxRecDepth 100000
set_option maxHeartbeats 8000000
namespace Go.AM
open Go Go.Proofs

variable {s t u : St}

def pCol : List AV → St → Option (List Int × Option AV) := fun xs s => match xs with
  | [.nils, .fn 40 [.ptr p 0]] => match s.get p with
    | some (.row [v] true) => match AM.read inC s v with
      | some l => if l.length ≤ 100000 then some (l, none) else none
      | none => none
    | _ => none
  | _ => none
theorem a_App {s : St} {p : Nat} {v : AV} {l : List Int} (hp : s.get p = some (.row [v] true)) (hr : AM.read inC s v = some l) (hl : l.length ≤ 100000) : ∀ env : Env, elen env = ai44.ntmps → (∀ i x_, [.nils, .fn 40 [.ptr p 0]][i]? = some x_ → E env i = x_) → awpI (tb []) ai44.body (fun x e t => (∀ i, x ≠ .exit i) ∧ Keep s t ∧ ∃ w, aresults e t ai44.results = some (mkR none w) ∧ Own inC s t w l) env s := by
  intro env hlen ha
  have h0 : E env 0 = _ := ha 0 _ rfl
  have h1 : E env 1 = _ := ha 1 _ rfl
  have hlen : elen env = _ := hlen
  simp only [ai44] at hlen
  unfold ai44
  try dsimp only [oO, oG]
  have hbx : boxV 1 .nils = some (fun id => .ptr id 0, .row [.nils] true) := rfl
  have hK1 : Keep s (s.push (.row [.nils] true)) := (Keep.refl s).push _
  simp (config := {contextual := true, maxDischargeDepth := 12}) only [tb_at, h0, h1, hlen, hbx, ↓bD, bU, forall_const, bS, implies_true, isNx, eq_self, ↓wp_cond, ↓wp_loop, ↓reduceIte, reduceCtorEq, Nat.reduceEqDiff, Nat.reduceLT, Nat.reduceAdd, Nat.reduceMul, bT, ↓sg_bsl, ↓st_callf, bX, ap_mkfn, ap_conv, ↓wi_seq, ↓wi_base, ↓wi_block, ↓wi_cond, ↓wi_loop, ↓wi_rf, ↓wy_seq, ↓wy_base, ↓wy_block, ↓wy_cond, ↓wy_loop, ↓wy_yld]
  refine rf_gen (fun e => elen e = 13 ∧ E e 2 = .ptr s.next 0 ∧ E e 6 = .fn 40 [.ptr p 0]) ⟨(by simp only [bE, Nat.reduceEqDiff, bN, Nat.reduceLT, hlen]; try rfl), (by simp only [bE, Nat.reduceEqDiff, bN, Nat.reduceLT, hlen]; try rfl), (by simp only [bE, Nat.reduceEqDiff, bN, Nat.reduceLT, hlen]; try rfl)⟩ ?_
  clear h0 h1 ha
  rintro e0 ⟨he0, x2, x6⟩
  refine rf_start (f := 40) (n := 16) (caps := [.ptr p 0]) (y := y40) (by rw [aev_t]; exact x6) rfl fun yl => ?_
  refine start_env (args := [.yd yl, .ptr p 0]) (n := 16) (p := fun env1 => awpY _ _ _ y40 none _ env1 (s.push (.row [.nils] true))) (by simp) fun env1 hl1 ha1 => ?_
  have a0 : E env1 0 = _ := ha1 0 _ rfl
  have a1 : E env1 1 = _ := ha1 1 _ rfl
  unfold y40
  try dsimp only [oO, oG]
  obtain ⟨g1_, g2_⟩ := row1_lod (hK1.blk hp)
  have hLv := lenV_read hr
  simp (config := {contextual := true, maxDischargeDepth := 12}) only [tb_at, a0, a1, hl1, g1_, g2_, hLv, ↓bD, bU, forall_const, bS, implies_true, isNx, eq_self, ↓wp_cond, ↓wp_loop, ↓reduceIte, reduceCtorEq, Nat.reduceEqDiff, Nat.reduceLT, Nat.reduceAdd, Nat.reduceMul, bT, ↓sg_bsl, ↓st_callf, bX, ap_mkfn, ap_conv, ↓wi_seq, ↓wi_base, ↓wi_block, ↓wi_cond, ↓wi_loop, ↓wi_rf, ↓wy_seq, ↓wy_base, ↓wy_block, ↓wy_cond, ↓wy_loop, ↓wy_yld]
  obtain ⟨I, hI⟩ : ∃ I : Nat → Env → St → Prop, ∀ n e t, I n e t = (∃ i lv, n + i = l.length ∧ elen e = 16 ∧ E e 0 = .yd yl ∧ E e 1 = .ptr p 0 ∧ E e 5 = v ∧ E e 6 = .int .i64 (l.length : Int) ∧ E e 7 = .int .i64 (i : Int) ∧ Keep s t ∧ t.get s.next = some (.row [lv] true) ∧ Own inC s t lv (l.take i)) := ⟨_, fun _ _ _ => rfl⟩
  refine lwpY_inv roundY_mono I (n := l.length) ?_ ?_
  · rw [hI]
    exact ⟨0, .nils, by omega, (by simp only [bE, Nat.reduceEqDiff, bN, Nat.reduceLT, hl1, a0, a1]; try rfl), (by simp only [bE, Nat.reduceEqDiff, bN, Nat.reduceLT, hl1, a0, a1]; try rfl), (by simp only [bE, Nat.reduceEqDiff, bN, Nat.reduceLT, hl1, a0, a1]; try rfl), (by simp only [bE, Nat.reduceEqDiff, bN, Nat.reduceLT, hl1, a0, a1]; try rfl), (by simp only [bE, Nat.reduceEqDiff, bN, Nat.reduceLT, hl1, a0, a1]; try rfl), (by simp only [bE, Nat.reduceEqDiff, bN, Nat.reduceLT, hl1, a0, a1]; try rfl), hK1, St.get_push_new s _, .nil _ _ _⟩
  clear a0 a1 hl1 ha1
  intro n e t hi
  rw [hI] at hi
  obtain ⟨i, lv, hni, he, e0_, e1_, e5_, e6_, e7_, hKt, glb, hO⟩ := hi
  obtain ⟨f1_, f2_⟩ := row1_lod glb
  by_cases hlt : i < l.length
  rotate_left
  · have hz2 := eq_false (show ¬ (i : Int) < (l.length : Int) by omega)
    have hi : i = l.length := by omega
    rw [hi, List.take_length] at hO
    simp (config := {contextual := true, maxDischargeDepth := 12}) only [tb_at, he, e0_, e1_, e5_, e6_, e7_, hz2, he0, x2, f1_, f2_, ↓bD, bU, forall_const, bS, implies_true, isNx, eq_self, ↓wp_cond, ↓wp_loop, ↓reduceIte, reduceCtorEq, Nat.reduceEqDiff, Nat.reduceLT, Nat.reduceAdd, Nat.reduceMul, bT, ↓sg_bsl, ↓st_callf, bX, ap_mkfn, ap_conv, ↓wi_seq, ↓wi_base, ↓wi_block, ↓wi_cond, ↓wi_loop, ↓wi_rf, ↓wy_seq, ↓wy_base, ↓wy_block, ↓wy_cond, ↓wy_loop, ↓wy_yld]
    first | exact ⟨hKt, _, rfl, hO⟩ | exact ⟨hKt, hO⟩ | exact ⟨_, rfl, hO⟩
  have hz2 := eq_true (show (i : Int) < (l.length : Int) by omega)
  have hw2 := wrap_add1 (n := i) (by omega)
  obtain ⟨b, hb⟩ := getsome hlt
  obtain ⟨i1, i2, i3⟩ := in_lods (hKt.read hr) hb
  simp (config := {contextual := true, maxDischargeDepth := 12}) only [tb_at, he, e0_, e1_, e5_, e6_, e7_, hz2, i1, i2, i3, ↓bD, bU, forall_const, bS, implies_true, isNx, eq_self, ↓wp_cond, ↓wp_loop, ↓reduceIte, reduceCtorEq, Nat.reduceEqDiff, Nat.reduceLT, Nat.reduceAdd, Nat.reduceMul, bT, ↓sg_bsl, ↓st_callf, bX, ap_mkfn, ap_conv, ↓wi_seq, ↓wi_base, ↓wi_block, ↓wi_cond, ↓wi_loop, ↓wi_rf, ↓wy_seq, ↓wy_base, ↓wy_block, ↓wy_cond, ↓wy_loop, ↓wy_yld]
  refine ystep_round rfl ?_
  have hset : ∀ v, setPs e0 [7] [v] = pE e0 (some 7) v := fun v => by unfold pE; rfl
  simp only [hset]
  obtain ⟨lv', t', hap, hK', hO'⟩ := appV_one (C := inC) hKt hO b 8 (by rw [List.length_take]; unfold roomBytes; omega)
  have hap : appV (t.push (.row [.int .i64 b] true)) 1 8 lv (.sl t.next 0 1 (some 1) 1) = some (lv', t') := hap
  have hbs : bslV [.int .i64 0] 1 1 [(0, .int .i64 b)] = some (fun id => .sl id 0 1 (some 1) 1, .row [.int .i64 b] true) := rfl
  have glb' : t'.get s.next = some (.row [lv] true) := appV_frame hap (fun o n c z e => by
    rcases hO with ⟨q, _⟩ | ⟨j, q, h0, h1, h2⟩
    · rw [q] at e; cases e
    · rw [q] at e
      injection e with e
      subst e
      rw [glb] at h2
      injection h2 with h2
      injection h2 with h2 _
      rw [inC_map] at h2
      cases hq : l.take i with
      | nil => exact h0 hq
      | cons c r =>
        rw [hq] at h2
        injection h2 with h2 _
        rw [q] at h2
        cases h2) (get_push_some _ glb)
  have hone : lv'.cells = [lv'] ∧ lv'.one = true := by rcases hO' with ⟨q, _⟩ | ⟨j, q, _⟩ <;> rw [q] <;> exact ⟨rfl, rfl⟩
  have hst := row1_sto glb' hone
  have hltb := St.get_lt glb'
  have hti : l.take i ++ [b] = l.take (i + 1) := by rw [List.take_add_one, hb]; rfl
  rw [hti] at hO'
  have hO2 : Own inC s (t'.put s.next (.row [lv'] true)) lv' (l.take (i + 1)) := by
    rcases hO' with q | ⟨j, q, h0, h1, h2⟩
    · exact .inl q
    · refine .inr ⟨j, q, h0, h1, ?_⟩
      rw [St.get_put_ne _ _ hltb]
      · exact h2
      · rintro rfl
        rw [glb'] at h2
        injection h2 with h2
        injection h2 with h2 _
        rw [inC_map] at h2
        cases hq : l.take (i + 1) with
        | nil => exact h0 hq
        | cons c r =>
          rw [hq] at h2
          injection h2 with h2 _
          rcases hO with ⟨e, _⟩ | ⟨j, e, _⟩ <;> rw [e] at h2 <;> cases h2
  have hKn : Keep s (t'.put s.next (.row [lv'] true)) := hK'.put _ (Nat.le_refl _) hltb
  simp (config := {contextual := true, maxDischargeDepth := 12}) only [tb_at, he0, x2, x6, he, e0_, e1_, e5_, e6_, e7_, f1_, f2_, aa_bsl1, hbs, hap, hst, hltb, hw2, putE_pE, notV_bool, Bool.not_true, reserve0, ↓bD, bU, forall_const, bS, implies_true, isNx, eq_self, ↓wp_cond, ↓wp_loop, ↓reduceIte, reduceCtorEq, Nat.reduceEqDiff, Nat.reduceLT, Nat.reduceAdd, Nat.reduceMul, bT, ↓sg_bsl, ↓st_callf, bX, ap_mkfn, ap_conv, ↓wi_seq, ↓wi_base, ↓wi_block, ↓wi_cond, ↓wi_loop, ↓wi_rf, ↓wy_seq, ↓wy_base, ↓wy_block, ↓wy_cond, ↓wy_loop, ↓wy_yld]
  refine ⟨n - 1, by omega, ?_⟩
  rw [hI]
  exact ⟨i + 1, lv', by omega, (by simp only [bE, Nat.reduceEqDiff, bN, Nat.reduceLT, he, e0_, e1_, e5_, e6_, e7_]; try rfl), (by simp only [bE, Nat.reduceEqDiff, bN, Nat.reduceLT, he, e0_, e1_, e5_, e6_, e7_]; try rfl), (by simp only [bE, Nat.reduceEqDiff, bN, Nat.reduceLT, he, e0_, e1_, e5_, e6_, e7_]; try rfl), (by simp only [bE, Nat.reduceEqDiff, bN, Nat.reduceLT, he, e0_, e1_, e5_, e6_, e7_]; try rfl), (by simp only [bE, Nat.reduceEqDiff, bN, Nat.reduceLT, he, e0_, e1_, e5_, e6_, e7_]; try rfl), (by simp only [bE, Nat.reduceEqDiff, bN, Nat.reduceLT, he, e0_, e1_, e5_, e6_, e7_]; try rfl), hKn, St.get_put_same glb', hO2⟩
theorem s_App : SoundAt Try.prog 44 (conF inC pCol) :=
  con_freshI (tb_sound (l := []) (by simp)) mixed Try.func44 ki44 ci44 fun args s l e h => by
    unfold pCol at h
    split at h
    · split at h
      · rename_i hp
        split at h
        · rename_i hr
          split at h
          · rename_i hl
            injection h with h
            obtain ⟨rfl, rfl⟩ := Prod.mk.inj h
            exact ⟨(fun x hx => by cases hx), by simp [ai44], a_App hp hr hl⟩
          · cases h
        · cases h
      · cases h
    · cases h

end Go.AM
end
/-
  DERIVED: THE SHELF's CONTRACTS AT THIS DUMP, IN PLAIN WORDS (tools/lay-plain.mjs out of 'YtfigjolpmhlnpaaAmShelf.lean', which tools/lay-shelf.mjs wrote): THE SAME DECLARATIONS UNDER THE SAME NAMES: 'import', 'namespace', 'open', 'def', 'theorem' AND NOTHING ELSE: no command of the shelf's: FOR A HAND-IN. Each laying: the table of numbers ('.._ren') and one theorem, a field a fact of the dump's own or the kernel's comparison; each contract: ONE APPLICATION.
-/
section
namespace Go.Proofs
open Go.Shelf
def Try.sortInt_ren : Go.Shelf.Ren := ⟨fun | 5 => 39 | 8 => 46 | 7 => 45 | 19 => 57 | 20 => 58 | 10 => 48 | 11 => 49 | 12 => 50 | 13 => 51 | 14 => 52 | 15 => 53 | 16 => 54 | 17 => 55 | 18 => 56 | 30 => 59 | 31 => 60 | 32 => 61 | 33 => 62 | 34 => 63 | 35 => 47 | 40 => 64 | n => n, fun | 23 => 22 | 25 => 3 | 3 => 3 | 32 => 77 | 22 => 22 | 0 => 0 | 44 => 87 | 46 => 89 | 4 => 4 | 36 => 80 | 35 => 79 | 41 => 70 | 5 => 5 | 9 => 9 | 53 => 90 | 57 => 94 | 63 => 96 | 64 => 97 | n => n, fun | n => n⟩
theorem Try.sortInt : Go.Proofs.SlLaysM.n5 Try.prog Try.sortInt_ren := {
  mixed := by kernel_rfl
  f5 := ⟨Try.f39.name, by decide, Try.func39.trans (congrArg some (by kernel_rfl))⟩
  f7 := ⟨Try.f45.name, by decide, Try.func45.trans (congrArg some (by kernel_rfl))⟩
  f8 := Try.func46.trans (congrArg some (by kernel_rfl))
  f10 := ⟨Try.f48.name, by decide, Try.func48.trans (congrArg some (by kernel_rfl))⟩
  f11 := ⟨Try.f49.name, by decide, Try.func49.trans (congrArg some (by kernel_rfl))⟩
  f12 := ⟨Try.f50.name, by decide, Try.func50.trans (congrArg some (by kernel_rfl))⟩
  f13 := ⟨Try.f51.name, by decide, Try.func51.trans (congrArg some (by kernel_rfl))⟩
  f14 := ⟨Try.f52.name, by decide, Try.func52.trans (congrArg some (by kernel_rfl))⟩
  f15 := ⟨Try.f53.name, by decide, Try.func53.trans (congrArg some (by kernel_rfl))⟩
  f16 := ⟨Try.f54.name, by decide, Try.func54.trans (congrArg some (by kernel_rfl))⟩
  f17 := ⟨Try.f55.name, by decide, Try.func55.trans (congrArg some (by kernel_rfl))⟩
  f18 := ⟨Try.f56.name, by decide, Try.func56.trans (congrArg some (by kernel_rfl))⟩
  f19 := Try.func57.trans (congrArg some (by kernel_rfl))
  f20 := Try.func58.trans (congrArg some (by kernel_rfl))
  f30 := ⟨Try.f59.name, by decide, Try.func59.trans (congrArg some (by kernel_rfl))⟩
  f31 := Try.func60.trans (congrArg some (by kernel_rfl))
  f32 := Try.func61.trans (congrArg some (by kernel_rfl))
  f33 := ⟨Try.f62.name, by decide, Try.func62.trans (congrArg some (by kernel_rfl))⟩
  f34 := ⟨Try.f63.name, by decide, Try.func63.trans (congrArg some (by kernel_rfl))⟩
  f35 := ⟨Try.f47.name, by decide, Try.func47.trans (congrArg some (by kernel_rfl))⟩
  f40 := ⟨Try.f64.name, by decide, Try.func64.trans (congrArg some (by kernel_rfl))⟩
  t0 := Try.underlying0
  a0 := Try.isAgg0
  z0 := Try.sizeOf0
  v0 := Try.zeroValue0
  t3 := Try.underlying3
  a3 := Try.isAgg3
  z3 := Try.sizeOf3
  v3 := Try.zeroValue3
  t4 := Try.underlying4
  a4 := Try.isAgg4
  z4 := Try.sizeOf4
  v4 := Try.zeroValue4
  t5 := Try.underlying5
  a5 := Try.isAgg5
  z5 := Try.sizeOf5
  v5 := Try.zeroValue5
  t9 := Try.underlying9
  a9 := Try.isAgg9
  z9 := Try.sizeOf9
  v9 := Try.zeroValue9
  t22 := Try.underlying22
  a22 := Try.isAgg22
  z22 := Try.sizeOf22
  v22 := Try.zeroValue22
  t23 := Try.underlying22
  a23 := Try.isAgg22
  z23 := Try.sizeOf22
  v23 := Try.zeroValue22
  t25 := Try.underlying3
  a25 := Try.isAgg3
  z25 := Try.sizeOf3
  v25 := Try.zeroValue3
  t32 := Try.underlying77
  a32 := Try.isAgg77
  z32 := Try.sizeOf77
  v32 := Try.zeroValue77
  t35 := Try.underlying79
  a35 := Try.isAgg79
  z35 := Try.sizeOf79
  v35 := Try.zeroValue79
  t36 := Try.underlying80
  a36 := Try.isAgg80
  z36 := Try.sizeOf80
  v36 := Try.zeroValue80
  t41 := Try.underlying70
  a41 := Try.isAgg70
  z41 := Try.sizeOf70
  v41 := Try.zeroValue70
  t44 := Try.underlying87
  a44 := Try.isAgg87
  z44 := Try.sizeOf87
  v44 := Try.zeroValue87
  t46 := Try.underlying89
  a46 := Try.isAgg89
  z46 := Try.sizeOf89
  v46 := Try.zeroValue89
  t53 := Try.underlying90
  a53 := Try.isAgg90
  z53 := Try.sizeOf90
  v53 := Try.zeroValue90
  t57 := Try.underlying94
  a57 := Try.isAgg94
  z57 := Try.sizeOf94
  v57 := Try.zeroValue94
  t63 := Try.underlying96
  a63 := Try.isAgg96
  z63 := Try.sizeOf96
  v63 := Try.zeroValue96
  t64 := Try.underlying97
  a64 := Try.isAgg97
  z64 := Try.sizeOf97
  v64 := Try.zeroValue97 }
end Go.Proofs
end
/-
  slices.Sort at integers, as a contract. Own work of this project.
-/
section
set_option maxHeartbeats 1000000
namespace Go.AM
open Go Go.Proofs
open Go.Sort (Holds)

variable {s t u : St}
theorem mergeI (l : List Int) : (l.mergeSort fun x y => decide (x ≤ y)) = sortI l := by
  refine int_sorted_unique _ _ ((List.mergeSort_perm l _).trans (sortI_perm l).symm) ?_ (sortI_sorted l)
  have := List.pairwise_mergeSort (le := fun x y : Int => decide (x ≤ y)) (fun a b c h1 h2 => by simp only [decide_eq_true_eq] at *; omega) (fun a b => by simp only [Bool.or_eq_true, decide_eq_true_eq]; omega) l
  exact this.imp fun h => by simpa using h
theorem holdsI {ρ : Ren} {L : Loc} {w : World} {l : List Int} (h : BlkOk ρ L w (.row (inC.cells l) true)) : Holds (Value.int .i64) w L.b L.o l.toArray := by
  simp only [BlkOk] at h
  obtain ⟨cs, e, fr, h1, h2, h3, h4, h5, _⟩ := h
  rw [cells_len] at h3
  intro j hj
  have hj : j < l.length := by simpa using hj
  obtain ⟨x, hx⟩ := getsome hj
  obtain ⟨c, hc, hr⟩ := h4 j (.int .i64 x) (by rw [inC_map, List.getElem?_map, hx]; rfl)
  simp only [VR] at hr
  have e1 : (l.toArray)[j]! = x := by simp [hx]
  rw [inC_sz] at h3
  have hfr := h5 trivial (L.o + j) (by omega)
  constructor
  · simp only [World.cell?, h1, id, e1]
    rw [← hr]
    simpa using hc
  · simp only [World.frozen?, h1]
    exact hfr
theorem blk_afterI {ρ : Ren} {L : Loc} {w : World} {l m : List Int} (h : BlkOk ρ L w (.row (inC.cells l) true)) (hm : m.length = l.length) (n : Nat) : BlkOk ρ L (Sort.putRow (Value.int .i64) (Sort.ahead w n) L.b L.o m.toArray) (.row (inC.cells m) true) := by
  simp only [BlkOk] at h ⊢
  obtain ⟨cs, e, fr, h1, h2, h3, h4, h5, _⟩ := h
  rw [cells_len, inC_sz, Nat.mul_one] at h3
  refine ⟨Sort.putCells (Value.int .i64) L.o m.toArray cs, e, fr, ?_, by simp [Sort.putCells, h2], by rw [cells_len, inC_sz, Nat.mul_one, hm]; exact h3, fun i v hv => ?_, h5, cells_one' inC m⟩
  · simp only [Sort.putRow, Sort.mapBlock, Sort.ahead]
    rw [Array.getElem?_modify]
    simp [h1, Sort.onCells]
  · have hi := (List.getElem?_eq_some_iff.1 hv).1
    rw [cells_len, inC_sz, Nat.mul_one] at hi
    obtain ⟨x, hx⟩ := getsome hi
    rw [inC_map, List.getElem?_map, hx] at hv
    simp only [Option.map_some] at hv
    injection hv with hv
    subst hv
    refine ⟨.int .i64 x, ?_, by simp [VR]⟩
    have e1 : (m.toArray)[i]! = x := by simp [hx]
    simp only [Sort.putCells, Array.getElem?_mapIdx]
    have hlt : L.o + i < cs.size := by
      rw [← hm] at h3
      rw [h2]
      omega
    rw [Array.getElem?_eq_getElem hlt]
    simp only [Option.map_some, List.size_toArray]
    rw [if_pos (by omega)]
    simp [e1]
def cSortI : Con := fun xs s => match xs with
  | [.nils] => some (.tup [], s.lowed)
  | [.sl j 0 n none 1] => match s.get j with
      | some (.row cs true) => match decL inC n cs with
        | some l => if cs.length = n ∧ 0 < n ∧ n ≤ 100000 then some (.tup [], s.put j (.row (inC.cells (sortI l)) true)) else none
        | none => none
      | _ => none
  | _ => none
theorem s_sortI : SoundAt Try.prog 39 cSortI := by
  intro xs s r s' h
  have hk : callable Try.prog 39 = true := k39
  unfold cSortI at h
  split at h
  · injection h with h
    obtain ⟨rfl, rfl⟩ := Prod.mk.inj h
    refine ⟨hk, gk_lowed s, fun ρ w cargs hfree hR hargs => ?_⟩
    obtain ⟨a1, r1, rfl, v1, w1⟩ : ∃ c r, cargs = c :: r ∧ VR ρ .nils c ∧ VRs ρ [] r := by simpa only [VRs] using hargs
    simp only [VRs] at w1
    subst w1
    simp only [VR] at v1
    subst v1
    have main : Calls Try.prog 39 _ w _ := AnyM.slices_Sort_int_none Try.sortInt none 0 w
    refine main.mono fun e w' hp => ?_
    obtain ⟨rfl, rfl⟩ := hp
    have hst := Step.refl s ρ w'
    exact ⟨ρ, _, rfl, by simp [VR, VRs], ⟨Nat.le_refl _, Nat.min_le_left _ _, hst.ren, hst.size, rfl, rfl, rfl, hst.drawn, fun b hb H => rfl, hst.old, fun id L blk e1 _ e3 _ => absurd (St.get_lt e3) (by rw [lowed_next]; omega), fun _ _ _ => rfl⟩, ⟨hR.bound, hR.blk, hR.inj⟩⟩
  · rename_i j n
    split at h
    · rename_i cs hg
      split at h
      · rename_i l hd
        split at h
        · rename_i hc
          obtain ⟨hc1, hpos, hlim⟩ := hc
          injection h with h
          obtain ⟨rfl, rfl⟩ := Prod.mk.inj h
          obtain ⟨d1, d2, d3⟩ := decL_some hd
          have hcs : cs = inC.cells l := by rw [← d3, show n * inC.sz = cs.length by rw [inC_sz]; omega]; simp
          subst hcs
          refine ⟨hk, ⟨grow_put _ hg, keeps_put _ hg⟩, fun ρ w cargs hfree hR hargs => ?_⟩
          obtain ⟨a1, r1, rfl, v1, w1⟩ : ∃ c r, cargs = c :: r ∧ VR ρ (.sl j 0 n none 1) c ∧ VRs ρ [] r := by simpa only [VRs] using hargs
          simp only [VRs] at w1
          subst w1
          simp only [VR] at v1
          obtain ⟨L, a, c, hL, rfl, hle, _, hca⟩ := v1
          rcases hca with rfl | ⟨rfl, hcap⟩
          · omega
          have hb := hR.blk j _ L hg hL
          have hH := holdsI hb
          have hlt := hR.bound j L hL
          have main := AnyM.slices_Sort_int Try.sortInt L.b L.o c l w hH hlt (by rw [d1]; omega)
          rw [d1] at main
          have main : Calls Try.prog 39 _ w _ := main
          refine main.mono fun e w' hp => ?_
          obtain ⟨rfl, nn, os, rfl⟩ := hp
          rw [mergeI]
          obtain ⟨hR1, hS1⟩ := R.put (b := .row (inC.cells (sortI l)) true) hR hg rfl hL (blk_afterI hb (sortI_len l) nn) (by simp [Sort.putRow, Sort.mapBlock, Sort.ahead]) rfl rfl rfl (by show w.drawn ≤ w.drawn + nn; omega) (by
            intro k hk'
            simp only [Sort.putRow, Sort.mapBlock, Sort.ahead]
            rw [Array.getElem?_modify, if_neg (Ne.symm hk')])
          have hcl : Clean (Sort.putRow (Value.int .i64) (Sort.ahead w nn) L.b L.o (sortI l).toArray) (Sort.grow (Sort.putRow (Value.int .i64) (Sort.ahead w nn) L.b L.o (sortI l).toArray) os) := by
            refine ⟨by simp [Sort.grow], rfl, rfl, rfl, Nat.le_refl _, fun b hb => ?_⟩
            simp only [Sort.grow]
            rw [Array.getElem?_append_left hb]
          exact ⟨ρ, _, rfl, by simp [VR, VRs], hS1.trans (hcl.step _ ρ), hR1.clean hcl⟩
        · cases h
      · cases h
    · cases h
  · cases h
end Go.AM
end
/-
  The row's last part: a call that leaves what was there alone, and answers true. Own work of this project.
-/
section
namespace Go.AM
open Go Go.ChangeShapes Go.WideShapes Go.ChangeAt Go.RowKit

variable {H : Type} {enc : TypeId × Value → H} {P : Program}

theorem Clean.below {W W' : World} (h : Clean W W') : Below W.heap.size W W' := ⟨h.os, h.tape, h.output, h.size, h.block⟩
theorem Clean.frozen {W W' : World} (h : Clean W W') {a : Addr} (ha : a.block < W.heap.size) : W'.frozen? a = W.frozen? a := h.below.frozen ha

theorem trodAll_clean (hl : laidOutB P = true) {W W' : World} (hc : Clean W W') (sp : Nat → Bool) : ∀ {ts : List TypeId} {vs : List Value} {ds : List (DataW H)} {ps : List MemPlace}, (∀ t ∈ ts, P.readableRec t = true ∧ t < P.types.size) →
    DataW.TrodAll enc P W 0 (fun _ => true) true ts vs ds ps → (∀ p ∈ ps, sp p.block = true) → DataW.TrodAll enc P W' 0 sp true ts vs ds ps
  | [], vs, ds, ps, _, h, _ => by
    obtain ⟨rfl, rfl, rfl⟩ := trodAll_nil h
    rfl
  | t :: ts, vs, ds, ps, hr, h, hs => by
    obtain ⟨v, vs1, d, ds1, a, b, rfl, rfl, rfl, h1, h2⟩ := trodAll_cons h
    have hlt := DataW.TrodAll.lt h
    refine ⟨a, b, ?_, trodAll_clean hl hc sp (fun t ht => hr t (by simp [ht])) h2 fun p hp => hs p (by simp [hp]), rfl⟩
    exact WideElems.Trod_stays hl (hr t (by simp)).1 (hr t (by simp)).2 h1 (fun x hx => hc.below.same (hlt x (by simp [hx]))) fun x hx => hs x (by simp [hx])

theorem post_of_clean {f : Func} {s : ChangeSpec} {apart fresh handsOn again : Bool} {W W' : World} {args : Array Value} {ds gs : List (DataW H)} {before : List MemPlace} {tb : TypeId} (hl : laidOutB P = true)
    (hread : ∀ t ∈ f.params.toList, P.readableRec t = true ∧ t < P.types.size) (hW : DataW.Whole enc P f.params.toList s.vars apart W args.toList ds gs before) (hv : s.vars = [])
    (hres : (s.fn H (ds ++ gs)).results = [.lit (.bool true)]) (hargs : (s.fn H (ds ++ gs)).args = ds) (hvars : (s.fn H (ds ++ gs)).vars = []) (hrt : f.resultTypes = #[tb]) (hb : P.underlying tb = some .bool) (hc : Clean W W') :
    s.post enc P f apart fresh handsOn again W args (.bool true) W' := by
  have hlt : ∀ p ∈ before, p.block < W.heap.size := hW.lt
  have hW0 := hW
  obtain ⟨pa, pv, hA, hV, rfl, hz, hn⟩ := hW
  have hpv : pv = [] := by
    rw [hv] at hV
    cases gs with
    | nil => exact hV
    | cons g gs => exact hV.elim
  subst hpv
  simp only [List.append_nil] at hW0 hlt hz hn
  have hR : ∀ (b : Nat) (sp : Nat → Bool) (hd : Bool), DataW.TrodAll enc P W' b sp hd [tb] [.bool true] [.lit (.bool true)] [] := fun b sp hd => trodAll_mk1 (shut_bool hb true)
  have hrl : (Value.bool true).resultList f.resultTypes.size = [.bool true] := by simp [hrt, Value.resultList]
  refine ⟨ds, gs, pa, [], pa, [], hW0, ?_, ?_, ?_, ?_, fun _ => ⟨fun j t r h1 h2 => ?_, ?_⟩⟩
  · rw [hrl, hres, hrt]
    exact hR _ _ _
  · rw [hargs]
    exact trodAll_clean hl hc _ hread hA fun p hp => by simpa using hlt p hp
  · rw [hvars, hv]
    rfl
  · exact hc.below.frame _
  · rw [hrl] at h2
    rw [hrt] at h1
    cases j with
    | zero =>
      simp at h1 h2
      subst h1; subst h2
      simp [Value.okWide, hb, Cell.okWide, Cell.ok]
    | succ j => simp at h1
  · refine ⟨[.lit (.bool true)] ++ ds, [], pa, ⟨[] ++ pa, [], ?_, ?_, by simp, ?_, ?_⟩, fun p hp _ => hp⟩
    · rw [hrl, hrt]
      exact trodAll_append (trodAll_clean hl hc _ hread hA fun _ _ => rfl) (hR _ _ _)
    · rw [hv]
      rfl
    · intro b off hp
      rw [hc.frozen (hlt _ hp)]
      exact hz b off hp
    · intro ha
      simpa using hn ha

end Go.AM
end
/-
  From a row's reading of an argument to the abstract machine's memory. Own work of this project.
-/
section
namespace Go.AM
open Go Go.ChangeShapes Go.WideShapes Go.ChangeAt Go.RowKit Go.Deep

/-- The kinds of plain cells. -/
inductive CK where
  | b | i (k : IntKind) | s
def CK.ok : CK → AV → Prop
  | .b, v => ∃ x, v = .bool x
  | .i k, v => ∃ n, v = .int k n ∧ (Lit.int k n).wf = true
  | .s, v => ∃ x, v = .str x
def CKs : List CK → List AV → Prop
  | [], vs => vs = []
  | k :: ks, vs => ∃ v r, vs = v :: r ∧ k.ok v ∧ CKs ks r
theorem CKs.append : ∀ {ks ks' : List CK} {vs vs' : List AV}, CKs ks vs → CKs ks' vs' → CKs (ks ++ ks') (vs ++ vs')
  | [], ks', vs, vs', h, h' => by simp only [CKs] at h; subst h; exact h'
  | k :: ks, ks', vs, vs', h, h' => by
    simp only [CKs] at h
    obtain ⟨v, r, rfl, h1, h2⟩ := h
    exact ⟨v, r ++ vs', rfl, h1, CKs.append h2 h'⟩
theorem CKs.len : ∀ {ks : List CK} {vs : List AV}, CKs ks vs → vs.length = ks.length
  | [], vs, h => by simp only [CKs] at h; subst h; rfl
  | k :: ks, vs, h => by
    simp only [CKs] at h
    obtain ⟨v, r, rfl, h1, h2⟩ := h
    simp [CKs.len h2]
theorem CK.ok_one {k : CK} {v : AV} (h : k.ok v) : v.one = true := by
  cases k <;> simp only [CK.ok] at h
  · obtain ⟨x, rfl⟩ := h; rfl
  · obtain ⟨x, rfl, _⟩ := h; rfl
  · obtain ⟨x, rfl⟩ := h; rfl
theorem CKs.one : ∀ {ks : List CK} {vs : List AV}, CKs ks vs → vs.all AV.one = true
  | [], vs, h => by simp only [CKs] at h; subst h; rfl
  | k :: ks, vs, h => by
    simp only [CKs] at h
    obtain ⟨v, r, rfl, h1, h2⟩ := h
    simp [CK.ok_one h1, CKs.one h2]

variable (P : Program)
variable {P}
variable {H : Type} {enc : TypeId × Value → H} {w : World} {base : Nat} {spare : Nat → Bool} {held : Bool}
theorem cell_some {a : Addr} {v : Value} (h : w.cell? a = some v) : ∃ cells el fr, w.heap[a.block]? = some (.cells cells el fr) ∧ a.spot = none := by
  unfold World.cell? at h
  split at h
  · rename_i c el fr hh
    split at h
    · cases h
    · rename_i hs
      exact ⟨c, el, fr, hh, by simpa using hs⟩
  · cases h
theorem addr_block (a : Addr) (i : Nat) : (a.add i).block = a.block := by unfold Addr.add; split <;> rfl
theorem addr_spot (a : Addr) (i : Nat) (h : (a.add i).spot = none) (h0 : i = 0 ∨ True) : i = 0 → a.spot = none := by
  intro hi
  subst hi
  unfold Addr.add at h
  simpa using h

/-- Cells, each kind in its turn, again and again. -/
def Rows (ks : List CK) (rows : List (List AV)) : Prop := ∀ r ∈ rows, CKs ks r
end Go.AM
end
/-
  Arguments with slices in slices and in structs, opened into the abstract machine's memory. Own work of this project.
-/
section
set_option maxRecDepth 100000
namespace Go.AM
open Go Go.ChangeShapes Go.WideShapes Go.ChangeAt Go.RowKit Go.Deep

/-- Some block of cells is there. -/
def HasCellsD (W : World) : Prop := ∃ (b : Nat) (cs : Array Value) (e : TypeId) (fr : Nat × Nat), W.heap[b]? = some (Obj.cells cs e fr)
theorem dummyD {W : World} (h : HasCellsD W) : ∃ L : Loc, L.b < W.heap.size ∧ ∀ ρ, BlkOk ρ L W (.row [] false) := by
  obtain ⟨b, cs, e, fr, hb⟩ := h
  refine ⟨⟨b, 0, cs.size⟩, (Array.getElem?_eq_some_iff.1 hb).1, fun ρ => ?_⟩
  simp only [BlkOk]
  exact ⟨cs, e, fr, hb, rfl, by simp, fun i v h => by simp at h, by simp, rfl⟩

section
variable (P : Program)
/-- What the memory shows at cells of a type. -/
def RdF (ok : TypeId → List AV → Prop) : List Field → List AV → Prop
  | [], vs => vs = []
  | f :: r, vs => ∃ a b, vs = a ++ b ∧ ok f.type a ∧ RdF ok r b
def RdT (s : St) : Nat → TypeId → List AV → Prop
  | 0, _, _ => False
  | d + 1, t, vs => match P.underlying t with
    | some .bool => ∃ x, vs = [.bool x]
    | some (.int k) => ∃ n, vs = [.int k n] ∧ (Lit.int k n).wf = true
    | some .string => ∃ x, vs = [.str x]
    | some (.struct fs) => RdF (RdT s d) fs.toList vs
    | some (.slice e) => vs = [.nils] ∨ ∃ (id n cap : Nat) (rows : List (List AV)), vs = [.sl id 0 n (some cap) (P.cellsOf e)] ∧ n ≤ cap ∧ cap ≤ maxLen ∧ rows.length = cap ∧ s.get id = some (.row rows.flatten false) ∧ ∀ r ∈ rows, RdT s d e r ∧ r.length = P.cellsOf e
    | _ => False
def okF (ok : TypeId → Bool) : List Field → Nat → Nat → Bool
  | [], at_, sz => decide (sz = at_)
  | f :: r, at_, sz => decide (f.offset = at_) && ok f.type && okF ok r (at_ + P.cellsOf f.type) sz
def okT : Nat → TypeId → Bool
  | 0, _ => false
  | d + 1, t => match P.underlying t with
    | some .bool | some (.int _) | some .string => true
    | some (.struct fs) => okF P (okT d) fs.toList 0 (P.cellsOf t)
    | some (.slice e) => decide (P.cellsOf e ≠ 0) && okT d e
    | _ => false
end

variable {P : Program} {H : Type} {enc : TypeId × Value → H} {W : World} {base : Nat} {held : Bool}
/-- Cells, and the blocks that they reach, numbered from 'start' on. -/
structure Opn (W : World) (Q : St → List AV → Prop) (start : Nat) (cs : List Value) (vs : List AV) (bl : List (AB × Loc)) : Prop where
  lt : ∀ p ∈ bl, p.2.b < W.heap.size
  own : ∀ p ∈ bl, p.1.owned = false
  vr : ∀ ρ : Ren, (∀ i p, bl[i]? = some p → ρ (start + i) = some p.2) → VRs ρ vs cs ∧ ∀ p ∈ bl, BlkOk ρ p.2 W p.1
  rd : ∀ s : St, (∀ i p, bl[i]? = some p → s.get (start + i) = some p.1) → Q s vs
  one : vs.all AV.one = true
  len : vs.length = cs.length
theorem Opn.plain {Q : St → List AV → Prop} {start : Nat} {cs : List Value} {vs : List AV} (h : ∀ ρ, VRs ρ vs cs) (hq : ∀ s, Q s vs) (ho : vs.all AV.one = true) (hl : vs.length = cs.length) : Opn W Q start cs vs [] :=
  ⟨by simp, by simp, fun ρ _ => ⟨h ρ, by simp⟩, fun s _ => hq s, ho, hl⟩
theorem Opn.app {Q1 Q2 : St → List AV → Prop} {start : Nat} {c1 c2 : List Value} {v1 v2 : List AV} {b1 b2 : List (AB × Loc)} (h : Opn W Q1 start c1 v1 b1) (k : Opn W Q2 (start + b1.length) c2 v2 b2) :
    Opn W (fun s _ => Q1 s v1 ∧ Q2 s v2) start (c1 ++ c2) (v1 ++ v2) (b1 ++ b2) := by
  have e1 : ∀ {i : Nat} {p}, b1[i]? = some p → (b1 ++ b2)[i]? = some p := fun {i p} hp => by
    rw [List.getElem?_append_left (List.getElem?_eq_some_iff.1 hp).1]; exact hp
  have e2 : ∀ {i : Nat} {p}, b2[i]? = some p → (b1 ++ b2)[b1.length + i]? = some p := fun {i p} hp => by
    rw [List.getElem?_append_right (by omega), Nat.add_sub_cancel_left]; exact hp
  refine ⟨fun p hp => ?_, fun p hp => ?_, fun ρ hρ => ?_, fun s hs => ⟨h.rd s fun i p hp => hs i p (e1 hp), k.rd s fun i p hp => ?_⟩, by simp [h.one, k.one], by simp [h.len, k.len]⟩
  · rcases List.mem_append.1 hp with q | q
    · exact h.lt p q
    · exact k.lt p q
  · rcases List.mem_append.1 hp with q | q
    · exact h.own p q
    · exact k.own p q
  · obtain ⟨r1, r2⟩ := h.vr ρ fun i p hp => hρ i p (e1 hp)
    obtain ⟨r3, r4⟩ := k.vr ρ fun i p hp => by have := hρ _ p (e2 hp); rwa [← Nat.add_assoc] at this
    refine ⟨r1.append r3, fun p hp => ?_⟩
    rcases List.mem_append.1 hp with q | q
    · exact r2 p q
    · exact r4 p q
  · have := hs _ p (e2 hp)
    rwa [← Nat.add_assoc] at this
theorem Opn.imp {Q Q' : St → List AV → Prop} {start : Nat} {cs : List Value} {vs : List AV} {bl : List (AB × Loc)} (h : Opn W Q start cs vs bl) (k : ∀ s, Q s vs → Q' s vs) : Opn W Q' start cs vs bl :=
  ⟨h.lt, h.own, h.vr, fun s hs => k s (h.rd s hs), h.one, h.len⟩

/-- A slice's place, its elements as they are read one by one. -/
theorem slice_geo {t e : TypeId} {fuel : Nat} {cs : List Value} {x : DataW H × List MemPlace} (hu : P.underlying t = some (.slice e)) (h0 : P.cellsOf e ≠ 0)
    (h : DataW.trod enc P W base (fun _ => true) held fuel t cs = some x) : cs = [.slice none 0 0] ∨ (∃ a, cs = [.slice (some a) 0 0]) ∨
    ∃ (b off len cap : Nat) (cells : Array Value) (el : TypeId) (fr : Nat × Nat) (n : Nat), cs = [.slice (some ⟨b, off, none⟩) len cap] ∧ 0 < cap ∧ len ≤ cap ∧ cap ≤ maxLen ∧ W.heap[b]? = some (.cells cells el fr) ∧ off + cap * P.cellsOf e ≤ cells.size ∧
      ∀ i, i < cap → ∃ x, DataW.trod enc P W base (fun _ => true) held n e ((cells.toList.drop (off + i * P.cellsOf e)).take (P.cellsOf e)) = some x := by
  rcases open_slice hu h with ⟨rfl, _⟩ | ⟨a, len, cap, m, n, D, Pl, rfl, hb, hl, hm, hmm, _, hx⟩
  · exact .inl rfl
  right
  simp only [if_true] at hmm
  subst hmm
  by_cases hc : m = 0
  · left
    subst hc
    have : len = 0 := by omega
    subst this
    exact ⟨a, rfl⟩
  right
  obtain ⟨cs0, h1, _⟩ := hx 0 (by omega)
  obtain ⟨_, hl0, hat0⟩ := World.cells?_some h1
  have hc0 := hat0 0 (by omega)
  obtain ⟨b, off, spot⟩ := a
  have hsome : ∃ v, cs0[0]? = some v := ⟨cs0[0]'(by omega), by simp⟩
  obtain ⟨v0, hv0⟩ := hsome
  rw [hv0] at hc0
  obtain ⟨cells, el, fr, hh, hsp⟩ := cell_some hc0
  rw [addr_block, addr_block] at hh
  simp only at hh
  have hspot : spot = none := by
    have h2 := addr_spot _ 0 hsp (.inl rfl) rfl
    have h3 := addr_spot _ (0 * P.cellsOf e) h2 (.inr trivial) (by simp)
    exact h3
  subst hspot
  have hat : ∀ i, i < m → off + (i + 1) * P.cellsOf e ≤ cells.size ∧ ∃ x, DataW.trod enc P W base (fun _ => true) held n e ((cells.toList.drop (off + i * P.cellsOf e)).take (P.cellsOf e)) = some x := by
    intro i hi
    obtain ⟨cs', e1, e2⟩ := hx i hi
    obtain ⟨_, hl', hat'⟩ := World.cells?_some e1
    have hget : ∀ j, j < P.cellsOf e → cells[off + i * P.cellsOf e + j]? = cs'[j]? := by
      intro j hj
      have := hat' j hj
      rw [addr_add, addr_add, cell_at hh] at this
      exact this
    have hsz : off + (i + 1) * P.cellsOf e ≤ cells.size := by
      have hj : P.cellsOf e - 1 < P.cellsOf e := by omega
      have := hget _ hj
      rw [List.getElem?_eq_getElem (by omega)] at this
      have hlt := (Array.getElem?_eq_some_iff.1 this).1
      rw [Nat.succ_mul]
      omega
    refine ⟨hsz, (D i, Pl i), ?_⟩
    have : (cells.toList.drop (off + i * P.cellsOf e)).take (P.cellsOf e) = cs' := by
      apply List.ext_getElem?
      intro j
      by_cases hj : j < P.cellsOf e
      · rw [List.getElem?_take_of_lt hj, List.getElem?_drop]
        have := hget j (by omega)
        simpa using this
      · rw [List.getElem?_eq_none (by simp; omega), List.getElem?_eq_none (by omega)]
    rw [this]
    exact e2
  obtain ⟨q2, _⟩ := hat (m - 1) (by omega)
  rw [show m - 1 + 1 = m by omega] at q2
  exact ⟨b, off, len, m, cells, el, fr, n, rfl, by omega, hl, hm, hh, q2, fun i hi => (hat i hi).2⟩

def DeepOk (P : Program) (enc : TypeId × Value → H) (W : World) (base : Nat) (held : Bool) (d : Nat) (t : TypeId) : Prop :=
  ∀ (fuel : Nat) (cs : List Value) (x : DataW H × List MemPlace), DataW.trod enc P W base (fun _ => true) held fuel t cs = some x → ∀ start, ∃ vs bl, Opn W (fun s vs => RdT P s d t vs) start cs vs bl

theorem deep_fields {d : Nat} (IH : ∀ t, okT P d t = true → DeepOk P enc W base held d t) {n : Nat} {cs : List Value} {sz : Nat} (hcs : cs.length = sz) : ∀ (fs : List Field) (at_ : Nat), okF P (okT P d) fs at_ sz = true →
    (∀ f ∈ fs, ∃ x, DataW.trod enc P W base (fun _ => true) held n f.type ((cs.drop f.offset).take (P.cellsOf f.type)) = some x) → ∀ start, ∃ vs bl, Opn W (fun s vs => RdF (RdT P s d) fs vs) start (cs.drop at_) vs bl
  | [], at_, h, _, start => by
    simp only [okF, decide_eq_true_eq] at h
    rw [List.drop_eq_nil_of_le (by omega)]
    exact ⟨[], [], .plain (fun _ => VRs_nil) (fun _ => rfl) rfl rfl⟩
  | f :: r, at_, h, hx, start => by
    simp only [okF, Bool.and_eq_true, decide_eq_true_eq] at h
    obtain ⟨⟨hoff, hok⟩, hr⟩ := h
    obtain ⟨x, hxf⟩ := hx f (by simp)
    obtain ⟨v1, b1, o1⟩ := IH f.type hok n _ x hxf start
    obtain ⟨v2, b2, o2⟩ := deep_fields IH hcs r (at_ + P.cellsOf f.type) hr (fun g hg => hx g (by simp [hg])) (start + b1.length)
    refine ⟨v1 ++ v2, b1 ++ b2, ?_⟩
    have := o1.app o2
    rw [hoff, ← List.drop_drop, List.take_append_drop] at this
    exact this.imp fun s q => ⟨v1, v2, rfl, q⟩
theorem deep_rows {d : Nat} {e : TypeId} {n : Nat} (IH : DeepOk P enc W base held d e) (cells : List Value) (off : Nat) : ∀ (k : Nat), off + k * P.cellsOf e ≤ cells.length →
    (∀ i, i < k → ∃ x, DataW.trod enc P W base (fun _ => true) held n e ((cells.drop (off + i * P.cellsOf e)).take (P.cellsOf e)) = some x) → ∀ start, ∃ (rows : List (List AV)) (bl : List (AB × Loc)), rows.length = k ∧
      Opn W (fun s _ => ∀ r ∈ rows, RdT P s d e r ∧ r.length = P.cellsOf e) start ((cells.drop off).take (k * P.cellsOf e)) rows.flatten bl
  | 0, _, _, start => ⟨[], [], rfl, .plain (fun _ => by simpa using VRs_nil) (fun _ r hr => by simp at hr) rfl (by simp)⟩
  | k + 1, hle, hx, start => by
    obtain ⟨rows, b1, h1, o1⟩ := deep_rows IH cells off k (by rw [Nat.succ_mul] at hle; omega) (fun i hi => hx i (by omega)) start
    obtain ⟨x, hxk⟩ := hx k (by omega)
    obtain ⟨v2, b2, o2⟩ := IH n _ x hxk (start + b1.length)
    refine ⟨rows ++ [v2], b1 ++ b2, by simp [h1], ?_⟩
    have hl2 : v2.length = P.cellsOf e := by
      rw [o2.len, List.length_take, List.length_drop]
      rw [Nat.succ_mul] at hle
      omega
    have := o1.app o2
    rw [List.flatten_append, List.flatten_singleton, Nat.succ_mul, List.take_add, List.drop_drop]
    refine this.imp fun s hq r hr => ?_
    rcases List.mem_append.1 hr with q | q
    · exact hq.1 r q
    · simp at q
      subst q
      exact ⟨hq.2, hl2⟩
theorem VRs.cell {ρ : Ren} {vs : List AV} {cs : List Value} (h : VRs ρ vs cs) {i : Nat} {v : AV} (hi : vs[i]? = some v) : ∃ c, cs[i]? = some c ∧ VR ρ v c := VRs.at_ i h hi
theorem deep_open (hc : HasCellsD W) : ∀ (d : Nat) (t : TypeId), okT P d t = true → DeepOk P enc W base held d t
  | 0, t, h => by simp [okT] at h
  | d + 1, t, h => by
    intro fuel cs x hx start
    simp only [okT] at h
    split at h
    · rename_i hu
      obtain ⟨b, rfl, _⟩ := DataW.trod_bool hu hx
      exact ⟨[.bool b], [], .plain (fun ρ => VRs_cons.2 ⟨by simp [VR], VRs_nil⟩) (fun s => by simp only [RdT, hu]; exact ⟨b, rfl⟩) rfl rfl⟩
    · rename_i k hu
      obtain ⟨b, rfl, _, hw⟩ := DataW.trod_int hu hx
      exact ⟨[.int k b], [], .plain (fun ρ => VRs_cons.2 ⟨by simp [VR], VRs_nil⟩) (fun s => by simp only [RdT, hu]; exact ⟨b, rfl, hw⟩) rfl rfl⟩
    · rename_i hu
      obtain ⟨b, rfl, _⟩ := DataW.trod_string hu hx
      exact ⟨[.str b], [], .plain (fun ρ => VRs_cons.2 ⟨by simp [VR], VRs_nil⟩) (fun s => by simp only [RdT, hu]; exact ⟨b, rfl⟩) rfl rfl⟩
    · rename_i fs hu
      obtain ⟨xs, n, _, _, hl, hxl, hf⟩ := DataW.trod_struct hu hx
      obtain ⟨vs, bl, ho⟩ := deep_fields (fun t hk => deep_open hc d t hk) hl fs.toList 0 h (n := n) (fun f hmem => by
        obtain ⟨i, hi⟩ := List.getElem?_of_mem hmem
        have hi' : fs[i]? = some f := by simpa using hi
        have hlt : i < xs.length := by
          have := (Array.getElem?_eq_some_iff.1 hi').1
          omega
        exact ⟨xs[i], by rw [hf i f hi']; simp [hlt]⟩) start
      rw [List.drop_zero] at ho
      exact ⟨vs, bl, ho.imp fun s q => by simp only [RdT, hu]; exact q⟩
    · rename_i e hu
      simp only [Bool.and_eq_true, decide_eq_true_eq] at h
      obtain ⟨L, hL1, hL2⟩ := dummyD hc
      rcases slice_geo hu h.1 hx with rfl | ⟨a, rfl⟩ | ⟨b, off, len, cap, cells, el, fr, n, rfl, h2, h3, h4, h5, h6, h7⟩
      · exact ⟨[.nils], [], .plain (fun ρ => VRs_cons.2 ⟨by simp [VR], VRs_nil⟩) (fun s => by simp only [RdT, hu]; exact .inl (by trivial)) rfl rfl⟩
      · refine ⟨[.sl start 0 0 (some 0) (P.cellsOf e)], [(.row [] false, L)], ?_, ?_, fun ρ hρ => ⟨VRs_cons.2 ⟨?_, VRs_nil⟩, ?_⟩, fun s hs => ?_, rfl, rfl⟩
        · intro p hp
          simp at hp
          subst hp
          exact hL1
        · intro p hp
          simp at hp
          subst hp
          rfl
        · simp only [VR]
          exact ⟨L, a, 0, hρ 0 _ rfl, rfl, Nat.le_refl _, fun k hk => by injection hk, .inl rfl⟩
        · intro p hp
          simp at hp
          subst hp
          exact hL2 ρ
        · simp only [RdT, hu]
          exact .inr ⟨start, 0, 0, [], rfl, Nat.le_refl _, Nat.zero_le _, rfl, hs 0 _ rfl, fun r hr => by simp at hr⟩
      · have hlt := (Array.getElem?_eq_some_iff.1 h5).1
        obtain ⟨rows, bl, hr1, ho⟩ := deep_rows (deep_open hc d e h.2) cells.toList off cap (by simpa using h6) h7 (start + 1)
        have hfl : rows.flatten.length = cap * P.cellsOf e := by
          rw [ho.len, List.length_take, List.length_drop]
          simp
          omega
        have hup : ∀ {ρ : Ren}, (∀ i p, ((AB.row rows.flatten false, (⟨b, off, cells.size⟩ : Loc)) :: bl)[i]? = some p → ρ (start + i) = some p.2) → ∀ i p, bl[i]? = some p → ρ (start + 1 + i) = some p.2 := fun hρ i p hp => by
          have := hρ (i + 1) p (by simpa using hp)
          rwa [show start + (i + 1) = start + 1 + i by omega] at this
        refine ⟨[.sl start 0 len (some cap) (P.cellsOf e)], (.row rows.flatten false, ⟨b, off, cells.size⟩) :: bl, ?_, ?_, fun ρ hρ => ?_, fun s hs => ?_, rfl, rfl⟩
        · intro p hp
          rcases List.mem_cons.1 hp with rfl | hp
          · exact hlt
          · exact ho.lt p hp
        · intro p hp
          rcases List.mem_cons.1 hp with rfl | hp
          · rfl
          · exact ho.own p hp
        · obtain ⟨r1, r2⟩ := ho.vr ρ (hup hρ)
          refine ⟨VRs_cons.2 ⟨?_, VRs_nil⟩, fun p hp => ?_⟩
          · simp only [VR]
            exact ⟨⟨b, off, cells.size⟩, ⟨b, off, none⟩, cap, hρ 0 _ rfl, rfl, h3, fun k hk => by injection hk, .inr ⟨by simp, by simpa using h6⟩⟩
          · rcases List.mem_cons.1 hp with rfl | hp
            · simp only [BlkOk]
              refine ⟨cells, el, fr, h5, rfl, by rw [hfl]; exact h6, fun i v hi => ?_, by simp, ho.one⟩
              have hi' := (List.getElem?_eq_some_iff.1 hi).1
              obtain ⟨c, hc1, hc2⟩ := r1.cell hi
              refine ⟨c, ?_, hc2⟩
              rw [List.getElem?_take_of_lt (by omega), List.getElem?_drop] at hc1
              simpa using hc1
            · exact r2 p hp
        · simp only [RdT, hu]
          refine .inr ⟨start, len, cap, rows, rfl, h3, h4, hr1, hs 0 _ rfl, ?_⟩
          refine ho.rd s fun i p hp => ?_
          have := hs (i + 1) p (by simpa using hp)
          rwa [show start + (i + 1) = start + 1 + i by omega] at this
    · cases h

/-! ### All arguments of a call -/
def argAV (P : Program) (t : TypeId) (vs : List AV) : AV := match P.underlying t with
  | some (.struct _) => .agg vs
  | _ => vs.headD .und
def RdA (P : Program) (s : St) (d : Nat) (t : TypeId) (v : AV) : Prop := ∃ vs, RdT P s d t vs ∧ v = argAV P t vs
def RdAs (P : Program) (s : St) (d : Nat) : List TypeId → List AV → Prop
  | [], xs => xs = []
  | t :: ts, xs => ∃ v r, xs = v :: r ∧ RdA P s d t v ∧ RdAs P s d ts r
structure OpnA (W : World) (Q : St → List AV → Prop) (start : Nat) (cs : List Value) (vs : List AV) (bl : List (AB × Loc)) : Prop where
  lt : ∀ p ∈ bl, p.2.b < W.heap.size
  own : ∀ p ∈ bl, p.1.owned = false
  vr : ∀ ρ : Ren, (∀ i p, bl[i]? = some p → ρ (start + i) = some p.2) → VRs ρ vs cs ∧ ∀ p ∈ bl, BlkOk ρ p.2 W p.1
  rd : ∀ s : St, (∀ i p, bl[i]? = some p → s.get (start + i) = some p.1) → Q s vs
theorem OpnA.cons {Q1 Q2 : St → List AV → Prop} {start : Nat} {c : Value} {cs : List Value} {v : AV} {vs : List AV} {b1 b2 : List (AB × Loc)} (h : OpnA W Q1 start [c] [v] b1) (k : OpnA W Q2 (start + b1.length) cs vs b2) :
    OpnA W (fun s _ => Q1 s [v] ∧ Q2 s vs) start (c :: cs) (v :: vs) (b1 ++ b2) := by
  have e1 : ∀ {i : Nat} {p}, b1[i]? = some p → (b1 ++ b2)[i]? = some p := fun {i p} hp => by
    rw [List.getElem?_append_left (List.getElem?_eq_some_iff.1 hp).1]; exact hp
  have e2 : ∀ {i : Nat} {p}, b2[i]? = some p → (b1 ++ b2)[b1.length + i]? = some p := fun {i p} hp => by
    rw [List.getElem?_append_right (by omega), Nat.add_sub_cancel_left]; exact hp
  refine ⟨fun p hp => ?_, fun p hp => ?_, fun ρ hρ => ?_, fun s hs => ⟨h.rd s fun i p hp => hs i p (e1 hp), k.rd s fun i p hp => ?_⟩⟩
  · rcases List.mem_append.1 hp with q | q
    · exact h.lt p q
    · exact k.lt p q
  · rcases List.mem_append.1 hp with q | q
    · exact h.own p q
    · exact k.own p q
  · obtain ⟨r1, r2⟩ := h.vr ρ fun i p hp => hρ i p (e1 hp)
    obtain ⟨r3, r4⟩ := k.vr ρ fun i p hp => by have := hρ _ p (e2 hp); rwa [← Nat.add_assoc] at this
    refine ⟨r1.append r3, fun p hp => ?_⟩
    rcases List.mem_append.1 hp with q | q
    · exact r2 p q
    · exact r4 p q
  · have := hs _ p (e2 hp)
    rwa [← Nat.add_assoc] at this
theorem arg_deep (hc : HasCellsD W) {d : Nat} {t : TypeId} (hok : okT P (d + 1) t = true) {v : Value} {x : DataW H} {p : List MemPlace} (h : DataW.Trod enc P W base (fun _ => true) held t v x p) {b0 : Nat} (hval : Value.okWide P W .any b0 t v) (start : Nat) :
    ∃ a bl, OpnA W (fun s _ => RdA P s (d + 1) t a) start [v] [a] bl := by
  obtain ⟨fuel, h⟩ := h
  obtain ⟨vs, bl, ho⟩ := deep_open hc (d + 1) t hok fuel _ _ h start
  have hone : ∀ (hv : v.cells.toList = [v]) (ha : argAV P t vs = vs.headD .und), ∃ a bl, OpnA W (fun s _ => RdA P s (d + 1) t a) start [v] [a] bl := by
    intro hv ha
    have hl := ho.len
    rw [hv] at hl
    match vs, hl with
    | [a], _ =>
      refine ⟨a, bl, ho.lt, ho.own, fun ρ hρ => ?_, fun s hs => ⟨[a], ho.rd s hs, by rw [ha]; rfl⟩⟩
      have := ho.vr ρ hρ
      rw [hv] at this
      exact this
  simp only [okT] at hok
  split at hok
  · rename_i hu
    obtain ⟨b, rfl⟩ := okWide_bool hu hval
    exact hone rfl (by simp [argAV, hu])
  · rename_i k hu
    obtain ⟨b, rfl⟩ := okWide_int hu hval
    exact hone rfl (by simp [argAV, hu])
  · rename_i hu
    obtain ⟨b, rfl⟩ := okWide_string hu hval
    exact hone rfl (by simp [argAV, hu])
  · rename_i fs hu
    obtain ⟨cs, rfl, _⟩ := okWide_struct hu hval
    refine ⟨.agg vs, bl, ho.lt, ho.own, fun ρ hρ => ?_, fun s hs => ⟨vs, ho.rd s hs, by simp [argAV, hu]⟩⟩
    obtain ⟨r1, r2⟩ := ho.vr ρ hρ
    refine ⟨VRs_cons.2 ⟨?_, VRs_nil⟩, r2⟩
    simp only [VR]
    exact ⟨cs.toList, by simp, r1⟩
  · rename_i e hu
    obtain ⟨a, len, cap, rfl⟩ := okWide_slice hu hval
    exact hone rfl (by simp [argAV, hu])
  · cases hok
theorem args_deep (hc : HasCellsD W) {d : Nat} : ∀ {ts : List TypeId} {vs : List Value} {ds : List (DataW H)} {ps : List MemPlace}, (∀ t ∈ ts, okT P (d + 1) t = true) → DataW.TrodAll enc P W base (fun _ => true) held ts vs ds ps →
    (∀ (j : Nat) t v, ts[j]? = some t → vs[j]? = some v → ∃ b0, Value.okWide P W .any b0 t v) → ∀ start, ∃ xs bl, OpnA W (fun s _ => RdAs P s (d + 1) ts xs) start vs xs bl
  | [], vs, ds, ps, _, h, _, start => by
    obtain ⟨rfl, rfl, rfl⟩ := trodAll_nil h
    exact ⟨[], [], by simp, by simp, fun ρ _ => ⟨VRs_nil, by simp⟩, fun s _ => rfl⟩
  | t :: ts, vs, ds, ps, hok, h, hval, start => by
    obtain ⟨v, vs1, x, ds1, a, b, rfl, rfl, rfl, h1, h2⟩ := trodAll_cons h
    obtain ⟨b0, hv⟩ := hval 0 t v rfl rfl
    obtain ⟨av, bl1, o1⟩ := arg_deep hc (hok t (by simp)) h1 hv start
    obtain ⟨xs, bl2, o2⟩ := args_deep hc (fun t' ht => hok t' (by simp [ht])) h2 (fun j t' v' e1 e2 => hval (j + 1) t' v' (by simpa using e1) (by simpa using e2)) (start + bl1.length)
    have := o1.cons o2
    exact ⟨av :: xs, bl1 ++ bl2, this.lt, this.own, this.vr, fun s hs => ⟨av, xs, rfl, this.rd s hs⟩⟩
open Classical in
noncomputable def lawC (P : Program) (d : Nat) (ts : List TypeId) : List AV → St → Option (AV × St) := fun xs s => if RdAs P s d ts xs then some (.bool true, { heap := s.heap, next := s.next, low := min s.low s.next }) else none
theorem deep_call {d : Nat} {ts : List TypeId} {args : List Value} {xs : List AV} {bl : List (AB × Loc)} (ho : OpnA W (fun s _ => RdAs P s d ts xs) 0 args xs bl) {f : Nat} (hs : SoundAt P f (lawC P d ts)) : Calls P f args.toArray W fun e W' => e = .returned (.bool true) ∧ Clean W W' := by
  obtain ⟨s0, hs0⟩ : ∃ s0 : St, s0 = ⟨(bl.map (·.1)).reverse, bl.length, 0⟩ := ⟨_, rfl⟩
  have hnx : s0.next = bl.length := by rw [hs0]
  have hget : ∀ i, s0.get i = (bl[i]?).map (·.1) := by
    intro i
    subst hs0
    unfold St.get
    simp only
    split
    · rename_i h
      rw [List.getElem?_reverse (by simp; omega)]
      simp only [List.length_map, List.getElem?_map]
      rw [show bl.length - 1 - (bl.length - 1 - i) = i by omega]
    · rename_i h
      rw [List.getElem?_eq_none (by omega)]
      rfl
  have hown : ∀ i b, s0.get i = some b → b.owned = false := by
    intro i b h
    rw [hget] at h
    obtain ⟨p, hp, rfl⟩ := Option.map_eq_some_iff.1 h
    exact ho.own p (List.mem_of_getElem? hp)
  obtain ⟨ρ, hρ⟩ : ∃ ρ : Ren, ρ = fun i => (bl[i]?).map (·.2) := ⟨_, rfl⟩
  have hρ1 : ∀ i p, bl[i]? = some p → ρ (0 + i) = some p.2 := fun i p hp => by rw [hρ, Nat.zero_add]; simp [hp]
  obtain ⟨hv, hb⟩ := ho.vr ρ hρ1
  have hR : R s0 ρ W := by
    refine ⟨fun i L h => ?_, fun i b L h1 h2 => ?_, fun i j L M bi bj _ _ _ e3 _ e5 _ => ?_⟩
    · rw [hρ] at h
      obtain ⟨p, hp, rfl⟩ := Option.map_eq_some_iff.1 h
      exact ho.lt p (List.mem_of_getElem? hp)
    · rw [hget] at h1
      rw [hρ] at h2
      obtain ⟨p, hp, rfl⟩ := Option.map_eq_some_iff.1 h1
      simp [hp] at h2
      subst h2
      exact hb p (List.mem_of_getElem? hp)
    · rw [hown i bi e3] at e5; cases e5
  have hrd := ho.rd s0 fun i p hp => by rw [Nat.zero_add, hget, hp]; rfl
  obtain ⟨_, _, h⟩ := hs xs s0 _ _ (by unfold lawC; rw [if_pos hrd])
  have := h ρ W args (fun i hi => by rw [hρ]; simp; omega) hR hv
  refine this.mono fun e W' hp => ?_
  obtain ⟨ρ', v, rfl, hv', hst, _⟩ := hp
  simp only [VR] at hv'
  subst hv'
  exact ⟨rfl, hst.size, hst.os, hst.tape, hst.output, hst.drawn, fun b hb => hst.frame b hb fun id L blk _ _ h1 h2 => by rw [hown id blk h1] at h2; cases h2⟩
theorem trodAll_len : ∀ {ts : List TypeId} {vs : List Value} {ds : List (DataW H)} {ps : List MemPlace}, DataW.TrodAll enc P W base (fun _ => true) held ts vs ds ps → ds.length = ts.length
  | [], vs, ds, ps, h => by
    obtain ⟨rfl, rfl, rfl⟩ := trodAll_nil h
    rfl
  | t :: ts, vs, ds, ps, h => by
    obtain ⟨v, vs1, x, ds1, a, b, rfl, rfl, rfl, h1, h2⟩ := trodAll_cons h
    simp [trodAll_len h2]
end Go.AM
end
/-
  Arguments that are structs, field by field. Own work of this project.
-/
section
namespace Go.AM
open Go

variable {s t u : St}
section
variable {P : Program}
def RdTs (P : Program) (s : St) (d : Nat) : List TypeId → List AV → Prop
  | [], vs => vs = []
  | t :: r, vs => ∃ a b, vs = a ++ b ∧ RdT P s d t a ∧ RdTs P s d r b
theorem rd_fields {d : Nat} : ∀ (fs : List Field) (vs : List AV), RdF (RdT P s d) fs vs → RdTs P s d (fs.map (·.type)) vs
  | [], _, h => h
  | f :: r, vs, h => by
    obtain ⟨a, b, rfl, h1, h2⟩ := h
    exact ⟨a, b, rfl, h1, rd_fields r b h2⟩
def fieldsT (P : Program) (t : TypeId) : Option (List TypeId) := match P.underlying t with
  | some (.struct fs) => some (fs.toList.map (·.type))
  | _ => none
theorem rd_struct {d : Nat} {t : TypeId} {ts : List TypeId} {vs : List AV} (hu : fieldsT P t = some ts) (h : RdT P s (d + 1) t vs) : RdTs P s d ts vs := by
  unfold fieldsT at hu
  split at hu
  · rename_i fs hq
    injection hu with hu
    subst hu
    simp only [RdT, hq] at h
    exact rd_fields _ _ h
  · cases hu
end
end Go.AM
end
/-
  Sorted; the small functions of acks. Own work of this project; in part printed by a program of it.
-/
section
set_option maxRecDepth 100000
set_option maxHeartbeats 8000000
namespace Go.AM
open Go Go.Proofs

variable {s t u : St}

theorem pCol_low {p : Nat} {v : AV} {l : List Int} (hp : s.get p = some (.row [v] true)) (hr : AM.read inC s v = some l) (hl : l.length ≤ 100000) : pCol [.nils, .fn 40 [.ptr p 0]] (lowd s) = some (l, none) := by
  unfold pCol
  simp only
  rw [show (lowd s).get p = some (.row [v] true) from hp]
  simp only
  rw [show AM.read inC (lowd s) v = some l from read_low' hr]
  simp only
  rw [if_pos hl]
def pCl : List AV → St → Option (List Int × Option AV) := fun xs s => match xs with
  | [.fn 40 [.ptr p 0]] => match s.get p with
    | some (.row [v] true) => match AM.read inC s v with
      | some l => if l.length ≤ 100000 then some (l, none) else none
      | none => none
    | _ => none
  | _ => none
def pSrt : List AV → St → Option (List Int × Option AV) := fun xs s => match xs with
  | [.fn 40 [.ptr p 0]] => match s.get p with
    | some (.row [v] true) => match AM.read inC s v with
      | some l => if l.length ≤ 100000 then some (sortI l, none) else none
      | none => none
    | _ => none
  | _ => none
theorem w_Col {s : St} {p : Nat} {v : AV} {l : List Int} (hp : s.get p = some (.row [v] true)) (hr : AM.read inC s v = some l) (hl : l.length ≤ 100000) : ∀ env : Env, elen env = a38.ntmps → (∀ i x_, [.fn 40 [.ptr p 0]][i]? = some x_ → E env i = x_) → awp (tb [(44, conF inC pCol)]) a38.body (fun x e t => (∀ i, x ≠ .exit i) ∧ Keep s t ∧ ∃ w, aresults e t a38.results = some (mkR none w) ∧ Own inC s t w (l)) env s := by
  intro env hlen ha
  have h0 : E env 0 = _ := ha 0 _ rfl
  have hlen : elen env = _ := hlen
  simp only [a38] at hlen
  unfold a38
  try dsimp only [oO, oG]
  obtain ⟨v1, t1, q1, hK1, hO1⟩ := acall_fresh (D := inC) (pCol_low hp hr hl) (fun x hx => by cases hx)
  have q1 : acall (conF inC pCol) false [.nils, .fn 40 [.ptr p 0]] s = some (v1, t1) := q1
  simp (config := {contextual := true, maxDischargeDepth := 12}) only [tb_at, h0, hlen, q1, ↓bD, bU, forall_const, bS, implies_true, isNx, eq_self, ↓wp_cond, ↓wp_loop, ↓reduceIte, reduceCtorEq, Nat.reduceEqDiff, Nat.reduceLT, Nat.reduceAdd, Nat.reduceMul, bT, ↓sg_bsl, ↓st_callf, bX, ap_mkfn, ap_conv, ↓wi_seq, ↓wi_base, ↓wi_block, ↓wi_cond, ↓wi_loop, ↓wi_rf, ↓wy_seq, ↓wy_base, ↓wy_block, ↓wy_cond, ↓wy_loop, ↓wy_yld]
  all_goals first | exact ⟨hK1, _, rfl, hO1⟩ | exact ⟨hK1, hO1⟩ | skip
theorem s_Col : SoundAt Try.prog 38 (conF inC pCl) :=
  con_fresh (tb_sound (l := [(44, conF inC pCol)]) (by simpa using s_App)) mixed Try.func38 k38 c38 fun args s l e h => by
    unfold pCl at h
    split at h
    · split at h
      · rename_i hp
        split at h
        · rename_i hr
          split at h
          · rename_i hl
            injection h with h
            obtain ⟨rfl, rfl⟩ := Prod.mk.inj h
            exact ⟨(fun x hx => by cases hx), by simp [a38], w_Col hp hr hl⟩
          · cases h
        · cases h
      · cases h
    · cases h
theorem pCl_low {p : Nat} {v : AV} {l : List Int} (hp : s.get p = some (.row [v] true)) (hr : AM.read inC s v = some l) (hl : l.length ≤ 100000) : pCl [.fn 40 [.ptr p 0]] (lowd s) = some (l, none) := by
  unfold pCl
  simp only
  rw [show (lowd s).get p = some (.row [v] true) from hp]
  simp only
  rw [show AM.read inC (lowd s) v = some l from read_low' hr]
  simp only
  rw [if_pos hl]
theorem q_sortI {s0 : St} {v : AV} {l : List Int} (hO : Own inC s0 t v l) (hK : Keep s0 t) (hl : l.length ≤ 100000) : ∃ t', acall cSortI false [v] t = some (.tup [], t') ∧ Own inC s0 t' v (sortI l) ∧ Keep s0 t' := by
  rcases hO with ⟨rfl, rfl⟩ | ⟨j, rfl, h0, h1, h2⟩
  · have hc : cSortI [.nils] (lowd t) = some (.tup [], (lowd t).lowed) := rfl
    exact ⟨t, acall_same hc ((Keep.refl _).lowed) rfl, .inl ⟨rfl, rfl⟩, hK⟩
  · have hlt := St.get_lt h2
    have hpos : 0 < l.length := List.length_pos_iff.2 h0
    have hcl : (inC.cells l).length = l.length := by rw [cells_len, inC_sz, Nat.mul_one]
    have hdec : decL inC l.length (inC.cells l) = some l := by
      have := decL_cells inC l []
      rwa [List.append_nil] at this
    have hc : cSortI [.sl j 0 l.length none 1] (lowd t) = some (.tup [], (lowd t).put j (.row (inC.cells (sortI l)) true)) := by
      unfold cSortI
      simp only
      rw [show (lowd t).get j = some (.row (inC.cells l) true) from h2]
      simp only
      rw [hdec]
      simp only
      rw [if_pos ⟨hcl, hpos, hl⟩]
    have hC : Chg [j] (lowd t) ((lowd t).put j (.row (inC.cells (sortI l)) true)) := (Chg.refl [j] (lowd t)).put _ (.inl (by simp)) hlt
    obtain ⟨t', g1, g2, g3, g4⟩ := acall_new hc hC (.inr (by show min t.next j < t.next; omega))
    refine ⟨t', g1, .inr ⟨j, by rw [sortI_len], ?_, h1, ?_⟩, hK.chgn g4 fun k hk => by simp at hk; subst hk; exact h1⟩
    · intro e
      have := congrArg List.length e
      rw [sortI_len] at this
      simp at this
      exact h0 this
    · rw [g2]
      exact St.get_put_same h2
theorem w_Srt {s : St} {p : Nat} {v : AV} {l : List Int} (hp : s.get p = some (.row [v] true)) (hr : AM.read inC s v = some l) (hl : l.length ≤ 100000) : ∀ env : Env, elen env = a28.ntmps → (∀ i x_, [.fn 40 [.ptr p 0]][i]? = some x_ → E env i = x_) → awp (tb [(38, conF inC pCl), (39, cSortI)]) a28.body (fun x e t => (∀ i, x ≠ .exit i) ∧ Keep s t ∧ ∃ w, aresults e t a28.results = some (mkR none w) ∧ Own inC s t w (sortI l)) env s := by
  intro env hlen ha
  have h0 : E env 0 = _ := ha 0 _ rfl
  have hlen : elen env = _ := hlen
  simp only [a28] at hlen
  unfold a28
  try dsimp only [oO, oG]
  obtain ⟨v1, t1, q1, hK1, hO1⟩ := acall_fresh (D := inC) (pCl_low hp hr hl) (fun x hx => by cases hx)
  have q1 : acall (conF inC pCl) false [.fn 40 [.ptr p 0]] s = some (v1, t1) := q1
  obtain ⟨t2, q2, hO2, hK2⟩ := q_sortI hO1 hK1 hl
  simp (config := {contextual := true, maxDischargeDepth := 12}) only [tb_at, h0, hlen, q1, q2, ↓bD, bU, forall_const, bS, implies_true, isNx, eq_self, ↓wp_cond, ↓wp_loop, ↓reduceIte, reduceCtorEq, Nat.reduceEqDiff, Nat.reduceLT, Nat.reduceAdd, Nat.reduceMul, bT, ↓sg_bsl, ↓st_callf, bX, ap_mkfn, ap_conv, ↓wi_seq, ↓wi_base, ↓wi_block, ↓wi_cond, ↓wi_loop, ↓wi_rf, ↓wy_seq, ↓wy_base, ↓wy_block, ↓wy_cond, ↓wy_loop, ↓wy_yld]
  all_goals first | exact ⟨hK2, _, rfl, hO2⟩ | exact ⟨hK2, hO2⟩ | skip
theorem s_Srt : SoundAt Try.prog 28 (conF inC pSrt) :=
  con_fresh (tb_sound (l := [(38, conF inC pCl), (39, cSortI)]) (by simpa using ⟨s_Col, s_sortI⟩)) mixed Try.func28 k28 c28 fun args s l e h => by
    unfold pSrt at h
    split at h
    · split at h
      · rename_i hp
        split at h
        · rename_i hr
          split at h
          · rename_i hl
            injection h with h
            obtain ⟨rfl, rfl⟩ := Prod.mk.inj h
            exact ⟨(fun x hx => by cases hx), by simp [a28], w_Srt hp hr hl⟩
          · cases h
        · cases h
      · cases h
    · cases h
theorem pSrt_low {p : Nat} {v : AV} {l : List Int} (hp : s.get p = some (.row [v] true)) (hr : AM.read inC s v = some l) (hl : l.length ≤ 100000) : pSrt [.fn 40 [.ptr p 0]] (lowd s) = some (sortI l, none) := by
  unfold pSrt
  simp only
  rw [show (lowd s).get p = some (.row [v] true) from hp]
  simp only
  rw [show AM.read inC (lowd s) v = some l from read_low' hr]
  simp only
  rw [if_pos hl]
noncomputable def R_Values : Con := runFn (tb []) a29
theorem s_Values : SoundAt Try.prog 29 R_Values := run_sound (tb_sound (l := []) (by simp)) mixed Try.func29 k29 c29
theorem n_Values : noNxtC a29.body = true := by kernel_rfl
noncomputable def R_repl : Con := runFn (tb []) a27
theorem s_repl : SoundAt Try.prog 27 R_repl := run_sound (tb_sound (l := []) (by simp)) mixed Try.func27 k27 c27
theorem n_repl : noNxtC a27.body = true := by kernel_rfl
theorem w_repl {s : St} (n : Int) : ∀ env : Env, elen env = a27.ntmps → (∀ i x_, [.int .i64 n][i]? = some x_ → E env i = x_) → awp (tb []) a27.body (fun x e t => (∀ i, x ≠ .exit i) ∧ aresults e t a27.results = some (.bool (decide (1 ≤ n) && decide (n ≤ 64))) ∧ Keep s t) env s := by
  intro env hlen ha
  have h0 : E env 0 = _ := ha 0 _ rfl
  have hlen : elen env = _ := hlen
  simp only [a27] at hlen
  unfold a27
  try dsimp only [oO, oG]
  by_cases c0 : 1 ≤ n
  · have z0 := eq_true c0
    simp (config := {contextual := true, maxDischargeDepth := 12}) only [tb_at, h0, hlen, z0, decide_true, Bool.true_and, pickV_t, pickV_f, ↓bD, bU, forall_const, bS, implies_true, isNx, eq_self, ↓wp_cond, ↓wp_loop, ↓reduceIte, reduceCtorEq, Nat.reduceEqDiff, Nat.reduceLT, Nat.reduceAdd, Nat.reduceMul, bT, ↓sg_bsl, ↓st_callf, bX, ap_mkfn, ap_conv, ↓wi_seq, ↓wi_base, ↓wi_block, ↓wi_cond, ↓wi_loop, ↓wi_rf, ↓wy_seq, ↓wy_base, ↓wy_block, ↓wy_cond, ↓wy_loop, ↓wy_yld]
    all_goals first | exact .refl s | skip
  · have z0 := eq_false c0
    simp (config := {contextual := true, maxDischargeDepth := 12}) only [tb_at, h0, hlen, z0, decide_false, Bool.false_and, pickV_t, pickV_f, ↓bD, bU, forall_const, bS, implies_true, isNx, eq_self, ↓wp_cond, ↓wp_loop, ↓reduceIte, reduceCtorEq, Nat.reduceEqDiff, Nat.reduceLT, Nat.reduceAdd, Nat.reduceMul, bT, ↓sg_bsl, ↓st_callf, bX, ap_mkfn, ap_conv, ↓wi_seq, ↓wi_base, ↓wi_block, ↓wi_cond, ↓wi_loop, ↓wi_rf, ↓wy_seq, ↓wy_base, ↓wy_block, ↓wy_cond, ↓wy_loop, ↓wy_yld]
    all_goals first | exact .refl s | skip
theorem q_repl (cl : Bool) {s : St} (n : Int) : acall R_repl cl [.int .i64 n] s = some (.bool (decide (1 ≤ n) && decide (n ≤ 64)), s) := run_same n_repl (by simp [a27]) rfl (w_repl (s := lowd s) n)
noncomputable def R_num : Con := runFn (tb []) a34
theorem s_num : SoundAt Try.prog 34 R_num := run_sound (tb_sound (l := []) (by simp)) mixed Try.func34 k34 c34
theorem n_num : noNxtC a34.body = true := by kernel_rfl
theorem w_num {s : St} (n : Int) : ∀ env : Env, elen env = a34.ntmps → (∀ i x_, [.int .i64 n][i]? = some x_ → E env i = x_) → awp (tb []) a34.body (fun x e t => (∀ i, x ≠ .exit i) ∧ aresults e t a34.results = some (.bool (decide (0 ≤ n) && decide (n ≤ 1099511627776))) ∧ Keep s t) env s := by
  intro env hlen ha
  have h0 : E env 0 = _ := ha 0 _ rfl
  have hlen : elen env = _ := hlen
  simp only [a34] at hlen
  unfold a34
  try dsimp only [oO, oG]
  by_cases c0 : 0 ≤ n
  · have z0 := eq_true c0
    simp (config := {contextual := true, maxDischargeDepth := 12}) only [tb_at, h0, hlen, z0, decide_true, Bool.true_and, pickV_t, pickV_f, ↓bD, bU, forall_const, bS, implies_true, isNx, eq_self, ↓wp_cond, ↓wp_loop, ↓reduceIte, reduceCtorEq, Nat.reduceEqDiff, Nat.reduceLT, Nat.reduceAdd, Nat.reduceMul, bT, ↓sg_bsl, ↓st_callf, bX, ap_mkfn, ap_conv, ↓wi_seq, ↓wi_base, ↓wi_block, ↓wi_cond, ↓wi_loop, ↓wi_rf, ↓wy_seq, ↓wy_base, ↓wy_block, ↓wy_cond, ↓wy_loop, ↓wy_yld]
    all_goals first | exact .refl s | skip
  · have z0 := eq_false c0
    simp (config := {contextual := true, maxDischargeDepth := 12}) only [tb_at, h0, hlen, z0, decide_false, Bool.false_and, pickV_t, pickV_f, ↓bD, bU, forall_const, bS, implies_true, isNx, eq_self, ↓wp_cond, ↓wp_loop, ↓reduceIte, reduceCtorEq, Nat.reduceEqDiff, Nat.reduceLT, Nat.reduceAdd, Nat.reduceMul, bT, ↓sg_bsl, ↓st_callf, bX, ap_mkfn, ap_conv, ↓wi_seq, ↓wi_base, ↓wi_block, ↓wi_cond, ↓wi_loop, ↓wi_rf, ↓wy_seq, ↓wy_base, ↓wy_block, ↓wy_cond, ↓wy_loop, ↓wy_yld]
    all_goals first | exact .refl s | skip
theorem q_num (cl : Bool) {s : St} (n : Int) : acall R_num cl [.int .i64 n] s = some (.bool (decide (0 ≤ n) && decide (n ≤ 1099511627776)), s) := run_same n_num (by simp [a34]) rfl (w_num (s := lowd s) n)
end Go.AM
end
/-
  The chapter's examples: 'known' answers true. Own work of this project; in part printed by a program of it.
-/
section
set_option maxRecDepth 100000
set_option maxHeartbeats 4000000
namespace Go.AM
open Go Go.Proofs

def tabK : Nat → AFun
  | 8 => .code a8
  | 18 => .code a18
  | 25 => .code a25
  | 19 => .code a19
  | 12 => .code a12
  | 13 => .code a13
  | 14 => .code a14
  | 15 => .code a15
  | 16 => .code a16
  | 17 => .code a17
  | 26 => .code a26
  | 33 => .code a33
  | 37 => .code a37
  | 42 => .code a42
  | 9 => .code a9
  | 27 => .code a27
  | 34 => .code a34
  | 29 => .code a29
  | 32 => .code a32
  | 41 => .code a41
  | 43 => .code a43
  | 47 => .code a47
  | 28 => .con (conF inC pSrt)
  | _ => .no
theorem tabK_ok : ∀ f, FunOk Try.prog f (tabK f) := by
  intro f
  unfold tabK
  split
  · exact ⟨k8, _, Try.func8, c8⟩
  · exact ⟨k18, _, Try.func18, c18⟩
  · exact ⟨k25, _, Try.func25, c25⟩
  · exact ⟨k19, _, Try.func19, c19⟩
  · exact ⟨k12, _, Try.func12, c12⟩
  · exact ⟨k13, _, Try.func13, c13⟩
  · exact ⟨k14, _, Try.func14, c14⟩
  · exact ⟨k15, _, Try.func15, c15⟩
  · exact ⟨k16, _, Try.func16, c16⟩
  · exact ⟨k17, _, Try.func17, c17⟩
  · exact ⟨k26, _, Try.func26, c26⟩
  · exact ⟨k33, _, Try.func33, c33⟩
  · exact ⟨k37, _, Try.func37, c37⟩
  · exact ⟨k42, _, Try.func42, c42⟩
  · exact ⟨k9, _, Try.func9, c9⟩
  · exact ⟨k27, _, Try.func27, c27⟩
  · exact ⟨k34, _, Try.func34, c34⟩
  · exact ⟨k29, _, Try.func29, c29⟩
  · exact ⟨k32, _, Try.func32, c32⟩
  · exact ⟨k41, _, Try.func41, c41⟩
  · exact ⟨k43, _, Try.func43, c43⟩
  · exact ⟨k47, _, Try.func47, c47⟩
  · exact s_Srt
  · trivial
theorem known_run : isTrue (acalls tabK 1000 14 8 [] St.empty) = true := by kernel_rfl
theorem s_known : SoundAt Try.prog 8 (closed [] (.bool true)) := by
  obtain ⟨s, hs⟩ := isTrue_ex known_run
  exact closed_sound (acalls_sound mixed tabK_ok 14 _) hs rfl
end Go.AM
end
/-
  What a replica knows: looking for a neighbour; nil and zero. Own work of this project; in part printed by a program of it.
-/
section
set_option maxRecDepth 100000
set_option maxHeartbeats 8000000
namespace Go.AM
open Go Go.Proofs

variable {s t u : St}

theorem q_known (cl : Bool) {s : St} : acall (closed [] (.bool true)) cl [] s = some (.bool true, s) := by simp [acall, closed, AV.ground, AV.plain, AV.plains]
structure Nb where
  r : Int
  e : Int
  a : Int
  g : Int
  deriving DecidableEq
def Nb.av (x : Nb) : List AV := [.int .i64 x.r, .int .i64 x.e, .int .i64 x.a, .int .i64 x.g]
def nbC : Cod Nb where
  sz := 4
  enc := Nb.av
  dec := fun cs => match cs with
    | [.int .i64 a, .int .i64 b, .int .i64 c, .int .i64 d] => some ⟨a, b, c, d⟩
    | _ => none
  pos := by decide
  len := fun _ => rfl
  plain := fun _ => rfl
  dec_enc := fun _ => rfl
  enc_dec := fun cs x h => by
    split at h
    · injection h with h; subst h; rfl
    · cases h
theorem nbC_sz : nbC.sz = 4 := rfl
theorem nb_lods {v : AV} {l : List Nb} (h : AM.read nbC s v = some l) {i : Nat} {x : Nb} (hi : l[i]? = some x) : iadV 4 v (.int .i64 (i : Int)) = some (.ptr (bid v) (boff v + i * 4)) ∧ lod s 4 (.ptr (bid v) (boff v + i * 4)) = some (.agg (Nb.av x)) ∧
    lod1 s (.ptr (bid v) (boff v + i * 4)) = some (.int .i64 x.r) ∧ lod1 s (.ptr (bid v) (boff v + i * 4 + 1)) = some (.int .i64 x.e) ∧ lod1 s (.ptr (bid v) (boff v + i * 4 + 2)) = some (.int .i64 x.a) ∧ lod1 s (.ptr (bid v) (boff v + i * 4 + 3)) = some (.int .i64 x.g) ∧ ltN (bid v) s := by
  have h1 := read_idx h hi .i64
  rw [nbC_sz] at h1
  have hl := read_lt h (Keep.refl s) hi
  refine ⟨h1, ?_⟩
  cases v with
  | nils => simp [AM.read] at h; subst h; simp at hi
  | sl id off n cap z =>
    obtain ⟨rfl, rfl, cs, own, hg, _, _, h5⟩ := read_sl h
    show lod s 4 (.ptr id (off + i * 4)) = _ ∧ lod1 s (.ptr id (off + i * 4)) = _ ∧ lod1 s (.ptr id (off + i * 4 + 1)) = _ ∧ lod1 s (.ptr id (off + i * 4 + 2)) = _ ∧ lod1 s (.ptr id (off + i * 4 + 3)) = _ ∧ _
    have one : ∀ k v, k < 4 → (Nb.av x)[k]? = some v → cs[off + i * 4 + k]? = some v := fun k v hk hv => by
      obtain ⟨_, k2⟩ := h5 i x hi k 1 (by rw [nbC_sz]; omega)
      rw [nbC_sz] at k2
      have e := congrArg (fun l => l[0]?) k2
      simpa [List.getElem?_take, List.getElem?_drop, show nbC.enc x = Nb.av x from rfl, hv] using e
    refine ⟨?_, ?_, ?_, ?_, ?_, hl⟩
    · obtain ⟨k1, k2⟩ := h5 i x hi 0 4 (by rw [nbC_sz]; omega)
      rw [nbC_sz, Nat.add_zero] at k1 k2
      simp only [lod, hg]
      rw [if_pos (by omega), k2]
      rfl
    · simp only [lod1, hg]; exact one 0 _ (by omega) rfl
    · simp only [lod1, hg]; exact one 1 _ (by omega) rfl
    · simp only [lod1, hg]; exact one 2 _ (by omega) rfl
    · simp only [lod1, hg]; exact one 3 _ (by omega) rfl
  | _ => simp [AM.read] at h
theorem box_nb {u : St} (s : St) (x : Nb) (hK : Keep (s.push (.row (Nb.av x) true)) u) : lod u 4 (.ptr s.next 0) = some (.agg (Nb.av x)) ∧ lod1 u (.ptr s.next 0) = some (.int .i64 x.r) ∧ lod1 u (.ptr s.next 1) = some (.int .i64 x.e) ∧ lod1 u (.ptr s.next 2) = some (.int .i64 x.a) ∧ lod1 u (.ptr s.next 3) = some (.int .i64 x.g) ∧ ltN s.next u := by
  have hg := hK.blk (St.get_push_new s (.row (Nb.av x) true))
  refine ⟨?_, ?_, ?_, ?_, ?_, St.get_lt hg⟩ <;> simp [lod, lod1, hg, Nb.av]
theorem bin_shr1 (n : Nat) : binOp .shr .no (.int .u64 (n : Int)) (.int .u64 1) = some (.int .u64 ((n / 2 : Nat) : Int)) := by
  simp only [binOp, shOp]
  have h1 : ¬ ((1 : Int) < 0) := by decide
  have h2 : (2 : Int) ^ (min (Int.toNat 1) IntKind.u64.bits) = 2 := by decide
  rw [if_neg h1, h2]
  have : Int.fdiv (n : Int) 2 = ((n / 2 : Nat) : Int) := by
    rw [Int.fdiv_eq_ediv_of_nonneg _ (by decide)]
    omega
  simp only [this]
/-- Nil or zero. -/
def Zk (s : St) (d : AV) : Prop := d = .nilp ∨ ∃ id own v, d = .ptr id 0 ∧ s.get id = some (.row [.int .i64 0, v] own)
theorem Zk.keep {d : AV} (h : Zk s d) (hK : Keep s t) : Zk t d := h.imp (fun q => q) fun ⟨id, own, v, e, g⟩ => ⟨id, own, v, e, hK.blk g⟩
theorem Zk.low {d : AV} (h : Zk s d) : Zk (lowd s) d := h.keep (keep_low s)
def cmpK (a b : Int) : Int := if a < b then -1 else if b < a then 1 else 0
noncomputable def R_NaN : Con := runFn (tb []) a47
theorem s_NaN : SoundAt Try.prog 47 R_NaN := run_sound (tb_sound (l := []) (by simp)) mixed Try.func47 k47 c47
theorem n_NaN : noNxtC a47.body = true := by kernel_rfl
theorem w_NaN {s : St} (n : Int) : ∀ env : Env, elen env = a47.ntmps → (∀ i x_, [.int .i64 n][i]? = some x_ → E env i = x_) → awp (tb []) a47.body (fun x e t => (∀ i, x ≠ .exit i) ∧ aresults e t a47.results = some (.bool false) ∧ Keep s t) env s := by
  intro env hlen ha
  have h0 : E env 0 = _ := ha 0 _ rfl
  have hlen : elen env = _ := hlen
  simp only [a47] at hlen
  unfold a47
  try dsimp only [oO, oG]
  simp (config := {contextual := true, maxDischargeDepth := 12}) only [tb_at, h0, hlen, ↓bD, bU, forall_const, bS, implies_true, isNx, eq_self, ↓wp_cond, ↓wp_loop, ↓reduceIte, reduceCtorEq, Nat.reduceEqDiff, Nat.reduceLT, Nat.reduceAdd, Nat.reduceMul, bT, ↓sg_bsl, ↓st_callf, bX, ap_mkfn, ap_conv, ↓wi_seq, ↓wi_base, ↓wi_block, ↓wi_cond, ↓wi_loop, ↓wi_rf, ↓wy_seq, ↓wy_base, ↓wy_block, ↓wy_cond, ↓wy_loop, ↓wy_yld, bin_shr1]
  all_goals first | exact .refl s | skip
theorem q_NaN (cl : Bool) {s : St} (n : Int) : acall R_NaN cl [.int .i64 n] s = some (.bool false, s) := run_same n_NaN (by simp [a47]) rfl (w_NaN (s := lowd s) n)
noncomputable def R_Cmp : Con := runFn (tb [(47, R_NaN)]) a43
theorem s_Cmp : SoundAt Try.prog 43 R_Cmp := run_sound (tb_sound (l := [(47, R_NaN)]) (by simpa using s_NaN)) mixed Try.func43 k43 c43
theorem n_Cmp : noNxtC a43.body = true := by kernel_rfl
theorem w_Cmp {s : St} (a b : Int) : ∀ env : Env, elen env = a43.ntmps → (∀ i x_, [.int .i64 a, .int .i64 b][i]? = some x_ → E env i = x_) → awp (tb [(47, R_NaN)]) a43.body (fun x e t => (∀ i, x ≠ .exit i) ∧ aresults e t a43.results = some (.int .i64 (cmpK a b)) ∧ Keep s t) env s := by
  intro env hlen ha
  have h0 : E env 0 = _ := ha 0 _ rfl
  have h1 : E env 1 = _ := ha 1 _ rfl
  have hlen : elen env = _ := hlen
  simp only [a43] at hlen
  unfold a43
  try dsimp only [oO, oG]
  have q1 := q_NaN false a (s := s)
  have q2 := q_NaN false b (s := s)
  by_cases c1 : a < b
  · have z1 := eq_true c1
    have hS : cmpK a b = -1 := by unfold cmpK; rw [if_pos c1]
    rw [hS]
    simp (config := {contextual := true, maxDischargeDepth := 12}) only [tb_at, h0, h1, hlen, q1, q2, z1, ↓bD, bU, forall_const, bS, implies_true, isNx, eq_self, ↓wp_cond, ↓wp_loop, ↓reduceIte, reduceCtorEq, Nat.reduceEqDiff, Nat.reduceLT, Nat.reduceAdd, Nat.reduceMul, bT, ↓sg_bsl, ↓st_callf, bX, ap_mkfn, ap_conv, ↓wi_seq, ↓wi_base, ↓wi_block, ↓wi_cond, ↓wi_loop, ↓wi_rf, ↓wy_seq, ↓wy_base, ↓wy_block, ↓wy_cond, ↓wy_loop, ↓wy_yld, bin_shr1]
    all_goals first | exact .refl s | skip
  have z1 := eq_false c1
  by_cases c2 : b < a
  · have z2 := eq_true c2
    have hS : cmpK a b = 1 := by unfold cmpK; rw [if_neg c1, if_pos c2]
    rw [hS]
    simp (config := {contextual := true, maxDischargeDepth := 12}) only [tb_at, h0, h1, hlen, q1, q2, z1, z2, ↓bD, bU, forall_const, bS, implies_true, isNx, eq_self, ↓wp_cond, ↓wp_loop, ↓reduceIte, reduceCtorEq, Nat.reduceEqDiff, Nat.reduceLT, Nat.reduceAdd, Nat.reduceMul, bT, ↓sg_bsl, ↓st_callf, bX, ap_mkfn, ap_conv, ↓wi_seq, ↓wi_base, ↓wi_block, ↓wi_cond, ↓wi_loop, ↓wi_rf, ↓wy_seq, ↓wy_base, ↓wy_block, ↓wy_cond, ↓wy_loop, ↓wy_yld, bin_shr1]
    all_goals first | exact .refl s | skip
  have z2 := eq_false c2
  have hS : cmpK a b = 0 := by unfold cmpK; rw [if_neg c1, if_neg c2]
  rw [hS]
  simp (config := {contextual := true, maxDischargeDepth := 12}) only [tb_at, h0, h1, hlen, q1, q2, z1, z2, ↓bD, bU, forall_const, bS, implies_true, isNx, eq_self, ↓wp_cond, ↓wp_loop, ↓reduceIte, reduceCtorEq, Nat.reduceEqDiff, Nat.reduceLT, Nat.reduceAdd, Nat.reduceMul, bT, ↓sg_bsl, ↓st_callf, bX, ap_mkfn, ap_conv, ↓wi_seq, ↓wi_base, ↓wi_block, ↓wi_cond, ↓wi_loop, ↓wi_rf, ↓wy_seq, ↓wy_base, ↓wy_block, ↓wy_cond, ↓wy_loop, ↓wy_yld, bin_shr1]
  all_goals first | exact .refl s | skip
theorem q_Cmp (cl : Bool) {s : St} (a b : Int) : acall R_Cmp cl [.int .i64 a, .int .i64 b] s = some (.int .i64 (cmpK a b), s) := run_same n_Cmp (by simp [a43]) rfl (w_Cmp (s := lowd s) a b)
noncomputable def R_FD1 : Con := runFn (tb [(43, R_Cmp)]) a42
theorem s_FD1 : SoundAt Try.prog 42 R_FD1 := run_sound (tb_sound (l := [(43, R_Cmp)]) (by simpa using s_Cmp)) mixed Try.func42 k42 c42
theorem n_FD1 : noNxtC a42.body = true := by kernel_rfl
theorem w_FD1 {s : St} (y : Nb) (n : Int) : ∀ env : Env, elen env = a42.ntmps → (∀ i x_, [.agg (Nb.av y), .int .i64 n][i]? = some x_ → E env i = x_) → awp (tb [(43, R_Cmp)]) a42.body (fun x e t => (∀ i, x ≠ .exit i) ∧ aresults e t a42.results = some (.int .i64 (cmpK y.r n)) ∧ Keep s t) env s := by
  intro env hlen ha
  have h0 : E env 0 = _ := ha 0 _ rfl
  have h1 : E env 1 = _ := ha 1 _ rfl
  have hlen : elen env = _ := hlen
  simp only [a42] at hlen
  unfold a42
  try dsimp only [oO, oG]
  have hbx : boxV 4 (.agg (Nb.av y)) = some (fun id => .ptr id 0, .row (Nb.av y) true) := by simp [boxV, AV.cells, AV.one, Nb.av]
  obtain ⟨b0, b1, b2, b3, b4, b5⟩ := box_nb s y (.refl _)
  have hK1 : Keep s (s.push (.row (Nb.av y) true)) := (Keep.refl s).push _
  have q := q_Cmp false y.r n (s := s.push (.row (Nb.av y) true))
  simp (config := {contextual := true, maxDischargeDepth := 12}) only [tb_at, h0, h1, hlen, hbx, b1, b5, q, ↓bD, bU, forall_const, bS, implies_true, isNx, eq_self, ↓wp_cond, ↓wp_loop, ↓reduceIte, reduceCtorEq, Nat.reduceEqDiff, Nat.reduceLT, Nat.reduceAdd, Nat.reduceMul, bT, ↓sg_bsl, ↓st_callf, bX, ap_mkfn, ap_conv, ↓wi_seq, ↓wi_base, ↓wi_block, ↓wi_cond, ↓wi_loop, ↓wi_rf, ↓wy_seq, ↓wy_base, ↓wy_block, ↓wy_cond, ↓wy_loop, ↓wy_yld, bin_shr1]
  all_goals first | exact hK1 | skip
theorem q_FD1 (cl : Bool) {s : St} (y : Nb) (n : Int) : acall R_FD1 cl [.agg (Nb.av y), .int .i64 n] s = some (.int .i64 (cmpK y.r n), s) := run_same n_FD1 (by simp [a42]) rfl (w_FD1 (s := lowd s) y n)
noncomputable def R_BSF : Con := runFn (tb [(42, R_FD1)]) a41
theorem s_BSF : SoundAt Try.prog 41 R_BSF := run_sound (tb_sound (l := [(42, R_FD1)]) (by simpa using s_FD1)) mixed Try.func41 k41 c41
theorem n_BSF : noNxtC a41.body = true := by kernel_rfl
noncomputable def R_Repl : Con := runFn (tb []) a26
theorem s_Repl : SoundAt Try.prog 26 R_Repl := run_sound (tb_sound (l := []) (by simp)) mixed Try.func26 k26 c26
theorem n_Repl : noNxtC a26.body = true := by kernel_rfl
noncomputable def R_find : Con := runFn (tb [(26, R_Repl), (41, R_BSF)]) a33
theorem s_find : SoundAt Try.prog 33 R_find := run_sound (tb_sound (l := [(26, R_Repl), (41, R_BSF)]) (by simpa using ⟨s_Repl, s_BSF⟩)) mixed Try.func33 k33 c33
theorem n_find : noNxtC a33.body = true := by kernel_rfl
noncomputable def R_Meet : Con := runFn (tb [(33, R_find)]) a15
theorem s_Meet : SoundAt Try.prog 15 R_Meet := run_sound (tb_sound (l := [(33, R_find)]) (by simpa using s_find)) mixed Try.func15 k15 c15
theorem n_Meet : noNxtC a15.body = true := by kernel_rfl
noncomputable def R_Ack : Con := runFn (tb [(33, R_find), (34, R_num)]) a13
theorem s_Ack : SoundAt Try.prog 13 R_Ack := run_sound (tb_sound (l := [(33, R_find), (34, R_num)]) (by simpa using ⟨s_find, s_num⟩)) mixed Try.func13 k13 c13
theorem n_Ack : noNxtC a13.body = true := by kernel_rfl
noncomputable def R_Recv : Con := runFn (tb [(33, R_find), (34, R_num)]) a16
theorem s_Recv : SoundAt Try.prog 16 R_Recv := run_sound (tb_sound (l := [(33, R_find), (34, R_num)]) (by simpa using ⟨s_find, s_num⟩)) mixed Try.func16 k16 c16
theorem n_Recv : noNxtC a16.body = true := by kernel_rfl
noncomputable def R_Jump : Con := runFn (tb [(33, R_find), (34, R_num)]) a17
theorem s_Jump : SoundAt Try.prog 17 R_Jump := run_sound (tb_sound (l := [(33, R_find), (34, R_num)]) (by simpa using ⟨s_find, s_num⟩)) mixed Try.func17 k17 c17
theorem n_Jump : noNxtC a17.body = true := by kernel_rfl
noncomputable def R_Clone : Con := runFn (tb []) a32
theorem s_Clone : SoundAt Try.prog 32 R_Clone := run_sound (tb_sound (l := []) (by simp)) mixed Try.func32 k32 c32
theorem n_Clone : noNxtC a32.body = true := by kernel_rfl
noncomputable def R_All : Con := runFn (tb [(26, R_Repl), (32, R_Clone)]) a12
theorem s_All : SoundAt Try.prog 12 R_All := run_sound (tb_sound (l := [(26, R_Repl), (32, R_Clone)]) (by simpa using ⟨s_Repl, s_Clone⟩)) mixed Try.func12 k12 c12
theorem n_All : noNxtC a12.body = true := by kernel_rfl
noncomputable def R_Needed : Con := runFn (tb [(26, R_Repl)]) a14
theorem s_Needed : SoundAt Try.prog 14 R_Needed := run_sound (tb_sound (l := [(26, R_Repl)]) (by simpa using s_Repl)) mixed Try.func14 k14 c14
theorem n_Needed : noNxtC a14.body = true := by kernel_rfl
theorem sto_z4 {m : Nat} {t : St} (h : sameN m t) (a b c d : Int) (cs : List AV) (hcs : cs.length = 4) : sto (t.push (.row cs true)) 4 (.ptr m 0) (.agg [.int .i64 a, .int .i64 b, .int .i64 c, .int .i64 d]) = some (.und, t.lowed.push (.row [.int .i64 a, .int .i64 b, .int .i64 c, .int .i64 d] true)) := by
  unfold sameN at h
  subst h
  simp only [sto, St.get_push_new, push_put]
  rw [if_pos ⟨rfl, rfl, by rw [hcs]; exact Nat.le_refl _⟩]
  have : setAt cs 0 (AV.agg [.int .i64 a, .int .i64 b, .int .i64 c, .int .i64 d]).cells = [.int .i64 a, .int .i64 b, .int .i64 c, .int .i64 d] := by
    have e : cs.drop 4 = [] := List.drop_eq_nil_of_le (by omega)
    simp [setAt, AV.cells, e]
  rw [this]
theorem bin_neb4 (a b : Nb) : binOp .neq (.fl [.i, .i, .i, .i]) (.agg (Nb.av a)) (.agg (Nb.av b)) = some (.bool (!decide (a = b))) := by
  obtain ⟨a1, a2, a3, a4⟩ := a
  obtain ⟨b1, b2, b3, b4⟩ := b
  simp [binOp, eqV, eqL, eqF, Nb.av, beq_dec, and_assoc]
end Go.AM
end
/-
  What a replica knows: Meet, Ack, Receive, Jump. Own work of this project; in part printed by a program of it.
-/
section
set_option maxRecDepth 100000
set_option maxHeartbeats 8000000
namespace Go.AM
open Go Go.Proofs

variable {s t u : St}

def callvV (call : Nat → List AV → St → Option (AV × St)) (f : AV) (args : List AV) (s : St) : Option (AV × St) := match f with
  | .fn g caps => acall (call g) false (args ++ caps) s
  | _ => none
theorem ae_callvV {call : Nat → List AV → St → Option (AV × St)} {env : Env} (x : AO) (l : List AO) : aeff call env s (.callv x false l) = callvV call (aev env x) (l.map (aev env)) s := nrfl rfl
theorem callvV_fn {call : Nat → List AV → St → Option (AV × St)} (g : Nat) (caps args : List AV) : callvV call (.fn g caps) args s = acall (call g) false (args ++ caps) s := nrfl rfl
theorem run_any {call : Nat → List AV → St → Option (AV × St)} {fn : AFn} (hn : noNxtC fn.body = true) {args : List AV} (hl : args.length ≤ fn.ntmps) {s : St} {Q : AV → St → Prop} (hQ : ∀ r t t', (∀ id, t'.get id = t.get id) → t'.next = t.next → Q r t → Q r t') (hg : ∀ r t, r.ground = true → Keep s t → Q r t → Q r s)
    (h : ∀ env : Env, elen env = fn.ntmps → (∀ i v, args[i]? = some v → E env i = v) → awp call fn.body (fun x e t => (∀ i, x ≠ .exit i) ∧ ∃ r, aresults e t fn.results = some r ∧ Q r t ∧ Keep (lowd s) t) env (lowd s)) :
    ∃ r t, acall (runFn call fn) false args s = some (r, t) ∧ Q r t ∧ Keep s t := by
  obtain ⟨r, t, h1, h2, h3⟩ := run_awp hn hl (Q := fun r t => Q r t ∧ Keep (lowd s) t) h
  have hk0 : Keep s (lowd s) := ⟨Nat.le_refl _, fun _ _ => rfl, Nat.min_le_right _ _⟩
  by_cases hgr : r.ground = true
  · exact ⟨r, s, acall_same h1 h3 hgr, hg r t hgr (hk0.trans h3) h2, .refl s⟩
  · obtain ⟨t', g1, g2, g3, g4⟩ := acall_new h1 (h3.chg []) (.inl (by simpa using hgr))
    exact ⟨r, t', g1, hQ r t t' g2 g3 h2, g4.keep⟩
/-! ### A disk -/
theorem run_chg {P : Program} {f : Nat} {c : Con} (hS : SoundAt P f c) {args : List AV} {M : List Nat} {t : St} {r : AV} (h : c args (lowd s) = some (r, t)) (hC : Chg M (lowd s) t) : ∃ t', acall c false args s = some (r, t') ∧ (∀ id, id < s.next → t'.get id = t.get id) ∧ (r.ground = false → ∀ id, t'.get id = t.get id) ∧ Chg M s t' := by
  by_cases hg : r.ground = true ∧ s.next ≤ t.low
  · obtain ⟨_, ⟨_, _, _, hk⟩, _⟩ := hS args (lowd s) r t h
    refine ⟨s, ?_, fun id hid => (hk id hid (Nat.lt_of_lt_of_le hid hg.2)).symm, (fun q => absurd (hg.1.symm.trans q) (by decide)), Chg.refl _ _⟩
    simp only [acall]
    rw [show ({ heap := s.heap, next := s.next, low := s.next } : St) = lowd s from rfl, h]
    simp [hg.1, hg.2]
  · have hng : r.ground = false ∨ t.low < s.next := by
      by_cases q : r.ground = true
      · exact .inr (Nat.lt_of_not_le fun k => hg ⟨q, k⟩)
      · exact .inl (by simpa using q)
    obtain ⟨t', g1, g2, g3, g4⟩ := acall_new h hC hng
    exact ⟨t', g1, fun id _ => g2 id, fun _ => g2, g4⟩

theorem set_id {α : Type} {l : List α} {i : Nat} {x : α} (h : l[i]? = some x) : l.set i x = l := by
  refine List.ext_getElem? fun k => ?_
  by_cases hk : k = i
  · subst hk
    rw [List.getElem?_set_self (getlt h), h]
  · rw [List.getElem?_set_ne (Ne.symm hk)]
/-! ### Looking for a neighbour -/
def fndB : List Nb → Int → Option Nat
  | [], _ => none
  | x :: r, n => if x.r = n then some 0 else (fndB r n).map (· + 1)
theorem fndB_some : ∀ {L : List Nb} {n : Int} {i : Nat}, fndB L n = some i → ∃ x, L[i]? = some x ∧ x.r = n
  | [], n, i, h => by simp [fndB] at h
  | x :: r, n, i, h => by
    unfold fndB at h
    split at h
    · rename_i hx
      injection h with h
      subst h
      exact ⟨x, rfl, hx⟩
    · obtain ⟨k, hk, rfl⟩ := Option.map_eq_some_iff.1 h
      obtain ⟨y, hy, e⟩ := fndB_some hk
      exact ⟨y, by simpa using hy, e⟩
theorem fndB_hit : ∀ {L : List Nb} {n : Int} {i : Nat} {x : Nb}, L[i]? = some x → x.r = n → (∀ (k : Nat) (y : Nb), k < i → L[k]? = some y → y.r ≠ n) → fndB L n = some i
  | [], n, i, x, h, _, _ => by simp at h
  | y :: r, n, 0, x, h, hx, _ => by
    simp at h
    subst h
    unfold fndB
    rw [if_pos hx]
  | y :: r, n, i + 1, x, h, hx, hp => by
    unfold fndB
    rw [if_neg (hp 0 y (by omega) rfl), fndB_hit (L := r) (i := i) (by simpa using h) hx fun k z hk hz => hp (k + 1) z (by omega) (by simpa using hz)]
    rfl
theorem fndB_miss {L : List Nb} {n : Int} (h : ∀ (k : Nat) (y : Nb), L[k]? = some y → y.r ≠ n) : fndB L n = none := by
  cases hf : fndB L n with
  | none => rfl
  | some i =>
    obtain ⟨x, hx, e⟩ := fndB_some hf
    exact absurd e (h i x hx)
def SrtB (L : List Nb) : Prop := L.Pairwise fun a b => a.r < b.r
theorem SrtB.lt {L : List Nb} (h : SrtB L) {i j : Nat} {x y : Nb} (hx : L[i]? = some x) (hy : L[j]? = some y) (hij : i < j) : x.r < y.r := by
  have h1 := getlt hx
  have h2 := getlt hy
  have := List.pairwise_iff_getElem.1 h i j h1 h2 hij
  have e1 := (List.getElem?_eq_some_iff.1 hx).2
  have e2 := (List.getElem?_eq_some_iff.1 hy).2
  rw [e1, e2] at this
  exact this
def kI (L : List Nb) (n : Int) : Nat := L.countP fun x => decide (x.r < n)
theorem kI_eq {L : List Nb} {n : Int} {i : Nat} (hi : i ≤ L.length) (h1 : ∀ (k : Nat) (y : Nb), k < i → L[k]? = some y → y.r < n) (h2 : ∀ (k : Nat) (y : Nb), i ≤ k → L[k]? = some y → n ≤ y.r) : kI L n = i := by
  unfold kI
  rw [← List.take_append_drop i L, List.countP_append]
  have e1 : (L.take i).countP (fun x => decide (x.r < n)) = (L.take i).length := by
    rw [List.countP_eq_length]
    intro x hx
    obtain ⟨k, hk⟩ := List.mem_iff_getElem?.1 hx
    have hk2 := getlt hk
    rw [List.length_take] at hk2
    rw [List.getElem?_take_of_lt (by omega)] at hk
    simpa using h1 k x (by omega) hk
  have e2 : (L.drop i).countP (fun x => decide (x.r < n)) = 0 := by
    rw [List.countP_eq_zero]
    intro x hx
    obtain ⟨k, hk⟩ := List.mem_iff_getElem?.1 hx
    rw [List.getElem?_drop] at hk
    have := h2 (i + k) x (by omega) hk
    simp only [decide_eq_true_eq]
    omega
  rw [e1, e2, List.length_take]
  omega
def fB (L : List Nb) (n : Int) : Bool := match L[kI L n]? with
  | some x => decide (x.r = n)
  | none => false
theorem srch {L : List Nb} (hs : SrtB L) {n : Int} {i : Nat} (hi : i ≤ L.length) (h1 : ∀ (k : Nat) (y : Nb), k < i → L[k]? = some y → y.r < n) (h2 : ∀ (k : Nat) (y : Nb), i ≤ k → L[k]? = some y → n ≤ y.r) : fndB L n = if fB L n = true then some (kI L n) else none := by
  have hk := kI_eq hi h1 h2
  cases hx : L[i]? with
  | none =>
    have hfb : fB L n = false := by unfold fB; rw [hk, hx]
    rw [hfb, if_neg (by decide)]
    exact fndB_miss fun k y hy => by
      by_cases hki : k < i
      · have := h1 k y hki hy; omega
      · have hil := List.getElem?_eq_none_iff.1 hx
        have := getlt hy
        omega
  | some x =>
    have hfb : fB L n = decide (x.r = n) := by unfold fB; rw [hk, hx]
    by_cases e : x.r = n
    · rw [decide_eq_true e] at hfb
      rw [hfb, if_pos rfl, hk]
      exact fndB_hit hx e fun k y hki hy => by have := h1 k y hki hy; omega
    · rw [decide_eq_false e] at hfb
      rw [hfb, if_neg (by decide)]
      exact fndB_miss fun k y hy => by
        by_cases hki : k < i
        · have := h1 k y hki hy; omega
        · by_cases hke : k = i
          · subst hke
            rw [hx] at hy; injection hy with hy; subst hy
            exact e
          · have := hs.lt hx hy (by omega)
            have := h2 i x (Nat.le_refl _) hx
            omega
/-! ### The memory -/
def akV (j : Nat) (cap : Option Nat) (L : List Nb) : AV := if L = [] then .nils else .sl j 0 L.length cap 4
structure AkR (t : St) (id j : Nat) (cap : Option Nat) (rep : Int) (L : List Nb) : Prop where
  box : t.get id = some (.row [.int .i64 rep, akV j cap L] true)
  dat : L ≠ [] → t.get j = some (.row (nbC.cells L) true)
  hcap : ∀ c, cap = some c → c = L.length
  hn : L.length ≤ 100
  jlt : j < t.next
theorem AkR.keep {id j : Nat} {cap : Option Nat} {rep : Int} {L : List Nb} (h : AkR t id j cap rep L) (hK : Keep t u) : AkR u id j cap rep L := ⟨hK.blk h.box, fun q => hK.blk (h.dat q), h.hcap, h.hn, Nat.lt_of_lt_of_le h.jlt hK.next⟩
theorem AkR.low {id j : Nat} {cap : Option Nat} {rep : Int} {L : List Nb} (h : AkR s id j cap rep L) : AkR (lowd s) id j cap rep L := h.keep (keep_low s)
theorem AkR.chg {M : List Nat} {id j : Nat} {cap : Option Nat} {rep : Int} {L : List Nb} (h : AkR t id j cap rep L) (hC : Chg M t u) (h1 : id ∉ M) (h2 : j ∉ M) : AkR u id j cap rep L := ⟨hC.blk h.box h1, fun q => hC.blk (h.dat q) h2, h.hcap, h.hn, Nat.lt_of_lt_of_le h.jlt hC.next⟩
theorem AkR.rd {id j : Nat} {cap : Option Nat} {rep : Int} {L : List Nb} (h : AkR t id j cap rep L) : AM.read nbC t (akV j cap L) = some L := by
  unfold akV
  split
  · rename_i e
    rw [e]
    rfl
  · rename_i e
    refine read_of rfl (h.dat e) (by simp [cells_len]) ?_
    rw [List.drop_zero, ← cells_len]
    simp
theorem AkR.lenV {id j : Nat} {cap : Option Nat} {rep : Int} {L : List Nb} (h : AkR t id j cap rep L) : AM.lenV (akV j cap L) = some (.int .i64 (L.length : Int)) := lenV_read h.rd
theorem AkR.at {id j i : Nat} {cap : Option Nat} {rep : Int} {L : List Nb} {x : Nb} (h : AkR t id j cap rep L) (hx : L[i]? = some x) : iadV 4 (akV j cap L) (.int .i64 (i : Int)) = some (.ptr j (i * 4)) ∧ lod t 4 (.ptr j (i * 4)) = some (.agg (Nb.av x)) ∧ lod1 t (.ptr j (i * 4)) = some (.int .i64 x.r) ∧ lod1 t (.ptr j (i * 4 + 1)) = some (.int .i64 x.e) ∧ lod1 t (.ptr j (i * 4 + 2)) = some (.int .i64 x.a) ∧ lod1 t (.ptr j (i * 4 + 3)) = some (.int .i64 x.g) ∧ ltN j t := by
  have hL : L ≠ [] := fun e => by rw [e] at hx; simp at hx
  have e : akV j cap L = .sl j 0 L.length cap 4 := by unfold akV; rw [if_neg hL]
  have := nb_lods h.rd hx
  rw [e] at this ⊢
  simpa [bid, boff] using this
theorem AkR.ne {id j : Nat} {cap : Option Nat} {rep : Int} {L : List Nb} (h : AkR t id j cap rep L) (hL : L ≠ []) : id ≠ j := by
  rintro rfl
  have h1 := h.dat hL
  rw [h.box] at h1
  injection h1 with h1
  injection h1 with h1 _
  have := congrArg List.length h1
  rw [cells_len, nbC_sz] at this
  simp at this
  omega
theorem cells_cons4 (x : Nb) (l : List Nb) : nbC.cells (x :: l) = .int .i64 x.r :: .int .i64 x.e :: .int .i64 x.a :: .int .i64 x.g :: nbC.cells l := by rw [cells_cons]; rfl
theorem cells_set4 (y : Nb) : ∀ {L : List Nb} {i : Nat}, i < L.length → setAt (nbC.cells L) (i * 4) (Nb.av y) = nbC.cells (L.set i y)
  | [], i, h => by simp at h
  | x :: l, 0, _ => by
    rw [List.set_cons_zero, cells_cons4, cells_cons4]
    simp [setAt, Nb.av]
  | x :: l, i + 1, h => by
    have := cells_set4 y (L := l) (i := i) (by simpa using h)
    rw [List.set_cons_succ, cells_cons4, cells_cons4, ← this]
    simp only [setAt]
    rw [show (i + 1) * 4 = i * 4 + 1 + 1 + 1 + 1 by omega]
    simp
    rw [show i * 4 + 1 + 1 + 1 + 1 + (Nb.av y).length = i * 4 + (Nb.av y).length + 1 + 1 + 1 + 1 by omega]
    simp
theorem cells_set_a (v : Int) : ∀ {L : List Nb} {i : Nat} {x : Nb}, L[i]? = some x → setAt (nbC.cells L) (i * 4 + 2) [.int .i64 v] = nbC.cells (L.set i { x with a := v })
  | [], i, x, h => by simp at h
  | z :: l, 0, x, h => by
    simp at h
    subst h
    rw [List.set_cons_zero, cells_cons4, cells_cons4]
    simp [setAt]
  | z :: l, i + 1, x, h => by
    have := cells_set_a v (L := l) (i := i) (x := x) (by simpa using h)
    rw [List.set_cons_succ, cells_cons4, cells_cons4, ← this]
    simp only [setAt]
    rw [show (i + 1) * 4 + 2 = i * 4 + 2 + 1 + 1 + 1 + 1 by omega]
    simp
theorem cells_set_g (v : Int) : ∀ {L : List Nb} {i : Nat} {x : Nb}, L[i]? = some x → setAt (nbC.cells L) (i * 4 + 3) [.int .i64 v] = nbC.cells (L.set i { x with g := v })
  | [], i, x, h => by simp at h
  | z :: l, 0, x, h => by
    simp at h
    subst h
    rw [List.set_cons_zero, cells_cons4, cells_cons4]
    simp [setAt]
  | z :: l, i + 1, x, h => by
    have := cells_set_g v (L := l) (i := i) (x := x) (by simpa using h)
    rw [List.set_cons_succ, cells_cons4, cells_cons4, ← this]
    simp only [setAt]
    rw [show (i + 1) * 4 + 3 = i * 4 + 3 + 1 + 1 + 1 + 1 by omega]
    simp
theorem AkR.sto {id j i : Nat} {cap : Option Nat} {rep : Int} {L : List Nb} {x : Nb} (h : AkR t id j cap rep L) (hx : L[i]? = some x) :
    (∀ y : Nb, AM.sto t 4 (.ptr j (i * 4)) (.agg (Nb.av y)) = some (.und, t.put j (.row (nbC.cells (L.set i y)) true))) ∧
    (∀ v : Int, AM.sto t 1 (.ptr j (i * 4 + 2)) (.int .i64 v) = some (.und, t.put j (.row (nbC.cells (L.set i { x with a := v })) true))) ∧
    (∀ v : Int, AM.sto t 1 (.ptr j (i * 4 + 3)) (.int .i64 v) = some (.und, t.put j (.row (nbC.cells (L.set i { x with g := v })) true))) ∧
    (∀ y : Nb, AkR (t.put j (.row (nbC.cells (L.set i y)) true)) id j cap rep (L.set i y)) := by
  have hL : L ≠ [] := fun e => by rw [e] at hx; simp at hx
  have hi := getlt hx
  have hd := h.dat hL
  have hlt := St.get_lt hd
  have hcl : (nbC.cells L).length = L.length * 4 := by rw [cells_len, nbC_sz]
  refine ⟨fun y => ?_, fun v => ?_, fun v => ?_, fun y => ⟨?_, fun _ => St.get_put_same hd, fun c hc => by rw [List.length_set]; exact h.hcap c hc, by rw [List.length_set]; exact h.hn, by simpa using h.jlt⟩⟩
  · simp only [AM.sto, hd]
    rw [if_pos ⟨rfl, rfl, by omega⟩]
    show some (AV.und, t.put j (.row (setAt (nbC.cells L) (i * 4) (Nb.av y)) true)) = _
    rw [cells_set4 y hi]
  · simp only [AM.sto, hd]
    rw [if_pos ⟨rfl, rfl, by omega⟩]
    show some (AV.und, t.put j (.row (setAt (nbC.cells L) (i * 4 + 2) [.int .i64 v]) true)) = _
    rw [cells_set_a v hx]
  · simp only [AM.sto, hd]
    rw [if_pos ⟨rfl, rfl, by omega⟩]
    show some (AV.und, t.put j (.row (setAt (nbC.cells L) (i * 4 + 3) [.int .i64 v]) true)) = _
    rw [cells_set_g v hx]
  · rw [St.get_put_ne _ _ hlt (h.ne hL), h.box]
    unfold akV
    have hne : L.set i y ≠ [] := fun e => by
      have := congrArg List.length e
      rw [List.length_set] at this
      simp at this
      exact hL this
    rw [if_neg hL, if_neg hne, List.length_set]
/-! ### What the calls do -/
def numI (n : Int) : Bool := decide (0 ≤ n) && decide (n ≤ 1099511627776)
def opL (f : Nb → Int × Nb) (L : List Nb) (n : Int) : Int × List Nb := match fndB L n with
  | none => (2, L)
  | some i => match L[i]? with
    | none => (2, L)
    | some x => ((f x).1, L.set i (f x).2)
def meetF (n e : Int) (x : Nb) : Int × Nb := if e < 0 ∨ 1073741824 < e then (2, x) else if e < x.e then (16, x) else if x.e < e then (0, ⟨n, e, 0, 0⟩) else (0, x)
def ackF (m l : Int) (x : Nb) : Int × Nb := if numI m = false ∨ numI l = false then (2, x) else if l < m then (3, x) else (0, { x with a := max x.a m })
def recvF (f l : Int) (x : Nb) : Int × Nb := if f < 1 ∨ numI l = false ∨ l < f then (2, x) else if IntKind.i64.wrap (x.g + 1) < f then (3, x) else (0, { x with g := max x.g l })
def jumpF (l : Int) (x : Nb) : Int × Nb := if numI l = false then (2, x) else (0, { x with g := max x.g l })
theorem opL_miss {f : Nb → Int × Nb} {L : List Nb} {n : Int} (h : fndB L n = none) : opL f L n = (2, L) := by unfold opL; rw [h]
theorem opL_hit {f : Nb → Int × Nb} {L : List Nb} {n : Int} {i : Nat} {x : Nb} (h : fndB L n = some i) (hx : L[i]? = some x) : opL f L n = ((f x).1, L.set i (f x).2) := by unfold opL; rw [h]; simp only; rw [hx]
theorem opL_same {f : Nb → Int × Nb} {L : List Nb} {n : Int} {i : Nat} {x : Nb} {c : Int} (h : fndB L n = some i) (hx : L[i]? = some x) (hf : f x = (c, x)) : opL f L n = (c, L) := by
  rw [opL_hit h hx, hf, set_id hx]

theorem wrap_u64' {n : Nat} (h : n < 4611686018427387904) : IntKind.u64.wrap (n : Int) = (n : Int) := by
  simp only [IntKind.wrap, IntKind.signed, IntKind.bits]
  simp
  omega
theorem cmpK_neg (a b : Int) : (cmpK a b < 0) = (a < b) := by
  unfold cmpK
  by_cases h : a < b
  · rw [if_pos h]; exact propext ⟨fun _ => h, fun _ => by decide⟩
  · rw [if_neg h]
    split
    · exact propext ⟨fun q => absurd q (by decide), fun q => absurd q h⟩
    · exact propext ⟨fun q => absurd q (by decide), fun q => absurd q h⟩
theorem cmpK_zero (a b : Int) : (cmpK a b = 0) = (a = b) := by
  unfold cmpK
  by_cases h : a < b
  · rw [if_pos h]; exact propext ⟨fun q => absurd q (by decide), fun q => by omega⟩
  · rw [if_neg h]
    split
    · exact propext ⟨fun q => absurd q (by decide), fun q => by omega⟩
    · exact propext ⟨fun _ => by omega, fun _ => rfl⟩
theorem w_BSF {s : St} {id j : Nat} {cap : Option Nat} {rep : Int} {L : List Nb} (hk : AkR s id j cap rep L) (hs : SrtB L) (n : Int) : ∀ env : Env, elen env = a41.ntmps → (∀ i x_, [akV j cap L, .int .i64 n, .fn 42 []][i]? = some x_ → E env i = x_) → awp (tb [(42, R_FD1)]) a41.body (fun x e t => (∀ i, x ≠ .exit i) ∧ aresults e t a41.results = some (.tup [.int .i64 ((kI L n : Nat) : Int), .bool (fB L n)]) ∧ Keep s t) env s := by
  intro env hlen ha
  have h0 : E env 0 = _ := ha 0 _ rfl
  have h1 : E env 1 = _ := ha 1 _ rfl
  have h2 : E env 2 = _ := ha 2 _ rfl
  have hlen : elen env = _ := hlen
  simp only [a41] at hlen
  unfold a41
  try dsimp only [oO, oG]
  have hL := hk.lenV
  have hll := hk.hn
  simp (config := {contextual := true, maxDischargeDepth := 12}) only [tb_at, h0, h1, h2, hlen, hL, ↓bD, bU, forall_const, bS, implies_true, isNx, eq_self, ↓wp_cond, ↓wp_loop, ↓reduceIte, reduceCtorEq, Nat.reduceEqDiff, Nat.reduceLT, Nat.reduceAdd, Nat.reduceMul, bT, ↓sg_bsl, ↓st_callf, bX, ap_mkfn, ap_conv, ↓wi_seq, ↓wi_base, ↓wi_block, ↓wi_cond, ↓wi_loop, ↓wi_rf, ↓wy_seq, ↓wy_base, ↓wy_block, ↓wy_cond, ↓wy_loop, ↓wy_yld, bin_shr1, q_known, ae_callvV, callvV_fn, List.append_nil, List.cons_append, List.nil_append]
  obtain ⟨I, hI⟩ : ∃ I : Nat → Env → St → Prop, ∀ n0 e t, I n0 e t = (t = s ∧ ∃ a b : Nat, n0 = b - a ∧ a ≤ b ∧ b ≤ L.length ∧ elen e = 49 ∧ E e 0 = akV j cap L ∧ E e 1 = .int .i64 n ∧ E e 2 = .fn 42 [] ∧ E e 8 = .int .i64 (L.length : Int) ∧ E e 9 = .int .i64 (a : Int) ∧ E e 10 = .int .i64 (b : Int) ∧ (∀ (k : Nat) (y : Nb), k < a → L[k]? = some y → y.r < n) ∧ ∀ (k : Nat) (y : Nb), b ≤ k → L[k]? = some y → n ≤ y.r) := ⟨fun n0 e t => (t = s ∧ ∃ a b : Nat, n0 = b - a ∧ a ≤ b ∧ b ≤ L.length ∧ elen e = 49 ∧ E e 0 = akV j cap L ∧ E e 1 = .int .i64 n ∧ E e 2 = .fn 42 [] ∧ E e 8 = .int .i64 (L.length : Int) ∧ E e 9 = .int .i64 (a : Int) ∧ E e 10 = .int .i64 (b : Int) ∧ (∀ (k : Nat) (y : Nb), k < a → L[k]? = some y → y.r < n) ∧ ∀ (k : Nat) (y : Nb), b ≤ k → L[k]? = some y → n ≤ y.r), fun _ _ _ => rfl⟩
  refine lwp_inv I (n := L.length) ?_ ?_
  · rw [hI]
    exact ⟨rfl, 0, L.length, rfl, by omega, by omega, (by simp only [bE, Nat.reduceEqDiff, bN, Nat.reduceLT, hlen]; try rfl), (by simp only [bE, Nat.reduceEqDiff, bN, Nat.reduceLT, hlen, h0]; try rfl), (by simp only [bE, Nat.reduceEqDiff, bN, Nat.reduceLT, hlen, h1]; try rfl), (by simp only [bE, Nat.reduceEqDiff, bN, Nat.reduceLT, hlen, h2]; try rfl), (by simp only [bE, Nat.reduceEqDiff, bN, Nat.reduceLT, hlen]; try rfl), (by simp only [bE, Nat.reduceEqDiff, bN, Nat.reduceLT, hlen]; try rfl), (by simp only [bE, Nat.reduceEqDiff, bN, Nat.reduceLT, hlen]; try rfl), fun k y hk => by omega, fun k y hk hy => absurd (getlt hy) (by omega)⟩
  intro n0 e t hi
  rw [hI] at hi
  obtain ⟨rfl, a, b, rfl, hij, hjl, he, e0, e1, e2, e8, e9, e10, hpre, hpost⟩ := hi
  by_cases hlt : a < b
  · obtain ⟨m, hm⟩ : ∃ m, m = (a + b) / 2 := ⟨_, rfl⟩
    obtain ⟨x, hx⟩ := getsome (show m < L.length by omega)
    have w1 : IntKind.i64.wrap ((a : Int) + (b : Int)) = ((a + b : Nat) : Int) := by
      rw [← Int.natCast_add]
      exact wrapI (by omega) (by omega)
    have w2 := wrap_u64' (n := a + b) (by omega)
    have w3 : IntKind.i64.wrap (m : Int) = (m : Int) := wrapI (by omega) (by omega)
    have w4 := wrap_add1 (n := m) (by omega)
    have sh := bin_shr1 (a + b)
    rw [← hm] at sh
    obtain ⟨i1, a1, _, _, _, _, a4⟩ := hk.at hx
    have q := q_FD1 false x n (s := t)
    have z1 := eq_true (show (a : Int) < (b : Int) by omega)
    by_cases hb : x.r < n
    rotate_left
    · have hz : (cmpK x.r n < 0) = False := by rw [cmpK_neg]; exact eq_false hb
      simp (config := {contextual := true, maxDischargeDepth := 12}) only [tb_at, he, e0, e1, e2, e8, e9, e10, z1, w1, w2, w3, sh, a1, a4, i1, q, hz, ↓bD, bU, forall_const, bS, implies_true, isNx, eq_self, ↓wp_cond, ↓wp_loop, ↓reduceIte, reduceCtorEq, Nat.reduceEqDiff, Nat.reduceLT, Nat.reduceAdd, Nat.reduceMul, bT, ↓sg_bsl, ↓st_callf, bX, ap_mkfn, ap_conv, ↓wi_seq, ↓wi_base, ↓wi_block, ↓wi_cond, ↓wi_loop, ↓wi_rf, ↓wy_seq, ↓wy_base, ↓wy_block, ↓wy_cond, ↓wy_loop, ↓wy_yld, bin_shr1, q_known, ae_callvV, callvV_fn, List.append_nil, List.cons_append, List.nil_append]
      refine ⟨m - a, by omega, ?_⟩
      rw [hI]
      exact ⟨rfl, a, m, rfl, by omega, by omega, (by simp only [bE, Nat.reduceEqDiff, bN, Nat.reduceLT, he, e0, e1, e2, e8, e9, e10]; try rfl), (by simp only [bE, Nat.reduceEqDiff, bN, Nat.reduceLT, he, e0, e1, e2, e8, e9, e10]; try rfl), (by simp only [bE, Nat.reduceEqDiff, bN, Nat.reduceLT, he, e0, e1, e2, e8, e9, e10]; try rfl), (by simp only [bE, Nat.reduceEqDiff, bN, Nat.reduceLT, he, e0, e1, e2, e8, e9, e10]; try rfl), (by simp only [bE, Nat.reduceEqDiff, bN, Nat.reduceLT, he, e0, e1, e2, e8, e9, e10]; try rfl), (by simp only [bE, Nat.reduceEqDiff, bN, Nat.reduceLT, he, e0, e1, e2, e8, e9, e10]; try rfl), (by simp only [bE, Nat.reduceEqDiff, bN, Nat.reduceLT, he, e0, e1, e2, e8, e9, e10]; try rfl), hpre, fun k y hk2 hy => by
        by_cases e : k = m
        · subst e
          rw [hx] at hy
          injection hy with hy
          rw [← hy]; omega
        · have := hs.lt hx hy (by omega)
          omega⟩
    · have hz : (cmpK x.r n < 0) = True := by rw [cmpK_neg]; exact eq_true hb
      simp (config := {contextual := true, maxDischargeDepth := 12}) only [tb_at, he, e0, e1, e2, e8, e9, e10, z1, w1, w2, w3, w4, sh, a1, a4, i1, q, hz, ↓bD, bU, forall_const, bS, implies_true, isNx, eq_self, ↓wp_cond, ↓wp_loop, ↓reduceIte, reduceCtorEq, Nat.reduceEqDiff, Nat.reduceLT, Nat.reduceAdd, Nat.reduceMul, bT, ↓sg_bsl, ↓st_callf, bX, ap_mkfn, ap_conv, ↓wi_seq, ↓wi_base, ↓wi_block, ↓wi_cond, ↓wi_loop, ↓wi_rf, ↓wy_seq, ↓wy_base, ↓wy_block, ↓wy_cond, ↓wy_loop, ↓wy_yld, bin_shr1, q_known, ae_callvV, callvV_fn, List.append_nil, List.cons_append, List.nil_append]
      refine ⟨b - (m + 1), by omega, ?_⟩
      rw [hI]
      exact ⟨rfl, (m + 1), b, rfl, by omega, by omega, (by simp only [bE, Nat.reduceEqDiff, bN, Nat.reduceLT, he, e0, e1, e2, e8, e9, e10]; try rfl), (by simp only [bE, Nat.reduceEqDiff, bN, Nat.reduceLT, he, e0, e1, e2, e8, e9, e10]; try rfl), (by simp only [bE, Nat.reduceEqDiff, bN, Nat.reduceLT, he, e0, e1, e2, e8, e9, e10]; try rfl), (by simp only [bE, Nat.reduceEqDiff, bN, Nat.reduceLT, he, e0, e1, e2, e8, e9, e10]; try rfl), (by simp only [bE, Nat.reduceEqDiff, bN, Nat.reduceLT, he, e0, e1, e2, e8, e9, e10]; try rfl), (by simp only [bE, Nat.reduceEqDiff, bN, Nat.reduceLT, he, e0, e1, e2, e8, e9, e10]; try rfl), (by simp only [bE, Nat.reduceEqDiff, bN, Nat.reduceLT, he, e0, e1, e2, e8, e9, e10]; try rfl), fun k y hk2 hy => by
        by_cases e : k = m
        · subst e
          rw [hx] at hy
          injection hy with hy
          rw [← hy]; exact hb
        · have := hs.lt hy hx (by omega)
          omega, hpost⟩
  · obtain rfl : a = b := by omega
    have hkk : kI L n = a := kI_eq hjl hpre fun k y h1 h2 => hpost k y h1 h2
    have z1 := eq_false (show ¬ (a : Int) < (a : Int) by omega)
    by_cases hil : a < L.length
    · obtain ⟨x, hx⟩ := getsome hil
      obtain ⟨i1, a1, _, _, _, _, a4⟩ := hk.at hx
      have q := q_FD1 false x n (s := t)
      have hS : fB L n = decide (x.r = n) := by unfold fB; rw [hkk, hx]
      have hz := cmpK_zero x.r n
      have z2 := eq_true (show (a : Int) < (L.length : Int) by omega)
      rw [hkk, hS]
      simp (config := {contextual := true, maxDischargeDepth := 12}) only [tb_at, he, e0, e1, e2, e8, e9, e10, z1, z2, a1, a4, i1, q, hz, ↓bD, bU, forall_const, bS, implies_true, isNx, eq_self, ↓wp_cond, ↓wp_loop, ↓reduceIte, reduceCtorEq, Nat.reduceEqDiff, Nat.reduceLT, Nat.reduceAdd, Nat.reduceMul, bT, ↓sg_bsl, ↓st_callf, bX, ap_mkfn, ap_conv, ↓wi_seq, ↓wi_base, ↓wi_block, ↓wi_cond, ↓wi_loop, ↓wi_rf, ↓wy_seq, ↓wy_base, ↓wy_block, ↓wy_cond, ↓wy_loop, ↓wy_yld, bin_shr1, q_known, ae_callvV, callvV_fn, List.append_nil, List.cons_append, List.nil_append]
      all_goals first | exact .refl _ | skip
    · have hn : L[a]? = none := List.getElem?_eq_none (by omega)
      have hS : fB L n = false := by unfold fB; rw [hkk, hn]
      have z2 := eq_false (show ¬ (a : Int) < (L.length : Int) by omega)
      rw [hkk, hS]
      simp (config := {contextual := true, maxDischargeDepth := 12}) only [tb_at, he, e0, e1, e2, e8, e9, e10, z1, z2, ↓bD, bU, forall_const, bS, implies_true, isNx, eq_self, ↓wp_cond, ↓wp_loop, ↓reduceIte, reduceCtorEq, Nat.reduceEqDiff, Nat.reduceLT, Nat.reduceAdd, Nat.reduceMul, bT, ↓sg_bsl, ↓st_callf, bX, ap_mkfn, ap_conv, ↓wi_seq, ↓wi_base, ↓wi_block, ↓wi_cond, ↓wi_loop, ↓wi_rf, ↓wy_seq, ↓wy_base, ↓wy_block, ↓wy_cond, ↓wy_loop, ↓wy_yld, bin_shr1, q_known, ae_callvV, callvV_fn, List.append_nil, List.cons_append, List.nil_append]
      all_goals first | exact .refl _ | skip
theorem q_BSF (cl : Bool) {s : St} {id j : Nat} {cap : Option Nat} {rep : Int} {L : List Nb} (hk : AkR s id j cap rep L) (hs : SrtB L) (n : Int) : acall R_BSF cl [akV j cap L, .int .i64 n, .fn 42 []] s = some (.tup [.int .i64 ((kI L n : Nat) : Int), .bool (fB L n)], s) := run_same n_BSF (by simp [a41]) rfl (w_BSF (s := lowd s) hk.low hs n)

theorem srt_srch {L : List Nb} (hs : SrtB L) (n : Int) : fndB L n = if fB L n = true then some (kI L n) else none := by
  have key : ∀ {L : List Nb}, SrtB L → ∃ i, i ≤ L.length ∧ (∀ (k : Nat) (y : Nb), k < i → L[k]? = some y → y.r < n) ∧ ∀ (k : Nat) (y : Nb), i ≤ k → L[k]? = some y → n ≤ y.r := by
    intro L
    induction L with
    | nil => exact fun _ => ⟨0, Nat.le_refl _, fun k y _ h => by simp at h, fun k y _ h => by simp at h⟩
    | cons x l ih =>
      intro hs
      unfold SrtB at hs
      rw [List.pairwise_cons] at hs
      by_cases hx : x.r < n
      · obtain ⟨i, h1, h2, h3⟩ := ih hs.2
        refine ⟨i + 1, by simpa using h1, fun k y hk hy => ?_, fun k y hk hy => ?_⟩
        · cases k with
          | zero => simp at hy; subst hy; exact hx
          | succ k => exact h2 k y (by omega) (by simpa using hy)
        · obtain ⟨k, rfl⟩ : ∃ k', k = k' + 1 := ⟨k - 1, by omega⟩
          exact h3 k y (by omega) (by simpa using hy)
      · refine ⟨0, Nat.zero_le _, fun k y hk => by omega, fun k y _ hy => ?_⟩
        cases k with
        | zero => simp at hy; subst hy; omega
        | succ k =>
          have := hs.1 y (List.mem_of_getElem? (by simpa using hy))
          omega
  obtain ⟨i, h1, h2, h3⟩ := key hs
  exact srch hs h1 h2 h3
theorem w_Repl {s : St} {id j : Nat} {cap : Option Nat} {rep : Int} {L : List Nb} (hk : AkR s id j cap rep L) : ∀ env : Env, elen env = a26.ntmps → (∀ i x_, [.ptr id 0][i]? = some x_ → E env i = x_) → awp (tb []) a26.body (fun x e t => (∀ i, x ≠ .exit i) ∧ aresults e t a26.results = some (.int .i64 rep) ∧ Keep s t) env s := by
  intro env hlen ha
  have h0 : E env 0 = _ := ha 0 _ rfl
  have hlen : elen env = _ := hlen
  simp only [a26] at hlen
  unfold a26
  try dsimp only [oO, oG]
  obtain ⟨b0, b1, blt⟩ := row2_lod hk.box
  simp (config := {contextual := true, maxDischargeDepth := 12}) only [tb_at, h0, hlen, bin_npx, bin_npn, bin_np, b0, blt, nchkV_ptr, ↓bD, bU, forall_const, bS, implies_true, isNx, eq_self, ↓wp_cond, ↓wp_loop, ↓reduceIte, reduceCtorEq, Nat.reduceEqDiff, Nat.reduceLT, Nat.reduceAdd, Nat.reduceMul, bT, ↓sg_bsl, ↓st_callf, bX, ap_mkfn, ap_conv, ↓wi_seq, ↓wi_base, ↓wi_block, ↓wi_cond, ↓wi_loop, ↓wi_rf, ↓wy_seq, ↓wy_base, ↓wy_block, ↓wy_cond, ↓wy_loop, ↓wy_yld, bin_shr1, q_known, ae_callvV, callvV_fn, List.append_nil, List.cons_append, List.nil_append]
  all_goals first | exact .refl s | skip
theorem q_Repl (cl : Bool) {s : St} {id j : Nat} {cap : Option Nat} {rep : Int} {L : List Nb} (hk : AkR s id j cap rep L) : acall R_Repl cl [.ptr id 0] s = some (.int .i64 rep, s) := run_same n_Repl (by simp [a26]) rfl (w_Repl (s := lowd s) hk.low)
theorem w_find_m {s : St} {id j : Nat} {cap : Option Nat} {rep : Int} {L : List Nb} (hk : AkR s id j cap rep L) (hr : rep ≠ 0) (hs : SrtB L) {n : Int} (hf : fndB L n = none) : ∀ env : Env, elen env = a33.ntmps → (∀ i x_, [.ptr id 0, .int .i64 n][i]? = some x_ → E env i = x_) → awp (tb [(26, R_Repl), (41, R_BSF)]) a33.body (fun x e t => (∀ i, x ≠ .exit i) ∧ aresults e t a33.results = some (.tup [.nilp, .int .i64 2]) ∧ Keep s t) env s := by
  intro env hlen ha
  have h0 : E env 0 = _ := ha 0 _ rfl
  have h1 : E env 1 = _ := ha 1 _ rfl
  have hlen : elen env = _ := hlen
  simp only [a33] at hlen
  unfold a33
  try dsimp only [oO, oG]
  have n00 : ((0 : Int) = 0) = True := eq_true rfl
  have n20 : ((2 : Int) = 0) = False := eq_false (by decide)
  have hr0 := eq_false hr
  have q1 := q_Repl false hk
  obtain ⟨b0, b1, blt⟩ := row2_lod hk.box
  have q2 := q_BSF false hk hs n
  have hsr := srt_srch hs n
  have hfb : fB L n = false := by
    cases h : fB L n
    · rfl
    · rw [h, if_pos rfl, hf] at hsr
      cases hsr
  rw [hfb] at q2
  simp (config := {contextual := true, maxDischargeDepth := 12}) only [tb_at, h0, h1, hlen, q1, hr0, n00, n20, b0, b1, blt, nchkV_ptr, q2, decide_true, decide_false, Bool.not_true, Bool.not_false, bin_eql, bin_neq, notV_bool, Bool.not_false, ↓bD, bU, forall_const, bS, implies_true, isNx, eq_self, ↓wp_cond, ↓wp_loop, ↓reduceIte, reduceCtorEq, Nat.reduceEqDiff, Nat.reduceLT, Nat.reduceAdd, Nat.reduceMul, bT, ↓sg_bsl, ↓st_callf, bX, ap_mkfn, ap_conv, ↓wi_seq, ↓wi_base, ↓wi_block, ↓wi_cond, ↓wi_loop, ↓wi_rf, ↓wy_seq, ↓wy_base, ↓wy_block, ↓wy_cond, ↓wy_loop, ↓wy_yld, bin_shr1, q_known, ae_callvV, callvV_fn, List.append_nil, List.cons_append, List.nil_append]
  all_goals first | exact .refl s | skip
theorem q_find_m (cl : Bool) {s : St} {id j : Nat} {cap : Option Nat} {rep : Int} {L : List Nb} (hk : AkR s id j cap rep L) (hr : rep ≠ 0) (hs : SrtB L) {n : Int} (hf : fndB L n = none) : acall R_find cl [.ptr id 0, .int .i64 n] s = some (.tup [.nilp, .int .i64 2], s) := run_same n_find (by simp [a33]) rfl (w_find_m (s := lowd s) hk.low hr hs hf)
theorem w_find_h {s : St} {id j : Nat} {cap : Option Nat} {rep : Int} {L : List Nb} (hk : AkR s id j cap rep L) (hr : rep ≠ 0) (hs : SrtB L) {n : Int} {i : Nat} {y : Nb} (hf : fndB L n = some i) (hx_ : L[i]? = some y) : ∀ env : Env, elen env = a33.ntmps → (∀ i x_, [.ptr id 0, .int .i64 n][i]? = some x_ → E env i = x_) → awp (tb [(26, R_Repl), (41, R_BSF)]) a33.body (fun x e t => (∀ i, x ≠ .exit i) ∧ ∃ r, aresults e t a33.results = some r ∧ r = .tup [.ptr j (i * 4), .int .i64 0] ∧ Keep s t) env s := by
  intro env hlen ha
  have h0 : E env 0 = _ := ha 0 _ rfl
  have h1 : E env 1 = _ := ha 1 _ rfl
  have hlen : elen env = _ := hlen
  simp only [a33] at hlen
  unfold a33
  try dsimp only [oO, oG]
  have n00 : ((0 : Int) = 0) = True := eq_true rfl
  have n20 : ((2 : Int) = 0) = False := eq_false (by decide)
  have hr0 := eq_false hr
  have q1 := q_Repl false hk
  obtain ⟨b0, b1, blt⟩ := row2_lod hk.box
  have q2 := q_BSF false hk hs n
  have hsr := srt_srch hs n
  have hfb : fB L n = true := by
    cases h : fB L n
    · rw [h, if_neg (by decide), hf] at hsr
      cases hsr
    · rfl
  rw [hfb, if_pos rfl, hf] at hsr
  injection hsr with hsr
  rw [hfb, ← hsr] at q2
  obtain ⟨i1, _⟩ := hk.at hx_
  simp (config := {contextual := true, maxDischargeDepth := 12}) only [tb_at, h0, h1, hlen, q1, hr0, n00, n20, b0, b1, blt, nchkV_ptr, q2, decide_true, decide_false, Bool.not_true, Bool.not_false, bin_eql, bin_neq, notV_bool, Bool.not_true, i1, ↓bD, bU, forall_const, bS, implies_true, isNx, eq_self, ↓wp_cond, ↓wp_loop, ↓reduceIte, reduceCtorEq, Nat.reduceEqDiff, Nat.reduceLT, Nat.reduceAdd, Nat.reduceMul, bT, ↓sg_bsl, ↓st_callf, bX, ap_mkfn, ap_conv, ↓wi_seq, ↓wi_base, ↓wi_block, ↓wi_cond, ↓wi_loop, ↓wi_rf, ↓wy_seq, ↓wy_base, ↓wy_block, ↓wy_cond, ↓wy_loop, ↓wy_yld, bin_shr1, q_known, ae_callvV, callvV_fn, List.append_nil, List.cons_append, List.nil_append]
  all_goals first | exact ⟨_, rfl, rfl, .refl s⟩ | exact ⟨_, rfl, rfl⟩ | exact .refl s | skip
theorem q_find_h {s : St} {id j : Nat} {cap : Option Nat} {rep : Int} {L : List Nb} (hk : AkR s id j cap rep L) (hr : rep ≠ 0) (hs : SrtB L) {n : Int} {i : Nat} {y : Nb} (hf : fndB L n = some i) (hx_ : L[i]? = some y) : ∃ t, acall R_find false [.ptr id 0, .int .i64 n] s = some (.tup [.ptr j (i * 4), .int .i64 0], t) ∧ Keep s t := by
  obtain ⟨r, t, h1, rfl, h3⟩ := run_any (s := s) n_find (args := [.ptr id 0, .int .i64 n]) (Q := fun r t => r = .tup [.ptr j (i * 4), .int .i64 0]) (by simp [a33]) (fun r t t' hg hn h => h) (fun r t hgr hk h => h) (w_find_h (s := lowd s) hk.low hr hs hf hx_)
  exact ⟨t, h1, h3⟩

end Go.AM
end
/-
  What a replica knows: Meet, Ack, Receive, Jump, of the program and of the reference. Own work of this project; in part printed by a program of it.
-/
section
set_option maxRecDepth 100000
set_option maxHeartbeats 8000000
namespace Go.AM
open Go Go.Proofs

variable {s t u : St}

theorem fs40 (a b c d : AV) (n : Int) (K : List AV → Option (List AV)) : fstep [a, b, c, d] 0 1 (.int .i64 n) K = K [.int .i64 n, b, c, d] := by simp [fstep, AV.cells, AV.one, setAt]
theorem fs41 (a b c d : AV) (n : Int) (K : List AV → Option (List AV)) : fstep [a, b, c, d] 1 1 (.int .i64 n) K = K [a, .int .i64 n, c, d] := by simp [fstep, AV.cells, AV.one, setAt]
theorem mmV_max2 (a b : Int) : mmV true [.int .i64 a, .int .i64 b] = some (.int .i64 (max a b)) := mmV_max _ _ _
theorem w_Meet {s : St} {id j : Nat} {cap : Option Nat} {rep : Int} {L : List Nb} (hk : AkR s id j cap rep L) (hr : rep ≠ 0) (hs : SrtB L) (n ep : Int) : ∀ env : Env, elen env = a15.ntmps → (∀ i x_, [.ptr id 0, .int .i64 n, .int .i64 ep][i]? = some x_ → E env i = x_) → awp (tb [(33, R_find)]) a15.body (fun x e t => (∀ i, x ≠ .exit i) ∧ ∃ r, aresults e t a15.results = some r ∧ (r = .int .i64 (opL (meetF n ep) L n).1 ∧ AkR t id j cap rep (opL (meetF n ep) L n).2 ∧ Chg [j] s t)) env s := by
  intro env hlen ha
  have h0 : E env 0 = _ := ha 0 _ rfl
  have h1 : E env 1 = _ := ha 1 _ rfl
  have h2 : E env 2 = _ := ha 2 _ rfl
  have hlen : elen env = _ := hlen
  simp only [a15] at hlen
  unfold a15
  try dsimp only [oO, oG]
  have n00 : ((0 : Int) = 0) = True := eq_true rfl
  have n20 : ((2 : Int) = 0) = False := eq_false (by decide)
  cases hf : fndB L n with
  | none =>
    have hS := opL_miss (f := meetF n ep) hf
    have q1 := q_find_m false hk hr hs hf
    rw [hS]
    simp (config := {contextual := true, maxDischargeDepth := 12}) only [tb_at, h0, h1, h2, hlen, n00, n20, q1, n00, decide_true, decide_false, Bool.not_true, Bool.not_false, bin_eql, bin_neq, notV_bool, ↓bD, bU, forall_const, bS, implies_true, isNx, eq_self, ↓wp_cond, ↓wp_loop, ↓reduceIte, reduceCtorEq, Nat.reduceEqDiff, Nat.reduceLT, Nat.reduceAdd, Nat.reduceMul, bT, ↓sg_bsl, ↓st_callf, bX, ap_mkfn, ap_conv, ↓wi_seq, ↓wi_base, ↓wi_block, ↓wi_cond, ↓wi_loop, ↓wi_rf, ↓wy_seq, ↓wy_base, ↓wy_block, ↓wy_cond, ↓wy_loop, ↓wy_yld, bin_shr1, q_known, ae_callvV, callvV_fn, List.append_nil, List.cons_append, List.nil_append, fs40, fs41, mmV_max2]
    all_goals first | exact ⟨_, rfl, rfl, hk, Chg.refl _ _⟩ | exact ⟨hk, Chg.refl _ _⟩ | skip
  | some i =>
    obtain ⟨y, hy, hyr⟩ := fndB_some hf
    obtain ⟨t1, q1, hK1⟩ := q_find_h hk hr hs hf hy
    have hC1 : Chg [j] s t1 := hK1.chg _
    have hk1 := hk.keep hK1
    obtain ⟨i1, l0, l1, l2, l3, l4, llt⟩ := hk1.at hy
    obtain ⟨s4, sa, sg, hsP⟩ := hk1.sto hy
    obtain ⟨b0, b1, blt⟩ := row2_lod hk1.box
    have hdl := St.get_lt (hk1.dat (fun e => by rw [e] at hy; simp at hy))
    have hCp : ∀ bl, Chg [j] s (t1.put j bl) := fun bl => hC1.put _ (.inl (by simp)) hdl
    by_cases c1 : ep < 0
    · have z1 := eq_true c1
      have hS := opL_same (f := meetF n ep) hf hy (show meetF n ep y = (2, y) by unfold meetF; rw [if_pos (.inl c1)])
      rw [hS]
      simp (config := {contextual := true, maxDischargeDepth := 12}) only [tb_at, h0, h1, h2, hlen, n00, n20, q1, nchkV_ptr, l0, l1, l2, l3, l4, llt, b0, b1, blt, i1, decide_true, decide_false, Bool.not_true, Bool.not_false, bin_eql, bin_neq, notV_bool, z1, ↓bD, bU, forall_const, bS, implies_true, isNx, eq_self, ↓wp_cond, ↓wp_loop, ↓reduceIte, reduceCtorEq, Nat.reduceEqDiff, Nat.reduceLT, Nat.reduceAdd, Nat.reduceMul, bT, ↓sg_bsl, ↓st_callf, bX, ap_mkfn, ap_conv, ↓wi_seq, ↓wi_base, ↓wi_block, ↓wi_cond, ↓wi_loop, ↓wi_rf, ↓wy_seq, ↓wy_base, ↓wy_block, ↓wy_cond, ↓wy_loop, ↓wy_yld, bin_shr1, q_known, ae_callvV, callvV_fn, List.append_nil, List.cons_append, List.nil_append, fs40, fs41, mmV_max2]
      all_goals first | exact ⟨_, rfl, rfl, hk1, hC1⟩ | exact ⟨hk1, hC1⟩ | skip
    have z1 := eq_false c1
    by_cases c2 : 1073741824 < ep
    · have z2 := eq_true c2
      have hS := opL_same (f := meetF n ep) hf hy (show meetF n ep y = (2, y) by unfold meetF; rw [if_pos (.inr c2)])
      rw [hS]
      simp (config := {contextual := true, maxDischargeDepth := 12}) only [tb_at, h0, h1, h2, hlen, n00, n20, q1, nchkV_ptr, l0, l1, l2, l3, l4, llt, b0, b1, blt, i1, decide_true, decide_false, Bool.not_true, Bool.not_false, bin_eql, bin_neq, notV_bool, z1, z2, ↓bD, bU, forall_const, bS, implies_true, isNx, eq_self, ↓wp_cond, ↓wp_loop, ↓reduceIte, reduceCtorEq, Nat.reduceEqDiff, Nat.reduceLT, Nat.reduceAdd, Nat.reduceMul, bT, ↓sg_bsl, ↓st_callf, bX, ap_mkfn, ap_conv, ↓wi_seq, ↓wi_base, ↓wi_block, ↓wi_cond, ↓wi_loop, ↓wi_rf, ↓wy_seq, ↓wy_base, ↓wy_block, ↓wy_cond, ↓wy_loop, ↓wy_yld, bin_shr1, q_known, ae_callvV, callvV_fn, List.append_nil, List.cons_append, List.nil_append, fs40, fs41, mmV_max2]
      all_goals first | exact ⟨_, rfl, rfl, hk1, hC1⟩ | exact ⟨hk1, hC1⟩ | skip
    have z2 := eq_false c2
    by_cases c3 : ep < y.e
    · have z3 := eq_true c3
      have hS := opL_same (f := meetF n ep) hf hy (show meetF n ep y = (16, y) by unfold meetF; rw [if_neg (by omega), if_pos c3])
      rw [hS]
      simp (config := {contextual := true, maxDischargeDepth := 12}) only [tb_at, h0, h1, h2, hlen, n00, n20, q1, nchkV_ptr, l0, l1, l2, l3, l4, llt, b0, b1, blt, i1, decide_true, decide_false, Bool.not_true, Bool.not_false, bin_eql, bin_neq, notV_bool, z1, z2, z3, ↓bD, bU, forall_const, bS, implies_true, isNx, eq_self, ↓wp_cond, ↓wp_loop, ↓reduceIte, reduceCtorEq, Nat.reduceEqDiff, Nat.reduceLT, Nat.reduceAdd, Nat.reduceMul, bT, ↓sg_bsl, ↓st_callf, bX, ap_mkfn, ap_conv, ↓wi_seq, ↓wi_base, ↓wi_block, ↓wi_cond, ↓wi_loop, ↓wi_rf, ↓wy_seq, ↓wy_base, ↓wy_block, ↓wy_cond, ↓wy_loop, ↓wy_yld, bin_shr1, q_known, ae_callvV, callvV_fn, List.append_nil, List.cons_append, List.nil_append, fs40, fs41, mmV_max2]
      all_goals first | exact ⟨_, rfl, rfl, hk1, hC1⟩ | exact ⟨hk1, hC1⟩ | skip
    have z3 := eq_false c3
    by_cases c4 : y.e < ep
    · have z4 := eq_true c4
      have hS := opL_hit (f := meetF n ep) hf hy
      rw [show meetF n ep y = (0, ⟨n, ep, 0, 0⟩) by unfold meetF; rw [if_neg (by omega), if_neg c3, if_pos c4]] at hS
      have s4 := s4 ⟨n, ep, 0, 0⟩
      have s4 : AM.sto t1 4 (.ptr j (i * 4)) (.agg [.int .i64 n, .int .i64 ep, .int .i64 0, .int .i64 0]) = some (.und, t1.put j (.row (nbC.cells (L.set i ⟨n, ep, 0, 0⟩)) true)) := s4
      rw [hS]
      simp (config := {contextual := true, maxDischargeDepth := 12}) only [tb_at, h0, h1, h2, hlen, n00, n20, q1, nchkV_ptr, l0, l1, l2, l3, l4, llt, b0, b1, blt, i1, decide_true, decide_false, Bool.not_true, Bool.not_false, bin_eql, bin_neq, notV_bool, z1, z2, z3, z4, ap_build, fillP_nil, fillP_cons, s4, ↓bD, bU, forall_const, bS, implies_true, isNx, eq_self, ↓wp_cond, ↓wp_loop, ↓reduceIte, reduceCtorEq, Nat.reduceEqDiff, Nat.reduceLT, Nat.reduceAdd, Nat.reduceMul, bT, ↓sg_bsl, ↓st_callf, bX, ap_mkfn, ap_conv, ↓wi_seq, ↓wi_base, ↓wi_block, ↓wi_cond, ↓wi_loop, ↓wi_rf, ↓wy_seq, ↓wy_base, ↓wy_block, ↓wy_cond, ↓wy_loop, ↓wy_yld, bin_shr1, q_known, ae_callvV, callvV_fn, List.append_nil, List.cons_append, List.nil_append, fs40, fs41, mmV_max2]
      all_goals first | exact ⟨_, rfl, rfl, hsP _, hCp _⟩ | exact ⟨hsP _, hCp _⟩ | skip
    have z4 := eq_false c4
    have hS := opL_same (f := meetF n ep) hf hy (show meetF n ep y = (0, y) by unfold meetF; rw [if_neg (by omega), if_neg c3, if_neg c4])
    rw [hS]
    simp (config := {contextual := true, maxDischargeDepth := 12}) only [tb_at, h0, h1, h2, hlen, n00, n20, q1, nchkV_ptr, l0, l1, l2, l3, l4, llt, b0, b1, blt, i1, decide_true, decide_false, Bool.not_true, Bool.not_false, bin_eql, bin_neq, notV_bool, z1, z2, z3, z4, ↓bD, bU, forall_const, bS, implies_true, isNx, eq_self, ↓wp_cond, ↓wp_loop, ↓reduceIte, reduceCtorEq, Nat.reduceEqDiff, Nat.reduceLT, Nat.reduceAdd, Nat.reduceMul, bT, ↓sg_bsl, ↓st_callf, bX, ap_mkfn, ap_conv, ↓wi_seq, ↓wi_base, ↓wi_block, ↓wi_cond, ↓wi_loop, ↓wi_rf, ↓wy_seq, ↓wy_base, ↓wy_block, ↓wy_cond, ↓wy_loop, ↓wy_yld, bin_shr1, q_known, ae_callvV, callvV_fn, List.append_nil, List.cons_append, List.nil_append, fs40, fs41, mmV_max2]
    all_goals first | exact ⟨_, rfl, rfl, hk1, hC1⟩ | exact ⟨hk1, hC1⟩ | skip
theorem AkR.same_Meet {id j : Nat} {cap : Option Nat} {rep : Int} {L L' : List Nb} (h0 : AkR s id j cap rep L) (h : AkR t id j cap rep L') (g : ∀ id, id < s.next → u.get id = t.get id) (hn : s.next ≤ u.next) : AkR u id j cap rep L' := ⟨by rw [g _ (St.get_lt h0.box)]; exact h.box, fun q => by rw [g _ h0.jlt]; exact h.dat q, h.hcap, h.hn, Nat.lt_of_lt_of_le h0.jlt hn⟩
theorem q_Meet {s : St} {id j : Nat} {cap : Option Nat} {rep : Int} {L : List Nb} (hk : AkR s id j cap rep L) (hr : rep ≠ 0) (hs : SrtB L) (n ep : Int) : ∃ t, acall R_Meet false [.ptr id 0, .int .i64 n, .int .i64 ep] s = some (.int .i64 (opL (meetF n ep) L n).1, t) ∧ AkR t id j cap rep (opL (meetF n ep) L n).2 ∧ Chg [j] s t := by
  obtain ⟨r, t, h1, rfl, h2, h3⟩ := run_awp n_Meet (args := [.ptr id 0, .int .i64 n, .int .i64 ep]) (by simp [a15]) (w_Meet (s := lowd s) hk.low hr hs n ep)
  obtain ⟨t', g1, g2, _, g4⟩ := run_chg s_Meet h1 h3
  exact ⟨t', g1, hk.same_Meet h2 g2 g4.next, g4⟩
theorem w_Ack {s : St} {id j : Nat} {cap : Option Nat} {rep : Int} {L : List Nb} (hk : AkR s id j cap rep L) (hr : rep ≠ 0) (hs : SrtB L) (n m l : Int) : ∀ env : Env, elen env = a13.ntmps → (∀ i x_, [.ptr id 0, .int .i64 n, .int .i64 m, .int .i64 l][i]? = some x_ → E env i = x_) → awp (tb [(33, R_find), (34, R_num)]) a13.body (fun x e t => (∀ i, x ≠ .exit i) ∧ ∃ r, aresults e t a13.results = some r ∧ (r = .int .i64 (opL (ackF m l) L n).1 ∧ AkR t id j cap rep (opL (ackF m l) L n).2 ∧ Chg [j] s t)) env s := by
  intro env hlen ha
  have h0 : E env 0 = _ := ha 0 _ rfl
  have h1 : E env 1 = _ := ha 1 _ rfl
  have h2 : E env 2 = _ := ha 2 _ rfl
  have h3 : E env 3 = _ := ha 3 _ rfl
  have hlen : elen env = _ := hlen
  simp only [a13] at hlen
  unfold a13
  try dsimp only [oO, oG]
  have n00 : ((0 : Int) = 0) = True := eq_true rfl
  have n20 : ((2 : Int) = 0) = False := eq_false (by decide)
  cases hf : fndB L n with
  | none =>
    have hS := opL_miss (f := ackF m l) hf
    have q1 := q_find_m false hk hr hs hf
    rw [hS]
    simp (config := {contextual := true, maxDischargeDepth := 12}) only [tb_at, h0, h1, h2, h3, hlen, n00, n20, q1, n00, decide_true, decide_false, Bool.not_true, Bool.not_false, bin_eql, bin_neq, notV_bool, ↓bD, bU, forall_const, bS, implies_true, isNx, eq_self, ↓wp_cond, ↓wp_loop, ↓reduceIte, reduceCtorEq, Nat.reduceEqDiff, Nat.reduceLT, Nat.reduceAdd, Nat.reduceMul, bT, ↓sg_bsl, ↓st_callf, bX, ap_mkfn, ap_conv, ↓wi_seq, ↓wi_base, ↓wi_block, ↓wi_cond, ↓wi_loop, ↓wi_rf, ↓wy_seq, ↓wy_base, ↓wy_block, ↓wy_cond, ↓wy_loop, ↓wy_yld, bin_shr1, q_known, ae_callvV, callvV_fn, List.append_nil, List.cons_append, List.nil_append, fs40, fs41, mmV_max2]
    all_goals first | exact ⟨_, rfl, rfl, hk, Chg.refl _ _⟩ | exact ⟨hk, Chg.refl _ _⟩ | skip
  | some i =>
    obtain ⟨y, hy, hyr⟩ := fndB_some hf
    obtain ⟨t1, q1, hK1⟩ := q_find_h hk hr hs hf hy
    have hC1 : Chg [j] s t1 := hK1.chg _
    have hk1 := hk.keep hK1
    obtain ⟨i1, l0, l1, l2, l3, l4, llt⟩ := hk1.at hy
    obtain ⟨s4, sa, sg, hsP⟩ := hk1.sto hy
    obtain ⟨b0, b1, blt⟩ := row2_lod hk1.box
    have hdl := St.get_lt (hk1.dat (fun e => by rw [e] at hy; simp at hy))
    have hCp : ∀ bl, Chg [j] s (t1.put j bl) := fun bl => hC1.put _ (.inl (by simp)) hdl
    have qm := q_num false m (s := t1)
    have ql := q_num false l (s := t1)
    have qm : acall R_num false [.int .i64 m] t1 = some (.bool (numI m), t1) := qm
    have ql : acall R_num false [.int .i64 l] t1 = some (.bool (numI l), t1) := ql
    cases c1 : numI m
    · rw [c1] at qm
      have hS := opL_same (f := ackF m l) hf hy (show ackF m l y = (2, y) by unfold ackF; rw [if_pos (.inl c1)])
      rw [hS]
      simp (config := {contextual := true, maxDischargeDepth := 12}) only [tb_at, h0, h1, h2, h3, hlen, n00, n20, q1, nchkV_ptr, l0, l1, l2, l3, l4, llt, b0, b1, blt, i1, decide_true, decide_false, Bool.not_true, Bool.not_false, bin_eql, bin_neq, notV_bool, qm, ↓bD, bU, forall_const, bS, implies_true, isNx, eq_self, ↓wp_cond, ↓wp_loop, ↓reduceIte, reduceCtorEq, Nat.reduceEqDiff, Nat.reduceLT, Nat.reduceAdd, Nat.reduceMul, bT, ↓sg_bsl, ↓st_callf, bX, ap_mkfn, ap_conv, ↓wi_seq, ↓wi_base, ↓wi_block, ↓wi_cond, ↓wi_loop, ↓wi_rf, ↓wy_seq, ↓wy_base, ↓wy_block, ↓wy_cond, ↓wy_loop, ↓wy_yld, bin_shr1, q_known, ae_callvV, callvV_fn, List.append_nil, List.cons_append, List.nil_append, fs40, fs41, mmV_max2]
      all_goals first | exact ⟨_, rfl, rfl, hk1, hC1⟩ | exact ⟨hk1, hC1⟩ | skip
    rw [c1] at qm
    cases c2 : numI l
    · rw [c2] at ql
      have hS := opL_same (f := ackF m l) hf hy (show ackF m l y = (2, y) by unfold ackF; rw [if_pos (.inr c2)])
      rw [hS]
      simp (config := {contextual := true, maxDischargeDepth := 12}) only [tb_at, h0, h1, h2, h3, hlen, n00, n20, q1, nchkV_ptr, l0, l1, l2, l3, l4, llt, b0, b1, blt, i1, decide_true, decide_false, Bool.not_true, Bool.not_false, bin_eql, bin_neq, notV_bool, qm, ql, ↓bD, bU, forall_const, bS, implies_true, isNx, eq_self, ↓wp_cond, ↓wp_loop, ↓reduceIte, reduceCtorEq, Nat.reduceEqDiff, Nat.reduceLT, Nat.reduceAdd, Nat.reduceMul, bT, ↓sg_bsl, ↓st_callf, bX, ap_mkfn, ap_conv, ↓wi_seq, ↓wi_base, ↓wi_block, ↓wi_cond, ↓wi_loop, ↓wi_rf, ↓wy_seq, ↓wy_base, ↓wy_block, ↓wy_cond, ↓wy_loop, ↓wy_yld, bin_shr1, q_known, ae_callvV, callvV_fn, List.append_nil, List.cons_append, List.nil_append, fs40, fs41, mmV_max2]
      all_goals first | exact ⟨_, rfl, rfl, hk1, hC1⟩ | exact ⟨hk1, hC1⟩ | skip
    rw [c2] at ql
    have hneg : ¬ (numI m = false ∨ numI l = false) := by rw [c1, c2]; decide
    by_cases c3 : l < m
    · have z3 := eq_true c3
      have hS := opL_same (f := ackF m l) hf hy (show ackF m l y = (3, y) by unfold ackF; rw [if_neg hneg, if_pos c3])
      rw [hS]
      simp (config := {contextual := true, maxDischargeDepth := 12}) only [tb_at, h0, h1, h2, h3, hlen, n00, n20, q1, nchkV_ptr, l0, l1, l2, l3, l4, llt, b0, b1, blt, i1, decide_true, decide_false, Bool.not_true, Bool.not_false, bin_eql, bin_neq, notV_bool, qm, ql, z3, ↓bD, bU, forall_const, bS, implies_true, isNx, eq_self, ↓wp_cond, ↓wp_loop, ↓reduceIte, reduceCtorEq, Nat.reduceEqDiff, Nat.reduceLT, Nat.reduceAdd, Nat.reduceMul, bT, ↓sg_bsl, ↓st_callf, bX, ap_mkfn, ap_conv, ↓wi_seq, ↓wi_base, ↓wi_block, ↓wi_cond, ↓wi_loop, ↓wi_rf, ↓wy_seq, ↓wy_base, ↓wy_block, ↓wy_cond, ↓wy_loop, ↓wy_yld, bin_shr1, q_known, ae_callvV, callvV_fn, List.append_nil, List.cons_append, List.nil_append, fs40, fs41, mmV_max2]
      all_goals first | exact ⟨_, rfl, rfl, hk1, hC1⟩ | exact ⟨hk1, hC1⟩ | skip
    have z3 := eq_false c3
    have hS := opL_hit (f := ackF m l) hf hy
    rw [show ackF m l y = (0, { y with a := max y.a m }) by unfold ackF; rw [if_neg hneg, if_neg c3]] at hS
    have sa := sa (max y.a m)
    rw [hS]
    simp (config := {contextual := true, maxDischargeDepth := 12}) only [tb_at, h0, h1, h2, h3, hlen, n00, n20, q1, nchkV_ptr, l0, l1, l2, l3, l4, llt, b0, b1, blt, i1, decide_true, decide_false, Bool.not_true, Bool.not_false, bin_eql, bin_neq, notV_bool, qm, ql, z3, sa, ↓bD, bU, forall_const, bS, implies_true, isNx, eq_self, ↓wp_cond, ↓wp_loop, ↓reduceIte, reduceCtorEq, Nat.reduceEqDiff, Nat.reduceLT, Nat.reduceAdd, Nat.reduceMul, bT, ↓sg_bsl, ↓st_callf, bX, ap_mkfn, ap_conv, ↓wi_seq, ↓wi_base, ↓wi_block, ↓wi_cond, ↓wi_loop, ↓wi_rf, ↓wy_seq, ↓wy_base, ↓wy_block, ↓wy_cond, ↓wy_loop, ↓wy_yld, bin_shr1, q_known, ae_callvV, callvV_fn, List.append_nil, List.cons_append, List.nil_append, fs40, fs41, mmV_max2]
    all_goals first | exact ⟨_, rfl, rfl, hsP _, hCp _⟩ | exact ⟨hsP _, hCp _⟩ | skip
theorem q_Ack {s : St} {id j : Nat} {cap : Option Nat} {rep : Int} {L : List Nb} (hk : AkR s id j cap rep L) (hr : rep ≠ 0) (hs : SrtB L) (n m l : Int) : ∃ t, acall R_Ack false [.ptr id 0, .int .i64 n, .int .i64 m, .int .i64 l] s = some (.int .i64 (opL (ackF m l) L n).1, t) ∧ AkR t id j cap rep (opL (ackF m l) L n).2 ∧ Chg [j] s t := by
  obtain ⟨r, t, h1, rfl, h2, h3⟩ := run_awp n_Ack (args := [.ptr id 0, .int .i64 n, .int .i64 m, .int .i64 l]) (by simp [a13]) (w_Ack (s := lowd s) hk.low hr hs n m l)
  obtain ⟨t', g1, g2, _, g4⟩ := run_chg s_Ack h1 h3
  exact ⟨t', g1, hk.same_Meet h2 g2 g4.next, g4⟩
theorem w_Recv {s : St} {id j : Nat} {cap : Option Nat} {rep : Int} {L : List Nb} (hk : AkR s id j cap rep L) (hr : rep ≠ 0) (hs : SrtB L) (n f l : Int) : ∀ env : Env, elen env = a16.ntmps → (∀ i x_, [.ptr id 0, .int .i64 n, .int .i64 f, .int .i64 l][i]? = some x_ → E env i = x_) → awp (tb [(33, R_find), (34, R_num)]) a16.body (fun x e t => (∀ i, x ≠ .exit i) ∧ ∃ r, aresults e t a16.results = some r ∧ (r = .int .i64 (opL (recvF f l) L n).1 ∧ AkR t id j cap rep (opL (recvF f l) L n).2 ∧ Chg [j] s t)) env s := by
  intro env hlen ha
  have h0 : E env 0 = _ := ha 0 _ rfl
  have h1 : E env 1 = _ := ha 1 _ rfl
  have h2 : E env 2 = _ := ha 2 _ rfl
  have h3 : E env 3 = _ := ha 3 _ rfl
  have hlen : elen env = _ := hlen
  simp only [a16] at hlen
  unfold a16
  try dsimp only [oO, oG]
  have n00 : ((0 : Int) = 0) = True := eq_true rfl
  have n20 : ((2 : Int) = 0) = False := eq_false (by decide)
  cases hf : fndB L n with
  | none =>
    have hS := opL_miss (f := recvF f l) hf
    have q1 := q_find_m false hk hr hs hf
    rw [hS]
    simp (config := {contextual := true, maxDischargeDepth := 12}) only [tb_at, h0, h1, h2, h3, hlen, n00, n20, q1, n00, decide_true, decide_false, Bool.not_true, Bool.not_false, bin_eql, bin_neq, notV_bool, ↓bD, bU, forall_const, bS, implies_true, isNx, eq_self, ↓wp_cond, ↓wp_loop, ↓reduceIte, reduceCtorEq, Nat.reduceEqDiff, Nat.reduceLT, Nat.reduceAdd, Nat.reduceMul, bT, ↓sg_bsl, ↓st_callf, bX, ap_mkfn, ap_conv, ↓wi_seq, ↓wi_base, ↓wi_block, ↓wi_cond, ↓wi_loop, ↓wi_rf, ↓wy_seq, ↓wy_base, ↓wy_block, ↓wy_cond, ↓wy_loop, ↓wy_yld, bin_shr1, q_known, ae_callvV, callvV_fn, List.append_nil, List.cons_append, List.nil_append, fs40, fs41, mmV_max2]
    all_goals first | exact ⟨_, rfl, rfl, hk, Chg.refl _ _⟩ | exact ⟨hk, Chg.refl _ _⟩ | skip
  | some i =>
    obtain ⟨y, hy, hyr⟩ := fndB_some hf
    obtain ⟨t1, q1, hK1⟩ := q_find_h hk hr hs hf hy
    have hC1 : Chg [j] s t1 := hK1.chg _
    have hk1 := hk.keep hK1
    obtain ⟨i1, l0, l1, l2, l3, l4, llt⟩ := hk1.at hy
    obtain ⟨s4, sa, sg, hsP⟩ := hk1.sto hy
    obtain ⟨b0, b1, blt⟩ := row2_lod hk1.box
    have hdl := St.get_lt (hk1.dat (fun e => by rw [e] at hy; simp at hy))
    have hCp : ∀ bl, Chg [j] s (t1.put j bl) := fun bl => hC1.put _ (.inl (by simp)) hdl
    have ql := q_num false l (s := t1)
    have ql : acall R_num false [.int .i64 l] t1 = some (.bool (numI l), t1) := ql
    by_cases c1 : f < 1
    · have z1 := eq_true c1
      have hS := opL_same (f := recvF f l) hf hy (show recvF f l y = (2, y) by unfold recvF; rw [if_pos (.inl c1)])
      rw [hS]
      simp (config := {contextual := true, maxDischargeDepth := 12}) only [tb_at, h0, h1, h2, h3, hlen, n00, n20, q1, nchkV_ptr, l0, l1, l2, l3, l4, llt, b0, b1, blt, i1, decide_true, decide_false, Bool.not_true, Bool.not_false, bin_eql, bin_neq, notV_bool, z1, ↓bD, bU, forall_const, bS, implies_true, isNx, eq_self, ↓wp_cond, ↓wp_loop, ↓reduceIte, reduceCtorEq, Nat.reduceEqDiff, Nat.reduceLT, Nat.reduceAdd, Nat.reduceMul, bT, ↓sg_bsl, ↓st_callf, bX, ap_mkfn, ap_conv, ↓wi_seq, ↓wi_base, ↓wi_block, ↓wi_cond, ↓wi_loop, ↓wi_rf, ↓wy_seq, ↓wy_base, ↓wy_block, ↓wy_cond, ↓wy_loop, ↓wy_yld, bin_shr1, q_known, ae_callvV, callvV_fn, List.append_nil, List.cons_append, List.nil_append, fs40, fs41, mmV_max2]
      all_goals first | exact ⟨_, rfl, rfl, hk1, hC1⟩ | exact ⟨hk1, hC1⟩ | skip
    have z1 := eq_false c1
    cases c2 : numI l
    · rw [c2] at ql
      have hS := opL_same (f := recvF f l) hf hy (show recvF f l y = (2, y) by unfold recvF; rw [if_pos (.inr (.inl c2))])
      rw [hS]
      simp (config := {contextual := true, maxDischargeDepth := 12}) only [tb_at, h0, h1, h2, h3, hlen, n00, n20, q1, nchkV_ptr, l0, l1, l2, l3, l4, llt, b0, b1, blt, i1, decide_true, decide_false, Bool.not_true, Bool.not_false, bin_eql, bin_neq, notV_bool, z1, ql, ↓bD, bU, forall_const, bS, implies_true, isNx, eq_self, ↓wp_cond, ↓wp_loop, ↓reduceIte, reduceCtorEq, Nat.reduceEqDiff, Nat.reduceLT, Nat.reduceAdd, Nat.reduceMul, bT, ↓sg_bsl, ↓st_callf, bX, ap_mkfn, ap_conv, ↓wi_seq, ↓wi_base, ↓wi_block, ↓wi_cond, ↓wi_loop, ↓wi_rf, ↓wy_seq, ↓wy_base, ↓wy_block, ↓wy_cond, ↓wy_loop, ↓wy_yld, bin_shr1, q_known, ae_callvV, callvV_fn, List.append_nil, List.cons_append, List.nil_append, fs40, fs41, mmV_max2]
      all_goals first | exact ⟨_, rfl, rfl, hk1, hC1⟩ | exact ⟨hk1, hC1⟩ | skip
    rw [c2] at ql
    by_cases c3 : l < f
    · have z3 := eq_true c3
      have hS := opL_same (f := recvF f l) hf hy (show recvF f l y = (2, y) by unfold recvF; rw [if_pos (.inr (.inr c3))])
      rw [hS]
      simp (config := {contextual := true, maxDischargeDepth := 12}) only [tb_at, h0, h1, h2, h3, hlen, n00, n20, q1, nchkV_ptr, l0, l1, l2, l3, l4, llt, b0, b1, blt, i1, decide_true, decide_false, Bool.not_true, Bool.not_false, bin_eql, bin_neq, notV_bool, z1, ql, z3, ↓bD, bU, forall_const, bS, implies_true, isNx, eq_self, ↓wp_cond, ↓wp_loop, ↓reduceIte, reduceCtorEq, Nat.reduceEqDiff, Nat.reduceLT, Nat.reduceAdd, Nat.reduceMul, bT, ↓sg_bsl, ↓st_callf, bX, ap_mkfn, ap_conv, ↓wi_seq, ↓wi_base, ↓wi_block, ↓wi_cond, ↓wi_loop, ↓wi_rf, ↓wy_seq, ↓wy_base, ↓wy_block, ↓wy_cond, ↓wy_loop, ↓wy_yld, bin_shr1, q_known, ae_callvV, callvV_fn, List.append_nil, List.cons_append, List.nil_append, fs40, fs41, mmV_max2]
      all_goals first | exact ⟨_, rfl, rfl, hk1, hC1⟩ | exact ⟨hk1, hC1⟩ | skip
    have z3 := eq_false c3
    have hneg : ¬ (f < 1 ∨ numI l = false ∨ l < f) := by rw [c2]; simp; omega
    by_cases c4 : IntKind.i64.wrap (y.g + 1) < f
    · have z4 := eq_true c4
      have hS := opL_same (f := recvF f l) hf hy (show recvF f l y = (3, y) by unfold recvF; rw [if_neg hneg, if_pos c4])
      rw [hS]
      simp (config := {contextual := true, maxDischargeDepth := 12}) only [tb_at, h0, h1, h2, h3, hlen, n00, n20, q1, nchkV_ptr, l0, l1, l2, l3, l4, llt, b0, b1, blt, i1, decide_true, decide_false, Bool.not_true, Bool.not_false, bin_eql, bin_neq, notV_bool, z1, ql, z3, z4, ↓bD, bU, forall_const, bS, implies_true, isNx, eq_self, ↓wp_cond, ↓wp_loop, ↓reduceIte, reduceCtorEq, Nat.reduceEqDiff, Nat.reduceLT, Nat.reduceAdd, Nat.reduceMul, bT, ↓sg_bsl, ↓st_callf, bX, ap_mkfn, ap_conv, ↓wi_seq, ↓wi_base, ↓wi_block, ↓wi_cond, ↓wi_loop, ↓wi_rf, ↓wy_seq, ↓wy_base, ↓wy_block, ↓wy_cond, ↓wy_loop, ↓wy_yld, bin_shr1, q_known, ae_callvV, callvV_fn, List.append_nil, List.cons_append, List.nil_append, fs40, fs41, mmV_max2]
      all_goals first | exact ⟨_, rfl, rfl, hk1, hC1⟩ | exact ⟨hk1, hC1⟩ | skip
    have z4 := eq_false c4
    have hS := opL_hit (f := recvF f l) hf hy
    rw [show recvF f l y = (0, { y with g := max y.g l }) by unfold recvF; rw [if_neg hneg, if_neg c4]] at hS
    have sg := sg (max y.g l)
    rw [hS]
    simp (config := {contextual := true, maxDischargeDepth := 12}) only [tb_at, h0, h1, h2, h3, hlen, n00, n20, q1, nchkV_ptr, l0, l1, l2, l3, l4, llt, b0, b1, blt, i1, decide_true, decide_false, Bool.not_true, Bool.not_false, bin_eql, bin_neq, notV_bool, z1, ql, z3, z4, sg, ↓bD, bU, forall_const, bS, implies_true, isNx, eq_self, ↓wp_cond, ↓wp_loop, ↓reduceIte, reduceCtorEq, Nat.reduceEqDiff, Nat.reduceLT, Nat.reduceAdd, Nat.reduceMul, bT, ↓sg_bsl, ↓st_callf, bX, ap_mkfn, ap_conv, ↓wi_seq, ↓wi_base, ↓wi_block, ↓wi_cond, ↓wi_loop, ↓wi_rf, ↓wy_seq, ↓wy_base, ↓wy_block, ↓wy_cond, ↓wy_loop, ↓wy_yld, bin_shr1, q_known, ae_callvV, callvV_fn, List.append_nil, List.cons_append, List.nil_append, fs40, fs41, mmV_max2]
    all_goals first | exact ⟨_, rfl, rfl, hsP _, hCp _⟩ | exact ⟨hsP _, hCp _⟩ | skip
theorem q_Recv {s : St} {id j : Nat} {cap : Option Nat} {rep : Int} {L : List Nb} (hk : AkR s id j cap rep L) (hr : rep ≠ 0) (hs : SrtB L) (n f l : Int) : ∃ t, acall R_Recv false [.ptr id 0, .int .i64 n, .int .i64 f, .int .i64 l] s = some (.int .i64 (opL (recvF f l) L n).1, t) ∧ AkR t id j cap rep (opL (recvF f l) L n).2 ∧ Chg [j] s t := by
  obtain ⟨r, t, h1, rfl, h2, h3⟩ := run_awp n_Recv (args := [.ptr id 0, .int .i64 n, .int .i64 f, .int .i64 l]) (by simp [a16]) (w_Recv (s := lowd s) hk.low hr hs n f l)
  obtain ⟨t', g1, g2, _, g4⟩ := run_chg s_Recv h1 h3
  exact ⟨t', g1, hk.same_Meet h2 g2 g4.next, g4⟩
theorem w_Jump {s : St} {id j : Nat} {cap : Option Nat} {rep : Int} {L : List Nb} (hk : AkR s id j cap rep L) (hr : rep ≠ 0) (hs : SrtB L) (n l : Int) : ∀ env : Env, elen env = a17.ntmps → (∀ i x_, [.ptr id 0, .int .i64 n, .int .i64 l][i]? = some x_ → E env i = x_) → awp (tb [(33, R_find), (34, R_num)]) a17.body (fun x e t => (∀ i, x ≠ .exit i) ∧ ∃ r, aresults e t a17.results = some r ∧ (r = .int .i64 (opL (jumpF l) L n).1 ∧ AkR t id j cap rep (opL (jumpF l) L n).2 ∧ Chg [j] s t)) env s := by
  intro env hlen ha
  have h0 : E env 0 = _ := ha 0 _ rfl
  have h1 : E env 1 = _ := ha 1 _ rfl
  have h2 : E env 2 = _ := ha 2 _ rfl
  have hlen : elen env = _ := hlen
  simp only [a17] at hlen
  unfold a17
  try dsimp only [oO, oG]
  have n00 : ((0 : Int) = 0) = True := eq_true rfl
  have n20 : ((2 : Int) = 0) = False := eq_false (by decide)
  cases hf : fndB L n with
  | none =>
    have hS := opL_miss (f := jumpF l) hf
    have q1 := q_find_m false hk hr hs hf
    rw [hS]
    simp (config := {contextual := true, maxDischargeDepth := 12}) only [tb_at, h0, h1, h2, hlen, n00, n20, q1, n00, decide_true, decide_false, Bool.not_true, Bool.not_false, bin_eql, bin_neq, notV_bool, ↓bD, bU, forall_const, bS, implies_true, isNx, eq_self, ↓wp_cond, ↓wp_loop, ↓reduceIte, reduceCtorEq, Nat.reduceEqDiff, Nat.reduceLT, Nat.reduceAdd, Nat.reduceMul, bT, ↓sg_bsl, ↓st_callf, bX, ap_mkfn, ap_conv, ↓wi_seq, ↓wi_base, ↓wi_block, ↓wi_cond, ↓wi_loop, ↓wi_rf, ↓wy_seq, ↓wy_base, ↓wy_block, ↓wy_cond, ↓wy_loop, ↓wy_yld, bin_shr1, q_known, ae_callvV, callvV_fn, List.append_nil, List.cons_append, List.nil_append, fs40, fs41, mmV_max2]
    all_goals first | exact ⟨_, rfl, rfl, hk, Chg.refl _ _⟩ | exact ⟨hk, Chg.refl _ _⟩ | skip
  | some i =>
    obtain ⟨y, hy, hyr⟩ := fndB_some hf
    obtain ⟨t1, q1, hK1⟩ := q_find_h hk hr hs hf hy
    have hC1 : Chg [j] s t1 := hK1.chg _
    have hk1 := hk.keep hK1
    obtain ⟨i1, l0, l1, l2, l3, l4, llt⟩ := hk1.at hy
    obtain ⟨s4, sa, sg, hsP⟩ := hk1.sto hy
    obtain ⟨b0, b1, blt⟩ := row2_lod hk1.box
    have hdl := St.get_lt (hk1.dat (fun e => by rw [e] at hy; simp at hy))
    have hCp : ∀ bl, Chg [j] s (t1.put j bl) := fun bl => hC1.put _ (.inl (by simp)) hdl
    have ql := q_num false l (s := t1)
    have ql : acall R_num false [.int .i64 l] t1 = some (.bool (numI l), t1) := ql
    cases c2 : numI l
    · rw [c2] at ql
      have hS := opL_same (f := jumpF l) hf hy (show jumpF l y = (2, y) by unfold jumpF; rw [if_pos c2])
      rw [hS]
      simp (config := {contextual := true, maxDischargeDepth := 12}) only [tb_at, h0, h1, h2, hlen, n00, n20, q1, nchkV_ptr, l0, l1, l2, l3, l4, llt, b0, b1, blt, i1, decide_true, decide_false, Bool.not_true, Bool.not_false, bin_eql, bin_neq, notV_bool, ql, ↓bD, bU, forall_const, bS, implies_true, isNx, eq_self, ↓wp_cond, ↓wp_loop, ↓reduceIte, reduceCtorEq, Nat.reduceEqDiff, Nat.reduceLT, Nat.reduceAdd, Nat.reduceMul, bT, ↓sg_bsl, ↓st_callf, bX, ap_mkfn, ap_conv, ↓wi_seq, ↓wi_base, ↓wi_block, ↓wi_cond, ↓wi_loop, ↓wi_rf, ↓wy_seq, ↓wy_base, ↓wy_block, ↓wy_cond, ↓wy_loop, ↓wy_yld, bin_shr1, q_known, ae_callvV, callvV_fn, List.append_nil, List.cons_append, List.nil_append, fs40, fs41, mmV_max2]
      all_goals first | exact ⟨_, rfl, rfl, hk1, hC1⟩ | exact ⟨hk1, hC1⟩ | skip
    rw [c2] at ql
    have hS := opL_hit (f := jumpF l) hf hy
    rw [show jumpF l y = (0, { y with g := max y.g l }) by unfold jumpF; rw [if_neg (by rw [c2]; decide)]] at hS
    have sg := sg (max y.g l)
    rw [hS]
    simp (config := {contextual := true, maxDischargeDepth := 12}) only [tb_at, h0, h1, h2, hlen, n00, n20, q1, nchkV_ptr, l0, l1, l2, l3, l4, llt, b0, b1, blt, i1, decide_true, decide_false, Bool.not_true, Bool.not_false, bin_eql, bin_neq, notV_bool, ql, sg, ↓bD, bU, forall_const, bS, implies_true, isNx, eq_self, ↓wp_cond, ↓wp_loop, ↓reduceIte, reduceCtorEq, Nat.reduceEqDiff, Nat.reduceLT, Nat.reduceAdd, Nat.reduceMul, bT, ↓sg_bsl, ↓st_callf, bX, ap_mkfn, ap_conv, ↓wi_seq, ↓wi_base, ↓wi_block, ↓wi_cond, ↓wi_loop, ↓wi_rf, ↓wy_seq, ↓wy_base, ↓wy_block, ↓wy_cond, ↓wy_loop, ↓wy_yld, bin_shr1, q_known, ae_callvV, callvV_fn, List.append_nil, List.cons_append, List.nil_append, fs40, fs41, mmV_max2]
    all_goals first | exact ⟨_, rfl, rfl, hsP _, hCp _⟩ | exact ⟨hsP _, hCp _⟩ | skip
theorem q_Jump {s : St} {id j : Nat} {cap : Option Nat} {rep : Int} {L : List Nb} (hk : AkR s id j cap rep L) (hr : rep ≠ 0) (hs : SrtB L) (n l : Int) : ∃ t, acall R_Jump false [.ptr id 0, .int .i64 n, .int .i64 l] s = some (.int .i64 (opL (jumpF l) L n).1, t) ∧ AkR t id j cap rep (opL (jumpF l) L n).2 ∧ Chg [j] s t := by
  obtain ⟨r, t, h1, rfl, h2, h3⟩ := run_awp n_Jump (args := [.ptr id 0, .int .i64 n, .int .i64 l]) (by simp [a17]) (w_Jump (s := lowd s) hk.low hr hs n l)
  obtain ⟨t', g1, g2, _, g4⟩ := run_chg s_Jump h1 h3
  exact ⟨t', g1, hk.same_Meet h2 g2 g4.next, g4⟩
end Go.AM
end
/-
  What a replica knows: Get, Needed, All, Copy, alike. Own work of this project; in part printed by a program of it.
-/
section
set_option maxRecDepth 100000
set_option maxHeartbeats 8000000
namespace Go.AM
open Go Go.Proofs

variable {s t u : St}

theorem row4_sto {id : Nat} {cs : List AV} (h : t.get id = some (.row cs true)) (hl : cs.length = 4) (y : Nb) : sto t 4 (.ptr id 0) (.agg (Nb.av y)) = some (.und, t.put id (.row (Nb.av y) true)) := by
  have e : cs.drop 4 = [] := List.drop_eq_nil_of_le (by omega)
  simp only [sto, h]
  rw [if_pos ⟨rfl, rfl, by rw [hl]; exact Nat.le_refl _⟩]
  show some (AV.und, t.put id (.row (setAt cs 0 (Nb.av y)) true)) = _
  have : setAt cs 0 (Nb.av y) = Nb.av y := by simp [setAt, e, Nb.av]
  rw [this]
def zr : List AV := [.int .i64 0, .int .i64 0, .int .i64 0, .int .i64 0]
def needP (L : List Nb) : Int := L.foldl (fun n x => min n x.a) 1099511627776
theorem needP_snoc {L : List Nb} {i : Nat} {x : Nb} (h : L[i]? = some x) : needP (L.take (i + 1)) = min (needP (L.take i)) x.a := by
  unfold needP
  rw [List.take_add_one, h, List.foldl_append]
  rfl
theorem w_Needed {s : St} {id j : Nat} {cap : Option Nat} {rep : Int} {L : List Nb} (hk : AkR s id j cap rep L) (hr : rep ≠ 0) : ∀ env : Env, elen env = a14.ntmps → (∀ i x_, [.ptr id 0][i]? = some x_ → E env i = x_) → awp (tb [(26, R_Repl)]) a14.body (fun x e t => (∀ i, x ≠ .exit i) ∧ aresults e t a14.results = some (.int .i64 (needP L)) ∧ Keep s t) env s := by
  intro env hlen ha
  have h0 : E env 0 = _ := ha 0 _ rfl
  have hlen : elen env = _ := hlen
  simp only [a14] at hlen
  unfold a14
  try dsimp only [oO, oG]
  have hL := hk.lenV
  have hll := hk.hn
  obtain ⟨b0, b1, blt⟩ := row2_lod hk.box
  have hr0 := eq_false hr
  have q1 := q_Repl false hk
  have hn0 : needP (L.take 0) = 1099511627776 := rfl
  simp (config := {contextual := true, maxDischargeDepth := 12}) only [tb_at, h0, hlen, q1, hr0, b0, b1, blt, nchkV_ptr, hL, decide_true, decide_false, Bool.not_true, Bool.not_false, bin_eql, bin_neq, ↓bD, bU, forall_const, bS, implies_true, isNx, eq_self, ↓wp_cond, ↓wp_loop, ↓reduceIte, reduceCtorEq, Nat.reduceEqDiff, Nat.reduceLT, Nat.reduceAdd, Nat.reduceMul, bT, ↓sg_bsl, ↓st_callf, bX, ap_mkfn, ap_conv, ↓wi_seq, ↓wi_base, ↓wi_block, ↓wi_cond, ↓wi_loop, ↓wi_rf, ↓wy_seq, ↓wy_base, ↓wy_block, ↓wy_cond, ↓wy_loop, ↓wy_yld, bin_shr1, q_known, ae_callvV, callvV_fn, List.append_nil, List.cons_append, List.nil_append, fs40, fs41, mmV_max2]
  obtain ⟨I, hI⟩ : ∃ I : Nat → Env → St → Prop, ∀ n e t, I n e t = (Keep s t ∧ ∃ i : Nat, n + i = L.length ∧ elen e = 24 ∧ E e 3 = .int .i64 (needP (L.take i)) ∧ E e 12 = akV j cap L ∧ E e 13 = .int .i64 (L.length : Int) ∧ E e 14 = .int .i64 (i : Int)) := ⟨fun n e t => (Keep s t ∧ ∃ i : Nat, n + i = L.length ∧ elen e = 24 ∧ E e 3 = .int .i64 (needP (L.take i)) ∧ E e 12 = akV j cap L ∧ E e 13 = .int .i64 (L.length : Int) ∧ E e 14 = .int .i64 (i : Int)), fun _ _ _ => rfl⟩
  refine lwp_inv I (n := L.length) ?_ ?_
  · rw [hI]
    exact ⟨.refl s, 0, by omega, (by simp only [bE, Nat.reduceEqDiff, bN, Nat.reduceLT, hlen, hn0]; try rfl), (by simp only [bE, Nat.reduceEqDiff, bN, Nat.reduceLT, hlen, hn0]; try rfl), (by simp only [bE, Nat.reduceEqDiff, bN, Nat.reduceLT, hlen, hn0]; try rfl), (by simp only [bE, Nat.reduceEqDiff, bN, Nat.reduceLT, hlen, hn0]; try rfl), (by simp only [bE, Nat.reduceEqDiff, bN, Nat.reduceLT, hlen, hn0]; try rfl)⟩
  clear h0 hlen
  intro n e t hi
  rw [hI] at hi
  obtain ⟨hK, i, hni, he, e3, e12, e13, e14⟩ := hi
  by_cases hlt : i < L.length
  · obtain ⟨x, hx⟩ := getsome hlt
    have hw := wrap_add1 (n := i) (by omega)
    obtain ⟨i1, l0, l1, l2, l3, l4, llt⟩ := (hk.keep hK).at hx
    have z1 := eq_true (show (i : Int) < (L.length : Int) by omega)
    have hsn := needP_snoc hx
    have hs4 : sto (t.push (.row [.int .i64 0, .int .i64 0, .int .i64 0, .int .i64 0] true)) 4 (.ptr t.next 0) (.agg (Nb.av x)) = some (.und, t.lowed.push (.row (Nb.av x) true)) := sto_z4 (show sameN t.next t from rfl) _ _ _ _ _ rfl
    obtain ⟨_, _, _, hla, _, hlt2⟩ := box_nb t.lowed x (.refl _)
    have hla : lod1 (t.lowed.push (.row (Nb.av x) true)) (.ptr t.next 2) = some (.int .i64 x.a) := hla
    have hlt2 : ltN t.next (t.lowed.push (.row (Nb.av x) true)) := hlt2
    have hK2 : Keep s (t.lowed.push (.row (Nb.av x) true)) := hK.lowed.push _
    simp (config := {contextual := true, maxDischargeDepth := 12}) only [tb_at, he, e3, e12, e13, e14, z1, hw, i1, l0, llt, hs4, hla, hlt2, mmV_min, ↓bD, bU, forall_const, bS, implies_true, isNx, eq_self, ↓wp_cond, ↓wp_loop, ↓reduceIte, reduceCtorEq, Nat.reduceEqDiff, Nat.reduceLT, Nat.reduceAdd, Nat.reduceMul, bT, ↓sg_bsl, ↓st_callf, bX, ap_mkfn, ap_conv, ↓wi_seq, ↓wi_base, ↓wi_block, ↓wi_cond, ↓wi_loop, ↓wi_rf, ↓wy_seq, ↓wy_base, ↓wy_block, ↓wy_cond, ↓wy_loop, ↓wy_yld, bin_shr1, q_known, ae_callvV, callvV_fn, List.append_nil, List.cons_append, List.nil_append, fs40, fs41, mmV_max2]
    refine ⟨n - 1, by omega, ?_⟩
    rw [hI]
    exact ⟨hK2, i + 1, by omega, (by simp only [bE, Nat.reduceEqDiff, bN, Nat.reduceLT, he, e3, e12, e13, e14, hsn]; try rfl), (by simp only [bE, Nat.reduceEqDiff, bN, Nat.reduceLT, he, e3, e12, e13, e14, hsn]; try rfl), (by simp only [bE, Nat.reduceEqDiff, bN, Nat.reduceLT, he, e3, e12, e13, e14, hsn]; try rfl), (by simp only [bE, Nat.reduceEqDiff, bN, Nat.reduceLT, he, e3, e12, e13, e14, hsn]; try rfl), (by simp only [bE, Nat.reduceEqDiff, bN, Nat.reduceLT, he, e3, e12, e13, e14, hsn]; try rfl)⟩
  · obtain rfl : i = L.length := by omega
    have z1 := eq_false (show ¬ (L.length : Int) < (L.length : Int) by omega)
    rw [List.take_length] at e3
    simp (config := {contextual := true, maxDischargeDepth := 12}) only [tb_at, he, e3, e12, e13, e14, z1, ↓bD, bU, forall_const, bS, implies_true, isNx, eq_self, ↓wp_cond, ↓wp_loop, ↓reduceIte, reduceCtorEq, Nat.reduceEqDiff, Nat.reduceLT, Nat.reduceAdd, Nat.reduceMul, bT, ↓sg_bsl, ↓st_callf, bX, ap_mkfn, ap_conv, ↓wi_seq, ↓wi_base, ↓wi_block, ↓wi_cond, ↓wi_loop, ↓wi_rf, ↓wy_seq, ↓wy_base, ↓wy_block, ↓wy_cond, ↓wy_loop, ↓wy_yld, bin_shr1, q_known, ae_callvV, callvV_fn, List.append_nil, List.cons_append, List.nil_append, fs40, fs41, mmV_max2]
    all_goals first | exact hK | skip
theorem q_Needed (cl : Bool) {s : St} {id j : Nat} {cap : Option Nat} {rep : Int} {L : List Nb} (hk : AkR s id j cap rep L) (hr : rep ≠ 0) : acall R_Needed cl [.ptr id 0] s = some (.int .i64 (needP L), s) := run_same n_Needed (by simp [a14]) rfl (w_Needed (s := lowd s) hk.low hr)

/-- A new list of neighbours. -/
def NwB (s t : St) (v : AV) (L : List Nb) : Prop := (v = .nils ∧ L = []) ∨ ∃ j cap, v = .sl j 0 L.length cap 4 ∧ L ≠ [] ∧ s.next ≤ j ∧ t.get j = some (.row (nbC.cells L) true) ∧ ∀ c, cap = some c → c = L.length
theorem NwB.mono {v : AV} {L : List Nb} (h : NwB s t v L) (k : ∀ id b, t.get id = some b → u.get id = some b) : NwB s u v L :=
  h.imp (fun q => q) fun ⟨j, cap, e, h0, h1, h2, h3⟩ => ⟨j, cap, e, h0, h1, k _ _ h2, h3⟩
theorem NwB.read {v : AV} {L : List Nb} (h : NwB s t v L) : AM.read nbC t v = some L := by
  rcases h with ⟨rfl, rfl⟩ | ⟨j, cap, rfl, h0, h1, h2, _⟩
  · rfl
  · refine read_of rfl h2 (by simp [cells_len]) ?_
    rw [List.drop_zero, ← cells_len]
    simp
theorem NwB.ground {v : AV} {L : List Nb} (h : NwB s t v L) (hg : v.ground = true) : NwB s u v L := by
  rcases h with q | ⟨j, cap, rfl, _⟩
  · exact .inl q
  · simp [AV.ground, AV.plain] at hg
theorem w_Clone {s : St} {id j : Nat} {cap : Option Nat} {rep : Int} {L : List Nb} (hk : AkR s id j cap rep L) : ∀ env : Env, elen env = a32.ntmps → (∀ i x_, [akV j cap L][i]? = some x_ → E env i = x_) → awp (tb []) a32.body (fun x e t => (∀ i, x ≠ .exit i) ∧ ∃ r, aresults e t a32.results = some r ∧ NwB s t r L ∧ Keep s t) env s := by
  intro env hlen ha
  have h0 : E env 0 = _ := ha 0 _ rfl
  have hlen : elen env = _ := hlen
  simp only [a32] at hlen
  unfold a32
  try dsimp only [oO, oG]
  by_cases hLe : L = []
  · have e : akV j cap L = .nils := by unfold akV; rw [if_pos hLe]
    rw [e] at h0
    simp (config := {contextual := true, maxDischargeDepth := 12}) only [tb_at, h0, hlen, bin_nsn, ↓bD, bU, forall_const, bS, implies_true, isNx, eq_self, ↓wp_cond, ↓wp_loop, ↓reduceIte, reduceCtorEq, Nat.reduceEqDiff, Nat.reduceLT, Nat.reduceAdd, Nat.reduceMul, bT, ↓sg_bsl, ↓st_callf, bX, ap_mkfn, ap_conv, ↓wi_seq, ↓wi_base, ↓wi_block, ↓wi_cond, ↓wi_loop, ↓wi_rf, ↓wy_seq, ↓wy_base, ↓wy_block, ↓wy_cond, ↓wy_loop, ↓wy_yld, bin_shr1, q_known, ae_callvV, callvV_fn, List.append_nil, List.cons_append, List.nil_append, fs40, fs41, mmV_max2]
    all_goals first | exact ⟨_, rfl, .inl ⟨rfl, hLe⟩, .refl s⟩ | exact ⟨_, rfl, .inl ⟨rfl, hLe⟩⟩ | exact .inl ⟨rfl, hLe⟩ | skip
  have e : akV j cap L = .sl j 0 L.length cap 4 := by unfold akV; rw [if_neg hLe]
  have hr := hk.rd
  rw [e] at h0 hr
  have hll := hk.hn
  have hpos := List.length_pos_iff.2 hLe
  have hbs : bslV [] 0 4 [] = some (fun id => .sl id 0 0 (some 0) 4, .row [] true) := rfl
  have hs1 := read_shown ((((Keep.refl s).push (.row [] true)).read hr))
  have hs2 := read_len ((((Keep.refl s).push (.row [] true)).read hr))
  have hg : (s.push (.row [] true)).get s.next = some (.row [] true) := St.get_push_new _ _
  have hs1 : shown (s.push (.row [] true)) 4 (.sl j 0 L.length cap 4) = some (nbC.cells L) := hs1
  obtain ⟨w, t, hap, hN, hK⟩ : ∃ w t, appV (s.push (.row [] true)) 4 32 (.sl s.next 0 0 (some 0) 4) (.sl j 0 L.length cap 4) = some (w, t) ∧ NwB s t w L ∧ Keep s t := by
    simp only [appV, hs1, hs2, aappend, hg, if_true]
    rw [if_neg (by omega), if_pos ⟨by simp, by unfold roomBytes; omega⟩, if_neg (by omega)]
    refine ⟨_, _, rfl, .inr ⟨_, none, by rw [Nat.zero_add], hLe, by simp, ?_, fun c hc => by cases hc⟩, ((Keep.refl s).push _).push _⟩
    rw [St.get_push_new]
    simp
  simp (config := {contextual := true, maxDischargeDepth := 12}) only [tb_at, h0, hlen, bin_nss, hbs, hap, ↓bD, bU, forall_const, bS, implies_true, isNx, eq_self, ↓wp_cond, ↓wp_loop, ↓reduceIte, reduceCtorEq, Nat.reduceEqDiff, Nat.reduceLT, Nat.reduceAdd, Nat.reduceMul, bT, ↓sg_bsl, ↓st_callf, bX, ap_mkfn, ap_conv, ↓wi_seq, ↓wi_base, ↓wi_block, ↓wi_cond, ↓wi_loop, ↓wi_rf, ↓wy_seq, ↓wy_base, ↓wy_block, ↓wy_cond, ↓wy_loop, ↓wy_yld, bin_shr1, q_known, ae_callvV, callvV_fn, List.append_nil, List.cons_append, List.nil_append, fs40, fs41, mmV_max2]
  all_goals first | exact ⟨_, rfl, hN, hK⟩ | exact ⟨_, rfl, hN⟩ | skip
theorem q_Clone {s : St} {id j : Nat} {cap : Option Nat} {rep : Int} {L : List Nb} (hk : AkR s id j cap rep L) : ∃ w t, acall R_Clone false [akV j cap L] s = some (w, t) ∧ NwB s t w L ∧ Keep s t :=
  run_any n_Clone (args := [akV j cap L]) (Q := fun r t => NwB s t r L) (by simp [a32]) (fun r t t' hg hn h => h.mono fun id b hb => by rw [hg]; exact hb) (fun r t hgr hk h => h.ground hgr) (w_Clone (s := lowd s) hk.low)
theorem w_All {s : St} {id j : Nat} {cap : Option Nat} {rep : Int} {L : List Nb} (hk : AkR s id j cap rep L) (hr : rep ≠ 0) : ∀ env : Env, elen env = a12.ntmps → (∀ i x_, [.ptr id 0][i]? = some x_ → E env i = x_) → awp (tb [(26, R_Repl), (32, R_Clone)]) a12.body (fun x e t => (∀ i, x ≠ .exit i) ∧ ∃ r, aresults e t a12.results = some r ∧ NwB s t r L ∧ Keep s t) env s := by
  intro env hlen ha
  have h0 : E env 0 = _ := ha 0 _ rfl
  have hlen : elen env = _ := hlen
  simp only [a12] at hlen
  unfold a12
  try dsimp only [oO, oG]
  obtain ⟨b0, b1, blt⟩ := row2_lod hk.box
  have hr0 := eq_false hr
  have q1 := q_Repl false hk
  obtain ⟨w, t1, q2, hN, hK1⟩ := q_Clone hk
  simp (config := {contextual := true, maxDischargeDepth := 12}) only [tb_at, h0, hlen, q1, hr0, b0, b1, blt, nchkV_ptr, q2, decide_true, decide_false, Bool.not_true, Bool.not_false, bin_eql, bin_neq, ↓bD, bU, forall_const, bS, implies_true, isNx, eq_self, ↓wp_cond, ↓wp_loop, ↓reduceIte, reduceCtorEq, Nat.reduceEqDiff, Nat.reduceLT, Nat.reduceAdd, Nat.reduceMul, bT, ↓sg_bsl, ↓st_callf, bX, ap_mkfn, ap_conv, ↓wi_seq, ↓wi_base, ↓wi_block, ↓wi_cond, ↓wi_loop, ↓wi_rf, ↓wy_seq, ↓wy_base, ↓wy_block, ↓wy_cond, ↓wy_loop, ↓wy_yld, bin_shr1, q_known, ae_callvV, callvV_fn, List.append_nil, List.cons_append, List.nil_append, fs40, fs41, mmV_max2]
  all_goals first | exact ⟨_, rfl, hN, hK1⟩ | exact ⟨_, rfl, hN⟩ | exact ⟨hN, hK1⟩ | skip
theorem q_All {s : St} {id j : Nat} {cap : Option Nat} {rep : Int} {L : List Nb} (hk : AkR s id j cap rep L) (hr : rep ≠ 0) : ∃ w t, acall R_All false [.ptr id 0] s = some (w, t) ∧ NwB s t w L ∧ Keep s t :=
  run_any n_All (args := [.ptr id 0]) (Q := fun r t => NwB s t r L) (by simp [a12]) (fun r t t' hg hn h => h.mono fun id b hb => by rw [hg]; exact hb) (fun r t hgr hk h => h.ground hgr) (w_All (s := lowd s) hk.low hr)
end Go.AM
end
/-
  What a replica knows: Copy, same, alike. Own work of this project; in part printed by a program of it.
-/
section
set_option maxRecDepth 100000
set_option maxHeartbeats 8000000
namespace Go.AM
open Go Go.Proofs

variable {s t u : St}
noncomputable def R_same : Con := runFn (tb []) a18
theorem s_same : SoundAt Try.prog 18 R_same := run_sound (tb_sound (l := []) (by simp)) mixed Try.func18 k18 c18
theorem n_same : noNxtC a18.body = true := by kernel_rfl

theorem ne_of_at {α : Type} {l m : List α} {i : Nat} {x y : α} (h1 : l[i]? = some x) (h2 : m[i]? = some y) (h : x ≠ y) : l ≠ m := fun e => by
  subst e
  rw [h1] at h2
  injection h2 with h2
  exact h h2
theorem w_same {s : St} {v1 v2 : AV} {L1 L2 : List Nb} (h1_ : AM.read nbC s v1 = some L1) (h2_ : AM.read nbC s v2 = some L2) (hl1 : L1.length ≤ 1000) : ∀ env : Env, elen env = a18.ntmps → (∀ i x_, [v1, v2][i]? = some x_ → E env i = x_) → awp (tb []) a18.body (fun x e t => (∀ i, x ≠ .exit i) ∧ aresults e t a18.results = some (.bool (decide (L1 = L2))) ∧ Keep s t) env s := by
  intro env hlen ha
  have h0 : E env 0 = _ := ha 0 _ rfl
  have h1 : E env 1 = _ := ha 1 _ rfl
  have hlen : elen env = _ := hlen
  simp only [a18] at hlen
  unfold a18
  try dsimp only [oO, oG]
  have l1 := lenV_read h1_
  have l2 := lenV_read h2_
  by_cases hl : L1.length = L2.length
  rotate_left
  · have z1 := eq_false (show ¬ (L1.length : Int) = (L2.length : Int) by omega)
    rw [decide_eq_false (fun e : L1 = L2 => hl (by rw [e]))]
    simp (config := {contextual := true, maxDischargeDepth := 12}) only [tb_at, h0, h1, hlen, l1, l2, z1, decide_true, decide_false, Bool.not_true, Bool.not_false, bin_eql, bin_neq, ↓bD, bU, forall_const, bS, implies_true, isNx, eq_self, ↓wp_cond, ↓wp_loop, ↓reduceIte, reduceCtorEq, Nat.reduceEqDiff, Nat.reduceLT, Nat.reduceAdd, Nat.reduceMul, bT, ↓sg_bsl, ↓st_callf, bX, ap_mkfn, ap_conv, ↓wi_seq, ↓wi_base, ↓wi_block, ↓wi_cond, ↓wi_loop, ↓wi_rf, ↓wy_seq, ↓wy_base, ↓wy_block, ↓wy_cond, ↓wy_loop, ↓wy_yld, bin_shr1, q_known, ae_callvV, callvV_fn, List.append_nil, List.cons_append, List.nil_append, fs40, fs41, mmV_max2]
    all_goals first | exact .refl s | skip
  have z1 := eq_true (show (L1.length : Int) = (L2.length : Int) by omega)
  simp (config := {contextual := true, maxDischargeDepth := 12}) only [tb_at, h0, h1, hlen, l1, l2, z1, decide_true, decide_false, Bool.not_true, Bool.not_false, bin_eql, bin_neq, ↓bD, bU, forall_const, bS, implies_true, isNx, eq_self, ↓wp_cond, ↓wp_loop, ↓reduceIte, reduceCtorEq, Nat.reduceEqDiff, Nat.reduceLT, Nat.reduceAdd, Nat.reduceMul, bT, ↓sg_bsl, ↓st_callf, bX, ap_mkfn, ap_conv, ↓wi_seq, ↓wi_base, ↓wi_block, ↓wi_cond, ↓wi_loop, ↓wi_rf, ↓wy_seq, ↓wy_base, ↓wy_block, ↓wy_cond, ↓wy_loop, ↓wy_yld, bin_shr1, q_known, ae_callvV, callvV_fn, List.append_nil, List.cons_append, List.nil_append, fs40, fs41, mmV_max2]
  obtain ⟨I, hI⟩ : ∃ I : Nat → Env → St → Prop, ∀ n e t, I n e t = (Keep s t ∧ ∃ i : Nat, n + i = L1.length ∧ elen e = 26 ∧ E e 0 = v1 ∧ E e 1 = v2 ∧ E e 5 = .int .i64 (i : Int) ∧ L1.take i = L2.take i) := ⟨fun n e t => (Keep s t ∧ ∃ i : Nat, n + i = L1.length ∧ elen e = 26 ∧ E e 0 = v1 ∧ E e 1 = v2 ∧ E e 5 = .int .i64 (i : Int) ∧ L1.take i = L2.take i), fun _ _ _ => rfl⟩
  refine lwp_inv I (n := L1.length) ?_ ?_
  · rw [hI]
    exact ⟨.refl s, 0, by omega, (by simp only [bE, Nat.reduceEqDiff, bN, Nat.reduceLT, hlen]; try rfl), (by simp only [bE, Nat.reduceEqDiff, bN, Nat.reduceLT, hlen, h0]; try rfl), (by simp only [bE, Nat.reduceEqDiff, bN, Nat.reduceLT, hlen, h1]; try rfl), (by simp only [bE, Nat.reduceEqDiff, bN, Nat.reduceLT, hlen]; try rfl), by simp⟩
  clear h0 h1 hlen
  intro n e t hi
  rw [hI] at hi
  obtain ⟨hK, i, hni, he, e0, e1, e5, hti⟩ := hi
  by_cases hlt : i < L1.length
  · obtain ⟨x, hx⟩ := getsome hlt
    obtain ⟨y, hy⟩ := getsome (show i < L2.length by omega)
    have hw2 := wrap_add1 (n := i) (by omega)
    obtain ⟨i1, a1, _, _, _, _, a2⟩ := nb_lods (hK.read h1_) hx
    obtain ⟨i2, b1, _, _, _, _, b2⟩ := nb_lods (hK.read h2_) hy
    have hq4 := bin_neb4 x y
    have z2 := eq_true (show (i : Int) < (L1.length : Int) by omega)
    by_cases hxy : x = y
    rotate_left
    · rw [decide_eq_false hxy] at hq4
      rw [decide_eq_false (ne_of_at hx hy hxy)]
      simp (config := {contextual := true, maxDischargeDepth := 12}) only [tb_at, he, e0, e1, e5, l1, z2, i1, i2, a1, a2, b1, b2, hq4, decide_true, decide_false, Bool.not_true, Bool.not_false, bin_eql, bin_neq, ↓bD, bU, forall_const, bS, implies_true, isNx, eq_self, ↓wp_cond, ↓wp_loop, ↓reduceIte, reduceCtorEq, Nat.reduceEqDiff, Nat.reduceLT, Nat.reduceAdd, Nat.reduceMul, bT, ↓sg_bsl, ↓st_callf, bX, ap_mkfn, ap_conv, ↓wi_seq, ↓wi_base, ↓wi_block, ↓wi_cond, ↓wi_loop, ↓wi_rf, ↓wy_seq, ↓wy_base, ↓wy_block, ↓wy_cond, ↓wy_loop, ↓wy_yld, bin_shr1, q_known, ae_callvV, callvV_fn, List.append_nil, List.cons_append, List.nil_append, fs40, fs41, mmV_max2]
      all_goals first | exact hK | skip
    rw [decide_eq_true hxy] at hq4
    have hti' : L1.take (i + 1) = L2.take (i + 1) := by rw [List.take_add_one, List.take_add_one, hti, hx, hy, hxy]
    simp (config := {contextual := true, maxDischargeDepth := 12}) only [tb_at, he, e0, e1, e5, l1, z2, hw2, i1, i2, a1, a2, b1, b2, hq4, decide_true, decide_false, Bool.not_true, Bool.not_false, bin_eql, bin_neq, ↓bD, bU, forall_const, bS, implies_true, isNx, eq_self, ↓wp_cond, ↓wp_loop, ↓reduceIte, reduceCtorEq, Nat.reduceEqDiff, Nat.reduceLT, Nat.reduceAdd, Nat.reduceMul, bT, ↓sg_bsl, ↓st_callf, bX, ap_mkfn, ap_conv, ↓wi_seq, ↓wi_base, ↓wi_block, ↓wi_cond, ↓wi_loop, ↓wi_rf, ↓wy_seq, ↓wy_base, ↓wy_block, ↓wy_cond, ↓wy_loop, ↓wy_yld, bin_shr1, q_known, ae_callvV, callvV_fn, List.append_nil, List.cons_append, List.nil_append, fs40, fs41, mmV_max2]
    refine ⟨n - 1, by omega, ?_⟩
    rw [hI]
    exact ⟨hK, i + 1, by omega, (by simp only [bE, Nat.reduceEqDiff, bN, Nat.reduceLT, he, e0, e1, e5]; try rfl), (by simp only [bE, Nat.reduceEqDiff, bN, Nat.reduceLT, he, e0, e1, e5]; try rfl), (by simp only [bE, Nat.reduceEqDiff, bN, Nat.reduceLT, he, e0, e1, e5]; try rfl), (by simp only [bE, Nat.reduceEqDiff, bN, Nat.reduceLT, he, e0, e1, e5]; try rfl), hti'⟩
  · obtain rfl : i = L1.length := by omega
    have z2 := eq_false (show ¬ (L1.length : Int) < (L1.length : Int) by omega)
    have he12 : L1 = L2 := by
      rw [List.take_length, hl, List.take_length] at hti
      exact hti
    rw [decide_eq_true he12]
    simp (config := {contextual := true, maxDischargeDepth := 12}) only [tb_at, he, e0, e1, e5, l1, z2, ↓bD, bU, forall_const, bS, implies_true, isNx, eq_self, ↓wp_cond, ↓wp_loop, ↓reduceIte, reduceCtorEq, Nat.reduceEqDiff, Nat.reduceLT, Nat.reduceAdd, Nat.reduceMul, bT, ↓sg_bsl, ↓st_callf, bX, ap_mkfn, ap_conv, ↓wi_seq, ↓wi_base, ↓wi_block, ↓wi_cond, ↓wi_loop, ↓wi_rf, ↓wy_seq, ↓wy_base, ↓wy_block, ↓wy_cond, ↓wy_loop, ↓wy_yld, bin_shr1, q_known, ae_callvV, callvV_fn, List.append_nil, List.cons_append, List.nil_append, fs40, fs41, mmV_max2]
    all_goals first | exact hK | skip
theorem q_same (cl : Bool) {s : St} {v1 v2 : AV} {L1 L2 : List Nb} (h1_ : AM.read nbC s v1 = some L1) (h2_ : AM.read nbC s v2 = some L2) (hl1 : L1.length ≤ 1000) : acall R_same cl [v1, v2] s = some (.bool (decide (L1 = L2)), s) := run_same n_same (by simp [a18]) rfl (w_same (s := lowd s) (read_low' h1_) (read_low' h2_) hl1)

theorem boxV_2b {a b : AV} (ha : a.one = true) (hb : b.one = true) : boxV 2 (.agg [a, b]) = some (fun id => .ptr id 0, .row [a, b] true) := by simp [boxV, AV.cells, ha, hb]
theorem fsb0 (x : AV) (hx : x.cells = [x] ∧ x.one = true) (z w : AV) (K : List AV → Option (List AV)) : fstep [z, w] 0 1 x K = K [x, w] := by simp [fstep, hx.1, hx.2, setAt]
theorem NwB.one {v : AV} {L : List Nb} (h : NwB s t v L) : v.cells = [v] ∧ v.one = true := by
  rcases h with ⟨rfl, _⟩ | ⟨j, cap, rfl, _⟩ <;> exact ⟨rfl, rfl⟩
/-- A new pair of a number and a new list. -/
theorem NwB.akr {s0 : St} {v : AV} {L : List Nb} {id : Nat} {rep : Int} (h : NwB s t v L) (hs0 : s0.next ≤ s.next) (hb : u.get id = some (.row [.int .i64 rep, v] true)) (hk : ∀ k b, t.get k = some b → s.next ≤ k → u.get k = some b) (hn : L.length ≤ 100) (hid : s0.next ≤ id) : ∃ j cap, AkR u id j cap rep L ∧ s0.next ≤ j := by
  rcases h with ⟨rfl, rfl⟩ | ⟨j, cap, rfl, h0, h1, h2, h3⟩
  · exact ⟨id, none, ⟨hb, fun q => absurd rfl q, (fun c hc => by cases hc), hn, St.get_lt hb⟩, hid⟩
  · have hg := hk _ _ h2 h1
    exact ⟨j, cap, ⟨by unfold akV; rw [if_neg h0]; exact hb, fun _ => hg, h3, hn, St.get_lt hg⟩, Nat.le_trans hs0 h1⟩
theorem sg_callf3 {call : Nat → List AV → St → Option (AV × St)} {base : Nat} {d : Option Nat} {r : Option Nat} {rest : List AOper} {Q : Env → St → Prop} {env : Env} {s : St} (f : Nat) (l : List AO) (t : Nat) (w : Bool) : awops call base (⟨d, .call f false l, some (t, w), r, true⟩ :: rest) Q env s = gcall s (E env t) w (acallF (call f) (l.map (aev env)) s) fun v t => awops call base rest Q (pE env d v) t := by
  rw [st_guard, st_callf]
  rfl
/-- The reference's disk: a list of blocks. -/
theorem NwB.put {v : AV} {L : List Nb} (h : NwB s t v L) {i : Nat} {x : Nb} (hx : L[i]? = some x) : ∃ j, iadV 4 v (.int .i64 (i : Int)) = some (.ptr j (i * 4)) ∧ s.next ≤ j ∧ ltN j t ∧ ∀ c : Int, ∃ bl L', AM.sto t 1 (.ptr j (i * 4 + 2)) (.int .i64 c) = some (.und, t.put j bl) ∧ L'.length = L.length ∧ NwB s (t.put j bl) v L' := by
  rcases h with ⟨_, rfl⟩ | ⟨j, cap, rfl, h0, h1, h2, h3⟩
  · simp at hx
  · have hi := getlt hx
    have hia : iadV 4 (.sl j 0 L.length cap 4) (.int .i64 (i : Int)) = some (.ptr j (0 + i * 4)) := iadV_nat hi
    rw [Nat.zero_add] at hia
    have hcl : (nbC.cells L).length = L.length * 4 := by rw [cells_len, nbC_sz]
    refine ⟨j, hia, h1, St.get_lt h2, fun c => ⟨.row (nbC.cells (L.set i { x with a := c })) true, L.set i { x with a := c }, ?_, by rw [List.length_set], .inr ⟨j, cap, by rw [List.length_set], ?_, h1, St.get_put_same h2, fun c' hc => by rw [List.length_set]; exact h3 c' hc⟩⟩⟩
    · simp only [AM.sto, h2]
      rw [if_pos ⟨rfl, rfl, by omega⟩]
      show some (AV.und, t.put j (.row (setAt (nbC.cells L) (i * 4 + 2) [.int .i64 c]) true)) = _
      rw [cells_set_a c hx]
    · intro e
      have := congrArg List.length e
      rw [List.length_set] at this
      simp at this
      exact h0 this
end Go.AM
end
/-
  What a replica knows at first: New of both sides. Own work of this project; in part printed by a program of it.
-/
section
set_option maxRecDepth 100000
set_option maxHeartbeats 8000000
namespace Go.AM
open Go Go.Proofs

variable {s t u : St}

/-! ### Plain: which lists are allowed -/
def nbI (n : Int) : Nb := ⟨n, 0, 0, 0⟩
def okL (own : Int) (l : List Int) : Prop := (1 ≤ own ∧ own ≤ 64) ∧ (∀ x ∈ l, (1 ≤ x ∧ x ≤ 64) ∧ x ≠ own) ∧ l.Nodup
theorem asc_nodup {l : List Int} (h : l.Pairwise (· < ·)) : l.Nodup := h.imp fun {a b} q e => by omega
theorem asc_snoc {l : List Int} {k : Nat} {b : Int} (h : (l.take k).Pairwise (· < ·)) (hb : l[k]? = some b) (hc : ∀ c, 0 < k → l[k - 1]? = some c → c < b) : (l.take (k + 1)).Pairwise (· < ·) := by
  rw [List.take_add_one, hb]
  show (l.take k ++ [b]).Pairwise _
  cases k with
  | zero => simp
  | succ k =>
    obtain ⟨c, hck⟩ := getsome (show k < l.length by have := getlt hb; omega)
    have hcb := hc c (by omega) hck
    rw [List.pairwise_append]
    refine ⟨h, by simp, fun a ha d hd => ?_⟩
    rw [List.mem_singleton] at hd
    subst hd
    rw [List.take_add_one, hck] at h ha
    replace h : (l.take k ++ [c]).Pairwise (· < ·) := h
    replace ha : a ∈ l.take k ++ [c] := ha
    rw [List.pairwise_append] at h
    rcases List.mem_append.1 ha with q | q
    · have := h.2.2 a q c (by simp)
      omega
    · rw [List.mem_singleton] at q
      omega
theorem sorted_le {l : List Int} (h : l.Pairwise (· ≤ ·)) {i j : Nat} {a b : Int} (ha : l[i]? = some a) (hb : l[j]? = some b) (hij : i < j) : a ≤ b := by
  have hi := getlt ha
  have hj := getlt hb
  have := List.pairwise_iff_getElem.1 h i j hi hj hij
  rw [List.getElem?_eq_getElem hi] at ha
  rw [List.getElem?_eq_getElem hj] at hb
  injection ha with ha
  injection hb with hb
  omega
theorem nodup_ne {l : List Int} (h : l.Nodup) {i j : Nat} {a : Int} (ha : l[i]? = some a) (hb : l[j]? = some a) (hij : i < j) : False := by
  have hi := getlt ha
  have hj := getlt hb
  have := List.pairwise_iff_getElem.1 h i j hi hj hij
  rw [List.getElem?_eq_getElem hi] at ha
  rw [List.getElem?_eq_getElem hj] at hb
  injection ha with ha
  injection hb with hb
  exact this (by omega)
theorem okL_sort {own : Int} {l : List Int} (h0 : 1 ≤ own ∧ own ≤ 64) (h1 : ∀ x ∈ sortI l, (1 ≤ x ∧ x ≤ 64) ∧ x ≠ own) (h2 : (sortI l).Pairwise (· < ·)) : okL own l :=
  ⟨h0, fun x hx => h1 x ((sortI_perm l).mem_iff.2 hx), (sortI_perm l).nodup_iff.1 (asc_nodup h2)⟩
theorem okL_srt {own : Int} {l : List Int} (h : okL own l) : SrtB ((sortI l).map nbI) := by
  unfold SrtB
  rw [List.pairwise_map]
  have hd := (sortI_perm l).nodup_iff.2 h.2.2
  have := (sortI_sorted l).and hd
  exact this.imp fun {a b} q => by
    have h1 := q.1
    have h2 := q.2
    show a < b
    omega
/-! ### Memory -/
theorem appV_oneC {β : Type} {C : Cod β} {M : List Nat} {s t : St} {v : AV} {l : List β} (hK : Chg M s t) (hO : Own C s t v l) (x : β) (bytes : Nat) (hb : (l.length + 1) * bytes ≤ roomBytes) :
    ∃ v' t', appV (t.push (.row (C.enc x) true)) C.sz bytes v (.sl t.next 0 1 (some 1) C.sz) = some (v', t') ∧ Chg M s t' ∧ Own C s t' v' (l ++ [x]) := by
  have hr : read C (t.push (.row (C.enc x) true)) (.sl t.next 0 1 (some 1) C.sz) = some [x] := by
    refine read_of rfl (St.get_push_new _ _) (by simp [C.len]) ?_
    rw [cells_one, List.drop_zero, Nat.one_mul, ← C.len x]
    simp
  have hK' := hK.push (.row (C.enc x) true)
  rcases hO.push (.row (C.enc x) true) with ⟨rfl, rfl⟩ | ⟨j, rfl, h0, h1, h⟩
  · refine ⟨.sl (t.push (.row (C.enc x) true)).next 0 1 none C.sz, (t.push (.row (C.enc x) true)).push (.row (C.enc x) true), ?_, hK'.push _, .inr ⟨(t.push (.row (C.enc x) true)).next, by simp, by simp, hK'.next, ?_⟩⟩
    · simp only [appV, read_shown hr, read_len hr, aappend]
      rw [if_neg (by simp), if_pos (by simpa using hb), cells_one]
      rfl
    · rw [List.nil_append, cells_one]
      exact St.get_push_new _ _
  · refine ⟨.sl (t.push (.row (C.enc x) true)).next 0 (l.length + 1) none C.sz, ((t.push (.row (C.enc x) true)).put j .dead).push (.row (C.cells (l ++ [x])) true), ?_, (hK'.put .dead (.inr h1) (St.get_lt h)).push _, .inr ⟨(t.push (.row (C.enc x) true)).next, by simp, by simp, hK'.next, by simpa using St.get_push_new ((t.push (.row (C.enc x) true)).put j .dead) _⟩⟩
    simp only [appV, read_shown hr, read_len hr, aappend, if_true, h]
    rw [if_neg (by simp), if_pos ⟨by simp [cells_len], by simpa using hb⟩]
    have e : (C.cells l).take (l.length * C.sz) = C.cells l := by rw [← cells_len]; simp
    rw [List.drop_zero, e, cells_append]
    rfl
theorem read_chg {β : Type} {C : Cod β} {M : List Nat} {v : AV} {l : List β} (h : AM.read C s v = some l) (hC : Chg M s t) (hm : v = .nils ∨ bid v ∉ M) : AM.read C t v = some l := by
  cases v with
  | nils => exact h
  | sl id off n cap z =>
    obtain ⟨rfl, hn, cs, own, hg, h1, h2, _⟩ := read_sl h
    rcases hm with q | q
    · cases q
    · exact read_of hn (hC.blk hg q) h1 h2
  | _ => simp [AM.read] at h
theorem Own.nwb {v : AV} {L : List Nb} (h : Own nbC s t v L) : NwB s t v L := by
  rcases h with q | ⟨j, rfl, h0, h1, h2⟩
  · exact .inl q
  · exact .inr ⟨j, none, rfl, h0, h1, h2, fun c hc => by cases hc⟩
theorem own_one {C : Cod Nb} {v : AV} {L : List Nb} (h : Own C s t v L) : v.cells = [v] ∧ v.one = true := by
  rcases h with ⟨rfl, _⟩ | ⟨j, rfl, _⟩ <;> exact ⟨rfl, rfl⟩
theorem own_away {C : Cod Nb} {v : AV} {L : List Nb} {id : Nat} (h : Own C s t v L) (hid : id < s.next) : ∀ o n c z, v ≠ .sl id o n c z := by
  rcases h with ⟨rfl, _⟩ | ⟨j, rfl, _, h1, _⟩
  · intro o n c z e; cases e
  · intro o n c z e
    injection e with e
    omega
/-- One more of them behind the list of a box. -/
theorem box_app {ib : Nat} {own : Int} {w : AV} {L : List Nb} (hC : Chg [ib] s t) (hb : t.get ib = some (.row [.int .i64 own, w] true)) (hib : ib < s.next) (hO : Own nbC s t w L) (x : Nb) (hl : L.length < 1000) :
    ∃ w' u', appV (t.push (.row (Nb.av x) true)) 4 32 w (.sl t.next 0 1 (some 1) 4) = some (w', u') ∧ AM.sto u' 1 (.ptr ib 1) w' = some (.und, u'.put ib (.row [.int .i64 own, w'] true)) ∧ ltN ib u' ∧ Chg [ib] s (u'.put ib (.row [.int .i64 own, w'] true)) ∧ (u'.put ib (.row [.int .i64 own, w'] true)).get ib = some (.row [.int .i64 own, w'] true) ∧ Own nbC s (u'.put ib (.row [.int .i64 own, w'] true)) w' (L ++ [x]) := by
  obtain ⟨w', u', h1, h2, h3⟩ := appV_oneC hC hO x 32 (by unfold roomBytes; omega)
  have h1 : appV (t.push (.row (Nb.av x) true)) 4 32 w (.sl t.next 0 1 (some 1) 4) = some (w', u') := h1
  have hb' : u'.get ib = some (.row [.int .i64 own, w] true) := appV_frame h1 (own_away hO hib) (get_push_some _ hb)
  have h4 := own_one h3
  have hlt := St.get_lt hb'
  refine ⟨w', u', h1, (row2_sto hb' h4.1 h4.2).2, hlt, h2.put _ (.inl (by simp)) hlt, St.get_put_same hb', ?_⟩
  rcases h3 with q | ⟨j, q, h5, h6, h7⟩
  · exact .inl q
  · refine .inr ⟨j, q, h5, h6, ?_⟩
    rw [St.get_put_ne _ _ hlt (by omega)]
    exact h7

end Go.AM
end
