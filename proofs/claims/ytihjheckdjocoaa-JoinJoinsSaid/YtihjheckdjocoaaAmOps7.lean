/-
  Effects and calls as steps of the model. Own work of this project.
-/
import Derived.Test.YtihjheckdjocoaaAmOps6
import Derived.Lib.ConvBytes
import Derived.Laws.AppendOwn
set_option linter.unusedVariables false
set_option linter.unusedSimpArgs false
namespace Go.AM
open Go

variable {P : Program} {ρ : Ren}

/-- No block is lost. -/
def Grow (s s' : St) : Prop := s.next ≤ s'.next ∧ ∀ id, id < s.next → s.get id ≠ none → s'.get id ≠ none
/-- What a contract promises: wherever the abstract machine answers, the model's call returns that answer. -/
def SoundAt (P : Program) (f : Nat) (c : List AV → St → Option (AV × St)) : Prop :=
  ∀ (args : List AV) (s : St) (r : AV) (s' : St), c args s = some (r, s') → callable P f = true ∧ Grow s s' ∧
    ∀ (ρ : Ren) (w : World) (cargs : List Value), (∀ id, s.next ≤ id → ρ id = none) → R s ρ w → VRs ρ args cargs →
      Calls P f cargs.toArray w fun e w' => ∃ ρ' v, e = .returned v ∧ VR ρ' r v ∧ Step s s' ρ ρ' w w' ∧ R s' ρ' w'
def Sound (P : Program) (call : Nat → List AV → St → Option (AV × St)) : Prop := ∀ f, SoundAt P f (call f)

theorem Step.relow {s s' : St} {ρ ρ' : Ren} {w w' : World} {n m : Nat} (h : Step { s with low := n } s' ρ ρ' w w') (hm : m = min s.low s'.low) : Step s { s' with low := m } ρ ρ' w w' := by
  subst hm
  refine ⟨h.next, Nat.min_le_left _ _, h.ren, h.size, h.os, h.tape, h.output, h.drawn, fun b hb H => h.frame b hb fun id L blk h1 h2 h3 h4 => H id L blk ?_ h2 h3 h4, h.old, fun id L blk h1 h2 h3 h4 => ?_, h.unm⟩
  · show min s.low s'.low ≤ id
    omega
  · rcases h.new id L blk h1 h2 h3 h4 with q | ⟨id0, L0, b0, q1, q2⟩
    · exact .inl q
    · refine .inr ⟨id0, L0, b0, ?_, q2⟩
      show min s.low s'.low ≤ id0
      omega

/-- A call of a function by its number, the arguments evaluated. -/
theorem call_wp {call : Nat → List AV → St → Option (AV × St)} (hS : Sound P call) {o : Oper} {a : Act} {s s' : St} {w : World} {f : Nat} {cl : Bool} {args : List AV} {cargs : List Value} {v : AV} {K : Act → World → Prop} {Q : Exit → Act → World → Prop}
    (hrun : (execOp a.eval o).run P w = (callFunc f cargs.toArray).run P w) (hargs : VRs ρ args cargs) (hR : R s ρ w) (h : acall (call f) cl args s = some (v, s'))
    (hf : ∀ id, s.next ≤ id → ρ id = none)
    (hK : ∀ ρ' w' c, Step s s' ρ ρ' w w' → R s' ρ' w' → VR ρ' v c → (cl = true → ρ' = ρ ∧ Clean w w') → K (a.put o.dst c) w') : o.wp P a w K Q := by
  unfold acall at h
  split at h
  · rename_i r s1 hc
    obtain ⟨hcal, hnext, hcalls⟩ := hS f args _ r s1 hc
    have hcalls := hcalls ρ w cargs hf (hR.low s.next) hargs
    have henter : (callFunc f cargs.toArray).run P w = .ok (.enter f cargs.toArray) w := by
      unfold callable at hcal
      cases hfn : P.funcs[f]? with
      | none => simp [hfn] at hcal
      | some fn =>
        simp only [hfn, Bool.and_eq_true, bne_iff_ne, ne_eq] at hcal
        cases hbd : fn.body with
        | none => simp [hbd] at hcal
        | some b => simp [callFunc, hfn, hcal.2, hbd]
    unfold Oper.wp
    rw [hrun, henter, Oper.upon_enter]
    refine hcalls.mono fun e w' hpost => ?_
    obtain ⟨ρ', c, rfl, hv, hst, hr⟩ := hpost
    show K (a.put o.dst c) w'
    split at h
    · rename_i hcl
      simp only [Bool.and_eq_true, decide_eq_true_eq] at hcl
      injection h with h
      obtain ⟨rfl, rfl⟩ := Prod.mk.inj h
      have hclean : Clean w w' := Step.clean (s := { s with low := s.next }) hst hcl.2
      exact hK ρ w' c (hclean.step s ρ) (hR.clean hclean) (VR.ground hcl.1 hv) fun _ => ⟨rfl, hclean⟩
    · split at h
      · cases h
      · rename_i hncl
        injection h with h
        obtain ⟨rfl, rfl⟩ := Prod.mk.inj h
        exact hK ρ' w' c (hst.relow rfl) (hr.low _) hv fun q => absurd q hncl
  · cases h

/-- The operation is a call: which function, with which arguments. -/
theorem exec_call {o : Oper} {a : Act} {env : Env} (hE : EnvR ρ env a.tmps) {c : Call} (hop : o.op = .call c) {f : Nat} (hc : c.callee = .value (.func f)) (w : World) : (execOp a.eval o).run P w = (callFunc f (c.args.toList.map a.eval).toArray).run P w := by
  obtain ⟨callee, args, argTypes⟩ := c
  simp only at hc
  subst hc
  have : (args.map a.eval) = (args.toList.map a.eval).toArray := by apply Array.ext'; simp
  simp [execOp, hop, resolve, Deferred.ofValue, Act.eval, invoke, this]
theorem exec_callv {o : Oper} {a : Act} {c : Call} (hop : o.op = .call c) {x : Operand} (hc : c.callee = .value x) {g : Nat} {caps : List Value} (hx : a.eval x = .func (.func g) #[] caps.toArray) (w : World) :
    (execOp a.eval o).run P w = (callFunc g (c.args.toList.map a.eval ++ caps).toArray).run P w := by
  obtain ⟨callee, args, argTypes⟩ := c
  simp only at hc
  subst hc
  have : (args.map a.eval) ++ caps.toArray = (args.toList.map a.eval ++ caps).toArray := by apply Array.ext'; simp
  simp [execOp, hop, resolve, hx, Deferred.ofValue, invoke, this]

/-- Calls, clean ones or not. -/
theorem calls_wp {call : Nat → List AV → St → Option (AV × St)} (hS : Sound P call) {o : Oper} {a : Act} {env : Env} {s s' : St} {w : World} {cl : Bool} {v : AV} {K : Act → World → Prop} {Q : Exit → Act → World → Prop}
    (hE : EnvR ρ env a.tmps) (hR : R s ρ w) (hf : ∀ id, s.next ≤ id → ρ id = none) (hic : (cop P cl o.op).isCall = true)
    (h : (match (generalizing := false) cop P cl o.op with
      | .call f k args => if k = cl then acall (call f) k (args.map (aev env)) s else none
      | .callv x k args => if k = cl then match aev env x with | .fn g caps => acall (call g) k (args.map (aev env) ++ caps) s | _ => none else none
      | _ => none) = some (v, s'))
    (hK : ∀ ρ' w' c, Step s s' ρ ρ' w w' → R s' ρ' w' → VR ρ' v c → (cl = true → ρ' = ρ ∧ Clean w w') → K (a.put o.dst c) w') : o.wp P a w K Q := by
  obtain ⟨hok, hc⟩ := cop_ok (P := P) (cl := cl) (op := o.op) (by intro e; rw [e] at hic; simp [AOp.isCall] at hic)
  rw [hc] at h hic
  clear hc
  cases hop : o.op with
  | call c =>
    rw [hop] at h hok hic
    simp only [cop0] at h hic
    have hargs : ∀ x ∈ c.args.toList, (copd x).ok = true := fun x hx => hok x (by simp [Op.operands, Call.operands]; exact .inr (by simpa using hx))
    cases hcal : c.callee with
    | value x =>
      have hx : (copd x).ok = true := hok x (by simp [Op.operands, Call.operands, hcal])
      have dyn : ∀ (_ : ccall P c cl = .callv (copd x) cl (c.args.toList.map copd)), o.wp P a w K Q := by
        intro hcc
        rw [hcc] at h
        simp only [if_true] at h
        have hxv := aev_rel hE hx
        split at h
        · rename_i g caps hav
          rw [hav] at hxv
          simp only [VR] at hxv
          obtain ⟨cs, hval, hcs⟩ := hxv
          exact call_wp hS (exec_callv hop hcal hval w) ((VRs_map hE c.args.toList hargs).append hcs) hR h hf hK
        · cases h
      cases x with
      | func f =>
        have : ccall P c cl = if callable P f then .call f cl (c.args.toList.map copd) else .bad := by unfold ccall; rw [hcal]
        rw [this] at h hic
        split at hic
        · rename_i hcb
          rw [if_pos hcb] at h
          simp only [if_true] at h
          exact call_wp hS (exec_call hE hop hcal w) (VRs_map hE c.args.toList hargs) hR h hf hK
        · simp [AOp.isCall] at hic
      | tmp t => exact dyn (by unfold ccall; rw [hcal])
      | const k => exact dyn (by unfold ccall; rw [hcal])
      | global k => exact dyn (by unfold ccall; rw [hcal])
    | invoke r m => unfold ccall at hic; rw [hcal] at hic; simp [AOp.isCall] at hic
    | builtin b =>
      exfalso
      unfold ccall at hic
      rw [hcal] at hic
      simp only at hic
      revert hic
      repeat' split
      all_goals simp [AOp.isCall]
  | makeFunc fn first caps =>
    rw [hop] at hic
    exfalso
    revert hic
    cases fn <;> simp only [cop0] <;> (try split) <;> simp [AOp.isCall]
  | _ =>
    rw [hop] at hic
    exfalso
    revert hic
    simp only [cop0]
    repeat' split
    all_goals simp [AOp.isCall]

/-! ### The other effects -/
theorem ERs.set {es : List (AV × AV × Nat)} {ms : List MapEntry} (h : ERs ρ es ms) (j : Nat) {e : AV × AV × Nat} {m : MapEntry} (k : ER ρ e m) : ERs ρ (es.set j e) (ms.set j m) := by
  refine ⟨by simp [h.1], fun i x hx => ?_⟩
  by_cases hij : i = j
  · subst hij
    have hlt : i < es.length := by have := (List.getElem?_eq_some_iff.1 hx).1; simpa using this
    rw [List.getElem?_set_self hlt] at hx
    injection hx with hx; subst hx
    exact ⟨m, List.getElem?_set_self (by rw [← h.1]; exact hlt), k⟩
  · rw [List.getElem?_set_ne (Ne.symm hij)] at hx ⊢
    exact h.2 i x hx
theorem ERs.snoc {es : List (AV × AV × Nat)} {ms : List MapEntry} (h : ERs ρ es ms) {e : AV × AV × Nat} {m : MapEntry} (k : ER ρ e m) : ERs ρ (es ++ [e]) (ms ++ [m]) := by
  have hl := h.1
  refine ⟨by simp [hl], fun i x hx => ?_⟩
  by_cases hi : i < es.length
  · rw [List.getElem?_append_left hi] at hx
    rw [List.getElem?_append_left (by omega)]
    exact h.2 i x hx
  · rw [List.getElem?_append_right (by omega)] at hx
    rw [List.getElem?_append_right (by omega)]
    rw [hl] at hx
    cases hq : i - ms.length with
    | zero => rw [hq] at hx; simp at hx; subst hx; exact ⟨m, by simp, k⟩
    | succ q => rw [hq] at hx; simp at hx
theorem ERs.erase {es : List (AV × AV × Nat)} {ms : List MapEntry} (h : ERs ρ es ms) (j : Nat) : ERs ρ (es.eraseIdx j) (ms.eraseIdx j) := by
  refine ⟨by simp [List.length_eraseIdx, h.1], fun i x hx => ?_⟩
  rw [List.getElem?_eraseIdx] at hx ⊢
  split at hx
  · rename_i hlt; rw [if_pos hlt]; exact h.2 i x hx
  · rename_i hlt; rw [if_neg hlt]; exact h.2 (i + 1) x hx
theorem ERs.blk {L : Loc} {w : World} {es : List (AV × AV × Nat)} {ck : Nat} {ces : Array MapEntry} (hh : w.heap[L.b]? = some (.map ces ck)) (h : ERs ρ es ces.toList) : BlkOk ρ L w (.map es ck) := by
  simp only [BlkOk]
  exact ⟨ces, hh, by simpa using h.1, fun i e he => by obtain ⟨m, hm, hr⟩ := h.2 i e he; exact ⟨m, by simpa using hm, hr⟩⟩

theorem setObj_heap {w : World} {b : Nat} {o o' : Obj} (h : w.heap[b]? = some o) (hc : ∀ c e f, o ≠ .cells c e f) : (setObj b o').run P w = .ok () { w with heap := w.heap.setIfInBounds b o' } ∧
    ({ w with heap := w.heap.setIfInBounds b o' } : World).heap[b]? = some o' ∧ (∀ k, k ≠ b → ({ w with heap := w.heap.setIfInBounds b o' } : World).heap[k]? = w.heap[k]?) := by
  have hlt : b < w.heap.size := (Array.getElem?_eq_some_iff.1 h).1
  refine ⟨?_, by simp [hlt], fun k hk => by simp [Array.getElem?_setIfInBounds_ne (Ne.symm hk)]⟩
  cases o <;> first | exact absurd rfl (hc _ _ _) | simp only [setObj, Sem.run, h]

/-- A map's block is written. -/
theorem R.setMap {s : St} {w : World} {id : Nat} {es es' : List (AV × AV × Nat)} {ck ck' : Nat} {L : Loc} {ces ces' : Array MapEntry} (hR : R s ρ w) (hg : s.get id = some (.map es ck)) (hL : ρ id = some L) (hh : w.heap[L.b]? = some (.map ces ck)) (he : ERs ρ es' ces'.toList) :
    ∃ w', (setObj L.b (.map ces' ck')).run P w = .ok () w' ∧ R (s.put id (.map es' ck')) ρ w' ∧ Step s (s.put id (.map es' ck')) ρ ρ w w' := by
  obtain ⟨h1, h2, h3⟩ := setObj_heap (P := P) (o' := .map ces' ck') hh (by intro _ _ _ q; cases q)
  exact ⟨_, h1, R.put hR hg rfl hL (ERs.blk h2 he) (by simp) rfl rfl rfl (Nat.le_refl _) h3⟩

theorem sameBits_eqF {k : FK} {x y : AV} {cx cy : Value} (hx : VR ρ x cx) (hy : VR ρ y cy) (h : eqF k x y = some true) (n : Nat) : Instr.sameBits n cy cx = true := by
  cases k
  · obtain ⟨a, b, rfl, rfl, e⟩ := eqF_bo h
    simp only [VR] at hx hy; subst hx; subst hy
    have : a = b := by simpa using e.symm
    subst this
    cases n <;> simp [Instr.sameBits]
  · obtain ⟨k, a, b, rfl, rfl, e⟩ := eqF_i h
    simp only [VR] at hx hy; subst hx; subst hy
    have : a = b := by simpa using e.symm
    subst this
    cases n <;> simp [Instr.sameBits]
  · obtain ⟨a, b, rfl, rfl, e⟩ := eqF_s h
    simp only [VR] at hx hy; subst hx; subst hy
    have e' : a.toList = b.toList := by rw [beq_toListBytes] at e; simpa using e.symm
    cases n <;> simp [Instr.sameBits, beq_toListBytes, e']
theorem sameBits_eqL : ∀ {ks : List FK} {xs ys : List AV} {cs ds : List Value}, VRs ρ xs cs → VRs ρ ys ds → eqL ks xs ys = some true → ∀ n, ds.length = cs.length ∧ ((ds.zip cs).all fun (x, y) => Instr.sameBits n x y) = true
  | [], [], [], cs, ds, hx, hy, _, n => by simp only [VRs] at hx hy; subst hx; subst hy; simp
  | [], [], _ :: _, _, _, _, _, h, _ => by simp [eqL] at h
  | [], _ :: _, _, _, _, _, _, h, _ => by simp [eqL] at h
  | _ :: _, [], _, _, _, _, _, h, _ => by simp [eqL] at h
  | _ :: _, _ :: _, [], _, _, _, _, h, _ => by simp [eqL] at h
  | k :: ks, x :: xs, y :: ys, cs, ds, hx, hy, h, n => by
    simp only [VRs] at hx hy
    obtain ⟨c, cr, rfl, hx1, hx2⟩ := hx
    obtain ⟨d, dr, rfl, hy1, hy2⟩ := hy
    simp only [eqL] at h
    split at h
    · rename_i p q hp hq
      injection h with h
      simp only [Bool.and_eq_true] at h
      obtain ⟨rfl, rfl⟩ := h
      have ih := sameBits_eqL hx2 hy2 hq n
      exact ⟨by simp [ih.1], by simp only [List.zip_cons_cons, List.all_cons, sameBits_eqF hx1 hy1 hp n, Bool.true_and]; exact ih.2⟩
    · cases h
theorem sameBits_eqK {k : EK} {x y : AV} {cx cy : Value} (hx : VR ρ x cx) (hy : VR ρ y cy) (h : eqK k x y = some true) : Instr.sameBits 10000 cy cx = true := by
  cases k <;> simp only [eqK] at h <;> (try (cases h; done))
  · cases x <;> cases y <;> simp at h
    simp only [VR] at hx hy
    obtain ⟨cs, rfl, hx⟩ := hx
    obtain ⟨ds, rfl, hy⟩ := hy
    obtain ⟨h1, h2⟩ := sameBits_eqL hx hy h 9999
    show Instr.sameBits (9999 + 1) _ _ = true
    simp only [Instr.sameBits, List.size_toArray, Bool.and_eq_true, beq_iff_eq]
    exact ⟨h1, h2⟩
  · exact sameBits_eqF hx hy h 10000
theorem findE_eq {k : EK} {x : AV} : ∀ {es : List (AV × AV × Nat)} {i j : Nat} {v : AV}, findE k x es i = some (some (j, v)) → i ≤ j ∧ ∃ y b, es[j - i]? = some (y, v, b) ∧ eqK k x y = some true
  | [], i, j, v, h => by simp [findE] at h
  | (y, u, b) :: es, i, j, v, h => by
    simp only [findE] at h
    split at h
    · rename_i he
      injection h with h; injection h with h
      obtain ⟨rfl, rfl⟩ := Prod.mk.inj h
      exact ⟨Nat.le_refl _, y, b, by simp, he⟩
    · obtain ⟨h1, y', b', h2, h3⟩ := findE_eq h
      refine ⟨by omega, y', b', ?_, h3⟩
      rw [show j - i = (j - (i + 1)) + 1 by omega]
      simpa using h2
    · cases h

theorem aappend_bytes {s s' : St} {sz bytes : Nat} {A : AV} {new : List AV} {k : Nat} {v : AV} (h : aappend s sz bytes A new k = some (v, s')) : k = 0 ∨ k * bytes ≤ roomBytes := by
  by_cases hk : k = 0
  · exact .inl hk
  · right
    cases A <;> simp only [aappend, hk, if_false] at h <;> (try (cases h; done))
    · split at h
      · split at h
        · split at h
          · rename_i hrb
            exact Nat.le_trans (Nat.mul_le_mul_right _ (by omega)) hrb.2
          · cases h
        · cases h
      · cases h
    · split at h
      · assumption
      · cases h
theorem bytesWorld_drawn (w : World) (e : TypeId) (b : ByteArray) : w.drawn ≤ (Lib.bytesWorld w e b).drawn := by
  unfold Lib.bytesWorld
  unfold World.freeze
  first | exact Nat.le_succ _ | (split <;> exact Nat.le_succ _)
theorem effs_wp {call : Nat → List AV → St → Option (AV × St)} {o : Oper} {a : Act} {env : Env} {s s' : St} {w : World} {cl : Bool} {v : AV} {K : Act → World → Prop} {Q : Exit → Act → World → Prop}
    (hE : EnvR ρ env a.tmps) (hR : R s ρ w) (hf : ∀ id, s.next ≤ id → id < s'.next → ρ id = none) (hic : (cop P cl o.op).isCall = false)
    (h : aeff call env s (cop P cl o.op) = some (v, s'))
    (hK : ∀ ρ' w' c, Step s s' ρ ρ' w w' → R s' ρ' w' → VR ρ' v c → K (a.put o.dst c) w') : o.wp P a w K Q := by
  obtain ⟨hok, hc⟩ := cop_ok (P := P) (cl := cl) (op := o.op) (by intro e; rw [e] at h; simp [aeff] at h)
  rw [hc] at h hic
  clear hc
  have done : ∀ {ρ' : Ren} {w' : World} {c : Value}, (execOp a.eval o).run P w = .ok (.value c) w' → Step s s' ρ ρ' w w' → R s' ρ' w' → VR ρ' v c → o.wp P a w K Q := by
    intro ρ' w' c hrun h1 h2 h3
    unfold Oper.wp
    rw [hrun]
    exact hK ρ' w' c h1 h2 h3
  have skip : ∀ {ρ' : Ren} {w' : World}, (execOp a.eval o).run P w = .ok .skip w' → Step s s' ρ ρ' w w' → R s' ρ' w' → VR ρ' v undef → o.wp P a w K Q := by
    intro ρ' w' hrun h1 h2 h3
    unfold Oper.wp
    rw [hrun]
    exact hK ρ' w' undef h1 h2 h3
  cases hop : o.op with
  | store t x y =>
    rw [hop] at h hok
    simp only [cop0] at h
    have hx := aev_rel hE (hok x (by simp [Op.operands]))
    have hy := aev_rel hE (hok y (by simp [Op.operands]))
    split at h
    · rename_i n hn
      simp only [aeff] at h
      split at h
      · rename_i id off hav
        rw [hav] at hx
        simp only [VR] at hx
        obtain ⟨L, hL, hval⟩ := hx
        split at h
        · rename_i cells hg
          split at h
          · rename_i hcs
            injection h with h
            obtain ⟨rfl, rfl⟩ := Prod.mk.inj h
            obtain ⟨ds, hds, hvs⟩ := VR.cells hcs.2.1 hy
            obtain ⟨w', hrun, hr, hst⟩ := R.store (P := P) hR hg hL (off := off) hvs hcs.2.1 (by omega)
            refine skip (ρ' := ρ) (w' := w') ?_ hst hr (by simp [VR])
            have hsz : ds.length = n := by have := hvs.len; omega
            simp [execOp, hop, Instr.storeAt, hval, Instr.sureAddr, storeVar, run_size hn, hsz, hds, hrun]
          · cases h
        · cases h
      · cases h
    · simp [aeff] at h
  | convert src dst x =>
    rw [hop] at h hok
    simp only [cop0] at h
    have hx := aev_rel hE (hok x (by simp [Op.operands]))
    split at h
    · simp [aeff] at h
    · split at h <;> simp [aeff] at h
    · rename_i e hu1 hu2
      split at h
      · rename_i hu3 hsz
        simp only [aeff] at h
        split at h
        · rename_i b hav
          rw [hav] at hx
          simp only [VR] at hx
          split at h
          · rename_i hb
            injection h with h
            obtain ⟨rfl, rfl⟩ := Prod.mk.inj h
            have hge : b.size ≤ grownCap w b.size 0 e := grownCap_ge w b.size 0 e
            have hfr : ρ s.next = none := hf _ (Nat.le_refl _) (by simp)
            have hbs : b.data.size = b.size := rfl
            have hcs : (Lib.bytesCells w e b).size = grownCap w b.size 0 e := by
              simp only [Lib.bytesCells, Array.size_append, Array.size_map, Array.size_replicate, hbs]
              omega
            have hclean : Clean w (Lib.bytesWorld w e b) := ⟨by rw [Lib.bytesWorld_size]; omega, rfl, rfl, rfl, bytesWorld_drawn w e b, fun k hk => Lib.bytesWorld_at_old w e b k hk⟩
            have hrun : (execOp a.eval o).run P w = .ok (.value (.slice (some ⟨w.heap.size, 0, none⟩) b.size (grownCap w b.size 0 e))) (Lib.bytesWorld w e b) := by
              have hconv := Lib.run_convert_string_bytes (P := P) w src dst e b hu1 hu2 hu3
              simp [execOp, hop, hx, hconv]
            obtain ⟨hr, hst⟩ := hR.push (b := .row (bytesAV b) true) (L := ⟨w.heap.size, 0, grownCap w b.size 0 e⟩) hclean hfr (Nat.le_refl _) (by rw [Lib.bytesWorld_size]; simp) (by
              simp only [BlkOk]
              refine ⟨_, e, _, Lib.bytesWorld_at_new w e b, hcs, by simp [bytesAV]; exact hge, fun i u hu => ?_, (fun _ i hi => by rw [hcs]; simp at hi ⊢; omega), bytesAV_one b⟩
              simp only [bytesAV, List.getElem?_map] at hu
              obtain ⟨q, hq, rfl⟩ := Option.map_eq_some_iff.1 hu
              refine ⟨.int .u8 (q.toNat : Int), ?_, by simp [VR]⟩
              have hlt : i < b.data.size := by have := (List.getElem?_eq_some_iff.1 hq).1; simpa using this
              simp only [Nat.zero_add, Lib.bytesCells]
              rw [Array.getElem?_append_left (by simpa using hlt)]
              simp only [Array.getElem?_map, Option.map_eq_some_iff]
              exact ⟨q, by simpa using hq, rfl⟩)
            refine done hrun hst hr ?_
            simp only [VR]
            exact ⟨_, _, _, Ren.set_same _ _ _, rfl, hge, (fun _ q => by cases q), .inr ⟨by simp, by simp⟩⟩
          · cases h
        · cases h
      · simp [aeff] at h
    · simp [aeff] at h
  | makeMap t r =>
    rw [hop] at h hok
    simp only [cop0] at h
    split at h
    · rename_i kt e hu
      simp only [aeff] at h
      have hgo : s' = s.push (.map [] 0) ∧ v = .mp s.next ∧ ∃ n, (execOp a.eval o).run P w = .ok (.value (.map (some n))) (pushW w (.map #[] 0)) ∧ n = w.heap.size := by
        cases r with
        | none =>
          simp at h
          exact ⟨h.2.symm, h.1.symm, _, by simp [execOp, hop, Instr.makeMap, pushW], rfl⟩
        | some x =>
          have hx := aev_rel hE (hok x (by simp [Op.operands]))
          simp only [Option.map_some] at h
          split at h
          · rename_i hq; cases hq
          · rename_i k n hq
            injection hq with hq
            rw [hq] at hx
            simp only [VR] at hx
            injection h with h
            obtain ⟨rfl, rfl⟩ := Prod.mk.inj h
            exact ⟨rfl, rfl, _, by simp [execOp, hop, Instr.makeMap, run_underlying hu, hx, asInt, asIntOf, pushW], rfl⟩
          · cases h
      obtain ⟨rfl, rfl, n, hrun, rfl⟩ := hgo
      have hfr : ρ s.next = none := hf _ (Nat.le_refl _) (by simp)
      obtain ⟨hr, hst⟩ := hR.push (b := .map [] 0) (L := ⟨w.heap.size, 0, 0⟩) (clean_pushW w (.map #[] 0)) hfr (Nat.le_refl _) (by simp) (ERs.blk (ces := #[]) (pushW_new w _) ⟨rfl, by simp⟩)
      exact done hrun hst hr (by simp only [VR]; exact ⟨_, Ren.set_same _ _ _, rfl⟩)
    · simp [aeff] at h
  | mapUpdate t m k x =>
    rw [hop] at h hok
    simp only [cop0] at h
    split at h
    · rename_i kt e hu
      split at h
      · rename_i k' hk
        simp only [aeff] at h
        have hm := aev_rel hE (hok m (by simp [Op.operands]))
        have hkv := aev_rel hE (hok k (by simp [Op.operands]))
        have hxv := aev_rel hE (hok x (by simp [Op.operands]))
        split at h
        · rename_i hkey
          simp only [Bool.and_eq_true] at hkey
          have hck := fun em w => run_checkKey_ok (P := P) hk hkey.1 hkv em w
          split at h
          · rename_i id hav
            rw [hav] at hm
            simp only [VR] at hm
            obtain ⟨L, hL, hval⟩ := hm
            split at h
            · rename_i es ck hg
              obtain ⟨ces, hh, hEr⟩ := map_entries hR hg hL
              have hget : (getObj L.b).run P w = .ok (.map ces ck) w := by simp [getObj, Sem.run, hh]
              split at h
              · rename_i j v' hfd
                obtain ⟨q, hq, hfound⟩ := run_findKey (P := P) hk hkv w hEr hfd
                cases q with
                | none => exact absurd hfound (by simp [Found])
                | some jc =>
                  obtain ⟨j', c⟩ := jc
                  simp only [Found] at hfound
                  obtain ⟨rfl, _⟩ := hfound
                  obtain ⟨_, y, b, hy, heq⟩ := findE_eq hfd
                  simp only [Nat.sub_zero] at hy
                  rw [hy] at h
                  injection h with h
                  obtain ⟨rfl, rfl⟩ := Prod.mk.inj h
                  obtain ⟨me, hme, e1, e2, e3⟩ := hEr.2 j _ hy
                  have hsame := sameBits_eqK hkv e1 heq
                  have hme' : ces[j]? = some me := by simpa using hme
                  obtain ⟨w', hrun, hr, hst⟩ := hR.setMap (P := P) (es' := es.set j (aev env (copd k), aev env (copd x), b)) (ck' := ck) (ces' := ces.modify j fun e => { e with key := a.eval k, val := a.eval x }) hg hL hh (by
                    have := hEr.set j (e := (aev env (copd k), aev env (copd x), b)) (m := { me with key := a.eval k, val := a.eval x }) ⟨hkv, hxv, e3⟩
                    have hlt : j < ces.size := (Array.getElem?_eq_some_iff.1 hme').1
                    have hset : (ces.modify j fun e => { e with key := a.eval k, val := a.eval x }).toList = ces.toList.set j { me with key := a.eval k, val := a.eval x } := by
                      apply List.ext_getElem?
                      intro i
                      by_cases hij : i = j
                      · subst hij
                        have hgi := (Array.getElem?_eq_some_iff.1 hme').2
                        simp [Array.getElem?_modify, hme', hlt, hgi]
                      · simp [Array.getElem?_modify, Ne.symm hij, List.getElem?_set_ne (Ne.symm hij)]
                    rw [hset]; exact this)
                  refine skip (ρ' := ρ) (w' := w') ?_ hst hr (by simp [VR])
                  simp [execOp, hop, Instr.mapUpdate, run_underlying hu, hval, hget, hck, hq, hme', Instr.keyThatStays, hsame, hrun]
              · rename_i hfd
                injection h with h
                obtain ⟨rfl, rfl⟩ := Prod.mk.inj h
                obtain ⟨q, hq, hfound⟩ := run_findKey (P := P) hk hkv w hEr hfd
                cases q with
                | some jc => exact absurd hfound (by simp [Found])
                | none =>
                  obtain ⟨w', hrun, hr, hst⟩ := hR.setMap (P := P) (es' := es ++ [(aev env (copd k), aev env (copd x), ck)]) (ck' := ck + 1) (ces' := ces.push { key := a.eval k, val := a.eval x, born := ck }) hg hL hh (by
                    have := hEr.snoc (e := (aev env (copd k), aev env (copd x), ck)) (m := { key := a.eval k, val := a.eval x, born := ck }) ⟨hkv, hxv, rfl⟩
                    simpa using this)
                  refine skip (ρ' := ρ) (w' := w') ?_ hst hr (by simp [VR])
                  simp [execOp, hop, Instr.mapUpdate, run_underlying hu, hval, hget, hck, hq, hrun]
              · cases h
            · cases h
          · cases h
        · cases h
      · simp [aeff] at h
    · simp [aeff] at h
  | call c =>
    rw [hop] at h hok hic
    simp only [cop0] at h hic
    have hargs : ∀ x ∈ c.args.toList, (copd x).ok = true := fun x hx => hok x (by simp [Op.operands, Call.operands]; exact .inr (by simpa using hx))
    cases hcal : c.callee with
    | value f =>
      exfalso
      unfold ccall at h hic
      rw [hcal] at h hic
      cases f <;> simp only at h hic
      · simp [AOp.isCall] at hic
      · simp [AOp.isCall] at hic
      · simp [AOp.isCall] at hic
      · split at hic
        · simp [AOp.isCall] at hic
        · rename_i hcb; rw [if_neg hcb] at h; simp [aeff] at h
    | invoke r m => unfold ccall at h; rw [hcal] at h; simp [aeff] at h
    | builtin b =>
      have hex := exec_builtin (a := a) hop hcal
      unfold ccall at h
      rw [hcal] at h
      simp only at h
      split at h
      · split at h <;> simp [aeff] at h
      · split at h <;> simp [aeff] at h
      · rename_i sA xA t u hA hT
        have hA' : c.args = #[sA, xA] := by apply Array.ext'; simpa using hA
        have hT' : c.argTypes = #[t, u] := by apply Array.ext'; simpa using hT
        have hs := aev_rel hE (hargs sA (by rw [hA]; simp))
        have hx := aev_rel hE (hargs xA (by rw [hA]; simp))
        split at h
        · rename_i e he
          have hu := slelem_spec he
          split at h
          · rename_i n b z k hn hb hz hux
            split at h
            · rename_i hnb
              simp only [Bool.and_eq_true, bne_iff_ne, ne_eq] at hnb
              obtain ⟨i, zv, hi, hzv, hzr, hzl, hzo⟩ := czero_spec (ρ := ρ) hz
              obtain ⟨i', hi', hin⟩ := csize_spec hn
              rw [hi] at hi'; injection hi' with hi'; subst hi'
              obtain ⟨i', hi', hbi⟩ := cbytes_spec hb
              rw [hi] at hi'; injection hi' with hi'; subst hi'
              subst hbi
              have hzs : zv.cells.size = n := by have := hzr.len; simp at this; omega
              simp only [aeff] at h
              split at h
              · rename_i q hav
                rw [hav] at hx
                simp only [VR] at hx
                split at h
                · rename_i hq
                  obtain ⟨m, rfl⟩ : ∃ m : Nat, q = (m : Int) := ⟨q.toNat, by omega⟩
                  simp only [Int.toNat_natCast] at h
                  have hzz : VRs ρ (zeros z m) (if m * n = 0 then [] else (Builtin.zeroCells zv.cells m).toList) := by
                    have h0 := VRs_zeros hzr m (m * n) (by rw [hzl, hin])
                    by_cases hmn : m * n = 0
                    · rw [if_pos hmn]
                      rw [hmn] at h0
                      have : ((Array.range 0).map fun i => zv.cells[i % zv.cells.size]!).toList = [] := by
                        have hr0 : Array.range 0 = #[] := rfl
                        rw [hr0]; simp
                      rwa [this] at h0
                    · rw [if_neg hmn]
                      have : (Builtin.zeroCells zv.cells m) = (Array.range (m * n)).map fun i => zv.cells[i % zv.cells.size]! := by unfold Builtin.zeroCells; rw [hzs]
                      rw [this]; exact h0
                  have hkb := aappend_bytes h
                  obtain ⟨ρ', w', cv, hrun, hv, hst, hr⟩ := append_step (P := P) (run := fun ca w => (Builtin.append_ #[t, u] o.type #[ca, .int .i64 (m : Int)]).run P w) (e := e) hR hin hzs hnb.1 hs hzz (by rw [zeros_length, hzl, hin]) (zeros_one hzo m)
                    (fun B nn cc hval hle => by
                      rw [hval]
                      rcases hkb with hkb | hkb
                      · exact run_appendz_room hu hi hin hzv hnb.2 hux (by rw [hkb]; simp) hle
                      · exact run_appendz_room hu hi hin hzv hnb.2 hux hkb hle)
                    (fun B nn cc olds hval hold hlt hrb => by
                      rw [hval] at hold ⊢
                      rw [← hin] at hold
                      exact run_appendz_grow hu hi hin hzv hnb.2 hux (by rw [hin] at hold; exact hold) hlt hrb) hf h
                  refine done (ρ' := ρ') (w' := w') (c := cv) ?_ hst hr hv
                  rw [hex]
                  have hrun' : (Builtin.append_ #[t, u] o.type #[a.eval sA, .int .i64 (m : Int)]).run P w = .ok cv w' := hrun
                  simp [builtin, hA', hT', hx, hrun']
                · cases h
              · cases h
            · simp [aeff] at h
          · rename_i n b z d hnd hn hb hz hux
            split at h
            · rename_i hnb
              simp only [Bool.and_eq_true, bne_iff_ne, ne_eq] at hnb
              obtain ⟨i, zv, hi, hzv, hzr, hzl, hzo⟩ := czero_spec (ρ := ρ) hz
              obtain ⟨i', hi', hin⟩ := csize_spec hn
              rw [hi] at hi'; injection hi' with hi'; subst hi'
              obtain ⟨i', hi', hbi⟩ := cbytes_spec hb
              rw [hi] at hi'; injection hi' with hi'; subst hi'
              subst hbi
              have hzs : zv.cells.size = n := by have := hzr.len; simp at this; omega
              have hd : ∀ k, d ≠ .int k := by
                intro k q; subst q
                first | exact hnd k rfl | exact hnd k hux
              simp only [aeff] at h
              split at h
              · rename_i new k hsh hlo
                obtain ⟨h1, h2, h3, cs, h4, h5⟩ := run_shown (P := P) hR hx hsh hlo k (Nat.le_refl _)
                rw [List.take_of_length_le (by omega)] at h5
                obtain ⟨ρ', w', cv, hrun, hv, hst, hr⟩ := append_step (P := P) (run := fun ca w => (Builtin.append_ #[t, u] o.type #[ca, a.eval xA]).run P w) (e := e) hR hin hzs hnb.1 hs h5 h2 h1
                  (fun B nn cc hval hle => by
                    rw [hval]
                    exact run_append_room hu hn hux hd (h3 w) (h4 w rfl) hle)
                  (fun B nn cc olds hval hold hlt hrb => by
                    rw [hval] at hold ⊢
                    exact run_append_grow hu hi hin hzv hnb.2 hux hd h3 (h4 w.drew rfl) hold hlt hrb) hf h
                refine done (ρ' := ρ') (w' := w') (c := cv) ?_ hst hr hv
                rw [hex]
                have hrun' : (Builtin.append_ #[t, u] o.type #[a.eval sA, a.eval xA]).run P w = .ok cv w' := hrun
                simp [builtin, hA', hT', hrun']
              · cases h
            · simp [aeff] at h
          · simp [aeff] at h
        · simp [aeff] at h
      · rename_i dA xA t u hA hT
        have hA' : c.args = #[dA, xA] := by apply Array.ext'; simpa using hA
        have hT' : c.argTypes = #[t, u] := by apply Array.ext'; simpa using hT
        have hd := aev_rel hE (hargs dA (by rw [hA]; simp))
        have hx := aev_rel hE (hargs xA (by rw [hA]; simp))
        split at h
        · rename_i e he
          have hu := slelem_spec he
          split at h
          · rename_i n hn
            split at h
            · rename_i hn0
              simp only [aeff] at h
              split at h
              · rename_i new k hav hsh hlo
                rw [hav] at hd
                injection h with h
                obtain ⟨rfl, rfl⟩ := Prod.mk.inj h
                simp only [VR] at hd
                obtain ⟨_, _, h3, cs, h4, _⟩ := run_shown (P := P) hR hx hsh hlo 0 (Nat.zero_le _)
                refine done (ρ' := ρ) (w' := w) (c := .int .i64 0) ?_ (Step.refl _ _ _) hR (by simp [VR])
                rw [hex]
                simp [builtin, hA', hT', Builtin.copy_, run_underlying hu, hd, h3, run_size hn, h4 w rfl, goInt]
              · rename_i id off len cap z new k hav hsh hlo
                rw [hav] at hd
                simp only [VR] at hd
                obtain ⟨L, A, cc, hL, hval, hlc, _, hc⟩ := hd
                split at h
                · rename_i hz
                  subst hz
                  split at h
                  · rename_i cells hg
                    split at h
                    · rename_i hfit
                      injection h with h
                      obtain ⟨rfl, rfl⟩ := Prod.mk.inj h
                      obtain ⟨h1, h2, h3, cs, h4, h5⟩ := run_shown (P := P) hR hx hsh hlo (min k len) (Nat.min_le_left _ _)
                      have hto : (new.take (min k len * z)).all AV.one = true := by
                        rw [List.all_eq_true] at h1 ⊢
                        intro y hy
                        exact h1 y (List.mem_of_mem_take hy)
                      have hmk : min k len * z ≤ len * z := Nat.mul_le_mul_right z (Nat.min_le_right _ _)
                      have hlt : (new.take (min k len * z)).length ≤ len * z := by simp; omega
                      rcases hc with hc | ⟨rfl, hc⟩
                      · have hl0 : len = 0 := by omega
                        subst hl0
                        have hcs0 : cs = [] := by
                          have := h5.len
                          apply List.eq_nil_of_length_eq_zero
                          simp at this
                          omega
                        subst hcs0
                        obtain ⟨w', hrun, hr, hst⟩ := R.store (P := P) hR hg hL (off := off) (vs := new.take (min k 0 * z)) (ds := []) (by simpa using VRs_nil) hto (by simp; omega)
                        have hw : w' = w := by simp [storeCells] at hrun; exact hrun.symm
                        subst hw
                        refine done (ρ' := ρ) (w' := w') (c := .int .i64 ((min k 0 : Nat) : Int)) ?_ hst hr (by simp [VR])
                        rw [hex]
                        have h4' := h4 w' rfl
                        simp at h4'
                        simp [builtin, hA', hT', Builtin.copy_, run_underlying hu, hval, h3, run_size hn, h4', goInt, storeCells]
                      · obtain ⟨w', hrun, hr, hst⟩ := R.store (P := P) hR hg hL (off := off) h5 hto (by omega)
                        refine done (ρ' := ρ) (w' := w') (c := .int .i64 ((min k len : Nat) : Int)) ?_ hst hr (by simp [VR])
                        rw [hex]
                        have hmin : Nat.min k len = min k len := rfl
                        simp [builtin, hA', hT', Builtin.copy_, run_underlying hu, hval, h3, run_size hn, hmin, h4 w rfl, hrun, goInt]
                    · cases h
                  · cases h
                · cases h
              · cases h
            · simp [aeff] at h
          · simp [aeff] at h
        · simp [aeff] at h
      · simp [aeff] at h
      · simp [aeff] at h
      · rename_i m k t ts hA hT
        have hA' : c.args = #[m, k] := by apply Array.ext'; simpa using hA
        have hT0 : c.argTypes[0]? = some t := by
          have : c.argTypes.toList[0]? = some t := by rw [hT]; rfl
          simpa using this
        have hm := aev_rel hE (hargs m (by rw [hA]; simp))
        have hkv := aev_rel hE (hargs k (by rw [hA]; simp))
        split at h
        · rename_i kt e hu
          split at h
          · rename_i k' hk
            simp only [aeff] at h
            split at h
            · rename_i hkey
              have hck := fun em w => run_checkKey_ok (P := P) hk hkey hkv em w
              split at h
              · rename_i hav
                rw [hav] at hm
                simp only [VR] at hm
                injection h with h
                obtain ⟨rfl, rfl⟩ := Prod.mk.inj h
                refine done (ρ' := ρ) (w' := w) (c := .tuple #[]) ?_ (Step.refl _ _ _) hR (by simp only [VR]; exact ⟨[], rfl, VRs_nil⟩)
                rw [hex]
                simp [builtin, hA', hT0, Builtin.delete_, run_underlying hu, hm, hck]
              · rename_i id hav
                rw [hav] at hm
                simp only [VR] at hm
                obtain ⟨L, hL, hval⟩ := hm
                split at h
                · rename_i es ck hg
                  obtain ⟨ces, hh, hEr⟩ := map_entries hR hg hL
                  have hget : (getObj L.b).run P w = .ok (.map ces ck) w := by simp [getObj, Sem.run, hh]
                  split at h
                  · rename_i j v' hfd
                    injection h with h
                    obtain ⟨rfl, rfl⟩ := Prod.mk.inj h
                    obtain ⟨q, hq, hfound⟩ := run_findKey (P := P) hk hkv w hEr hfd
                    cases q with
                    | none => exact absurd hfound (by simp [Found])
                    | some jc =>
                      obtain ⟨j', cc⟩ := jc
                      simp only [Found] at hfound
                      obtain ⟨rfl, _⟩ := hfound
                      obtain ⟨w', hrun, hr, hst⟩ := hR.setMap (P := P) (es' := es.eraseIdx j) (ck' := ck) (ces' := ces.eraseIdxIfInBounds j) hg hL hh (by
                        have := hEr.erase j
                        have hset : (ces.eraseIdxIfInBounds j).toList = ces.toList.eraseIdx j := by
                          unfold Array.eraseIdxIfInBounds
                          split
                          · simp
                          · rename_i hlt
                            rw [List.eraseIdx_of_length_le (by simpa using hlt)]
                        rw [hset]; exact this)
                      refine done (ρ' := ρ) (w' := w') (c := .tuple #[]) ?_ hst hr (by simp only [VR]; exact ⟨[], rfl, VRs_nil⟩)
                      rw [hex]
                      simp [builtin, hA', hT0, Builtin.delete_, run_underlying hu, hval, hget, hck, hq, hrun]
                  · rename_i hfd
                    injection h with h
                    obtain ⟨rfl, rfl⟩ := Prod.mk.inj h
                    obtain ⟨q, hq, hfound⟩ := run_findKey (P := P) hk hkv w hEr hfd
                    cases q with
                    | some jc => exact absurd hfound (by simp [Found])
                    | none =>
                      obtain ⟨s1, s2, s3⟩ := setObj_heap (P := P) (o' := .map ces ck) hh (by intro _ _ _ q; cases q)
                      have hclean : Clean w { w with heap := w.heap.setIfInBounds L.b (.map ces ck) } := ⟨by simp, rfl, rfl, rfl, Nat.le_refl _, fun b hb => by
                        by_cases hbl : b = L.b
                        · subst hbl; rw [s2, hh]
                        · exact s3 b hbl⟩
                      refine done (ρ' := ρ) (w' := { w with heap := w.heap.setIfInBounds L.b (.map ces ck) }) (c := .tuple #[]) ?_ (hclean.step s ρ) (hR.clean hclean) (by simp only [VR]; exact ⟨[], rfl, VRs_nil⟩)
                      rw [hex]
                      simp [builtin, hA', hT0, Builtin.delete_, run_underlying hu, hval, hget, hck, hq, s1]
                  · cases h
                · cases h
              · cases h
            · cases h
          · simp [aeff] at h
        · simp [aeff] at h
      · simp [aeff] at h
  | makeFunc fn first caps =>
    rw [hop] at h
    cases fn <;> simp only [cop0] at h <;> (try split at h) <;> simp [aeff] at h
  | range t x =>
    rw [hop] at h hok
    simp only [cop0] at h
    split at h
    · rename_i kt e hu
      simp only [aeff] at h
      have hx := aev_rel hE (hok x (by simp [Op.operands]))
      have hfin : ∀ (b : AB) (o' : Obj), v = .ptr s.next 0 → s' = s.push b → (Instr.range t (a.eval x)).run P w = .ok (.pointer (some ⟨w.heap.size, 0, none⟩)) (pushW w o') →
          BlkOk ρ ⟨w.heap.size, 0, 0⟩ (pushW w o') b → o.wp P a w K Q := by
        intro b o' hv hs hrun hb
        subst hv; subst hs
        have hfr : ρ s.next = none := hf _ (Nat.le_refl _) (by simp)
        obtain ⟨hr, hst⟩ := hR.push (b := b) (L := ⟨w.heap.size, 0, 0⟩) (clean_pushW w o') hfr (Nat.le_refl _) (by simp) (hb.mono (Ren.le_set _ hfr))
        exact done (c := .pointer (some ⟨w.heap.size, 0, none⟩)) (by simp only [execOp, hop, Sem.run_bind, hrun, Result.andThen_ok, Sem.run_pure]) hst hr (by simp only [VR]; exact ⟨_, Ren.set_same _ _ _, rfl⟩)
      split at h
      · rename_i hav
        rw [hav] at hx
        simp only [VR] at hx
        injection h with h
        obtain ⟨rfl, rfl⟩ := Prod.mk.inj h
        refine hfin _ (.mapIter none 0 #[] 0) rfl rfl (by simp [Instr.range, run_underlying hu, hx, pushW]) ?_
        simp only [BlkOk]
        exact ⟨none, pushW_new w _, by simp, .inl ⟨by simp, rfl⟩⟩
      · rename_i id hav
        rw [hav] at hx
        simp only [VR] at hx
        obtain ⟨L, hL, hval⟩ := hx
        split at h
        · rename_i es ck hg
          injection h with h
          obtain ⟨rfl, rfl⟩ := Prod.mk.inj h
          obtain ⟨ces, hh, hEr⟩ := map_entries hR hg hL
          have hget : (getObj L.b).run P w = .ok (.map ces ck) w := by simp [getObj, Sem.run, hh]
          refine hfin _ (.mapIter (some L.b) ck #[] ck) rfl rfl (by simp [Instr.range, run_underlying hu, hval, hget, pushW]) ?_
          simp only [BlkOk]
          exact ⟨some L.b, pushW_new w _, by simp, .inr ⟨id, L, by simp, hL, rfl⟩⟩
        · cases h
      · cases h
    · simp [aeff] at h
  | _ =>
    rw [hop] at h
    simp only [cop0] at h
    repeat' split at h
    all_goals simp [aeff] at h

end Go.AM
