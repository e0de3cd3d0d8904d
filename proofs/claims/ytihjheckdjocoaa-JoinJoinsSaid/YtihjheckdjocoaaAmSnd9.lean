/-
  What holds behind code whatever the maps hand out; and what is left of a function's memory for its caller. Own work of this project.
-/
import Derived.Test.YtihjheckdjocoaaAmSnd8
import Derived.Maps.RangeRun
set_option linter.unusedVariables false
set_option linter.unusedSimpArgs false
namespace Go.AM
open Go

variable {P : Program} {ρ : Ren}

/-! ### The next entry -/
theorem clean_or {w w1 : World} (h : w1 = w ∨ w1 = w.drew) : Clean w w1 := by
  rcases h with rfl | rfl
  · exact .refl _
  · exact clean_drew _
theorem run_next_none (w : World) (ty : TypeId) (r since c0 : Nat) (seen : Array Nat) (hr : w.heap[r]? = some (.mapIter none since seen c0)) : (Instr.next (.pointer (some ⟨r, 0, none⟩)) false ty).run P w = .ok (.tuple #[.bool false]) w := by
  simp [Instr.next, getObj, Sem.run, Sem.run_bind, hr]
theorem next_wp {o : Oper} {a : Act} {env : Env} {cl : Bool} {s : St} {w : World} {x : AO} {Ka : AV → St → Prop} {K : Act → World → Prop} {Q : Exit → Act → World → Prop} (hE : EnvR ρ env a.tmps) (hR : R s ρ w)
    (hop : cop P cl o.op = .nxt x) (h : anext (aev env x) s Ka) (hK : ∀ v s' w' c, Ka v s' → Step s s' ρ ρ w w' → R s' ρ w' → VR ρ v c → K (a.put o.dst c) w') : o.wp P a w K Q := by
  obtain ⟨hok, hc⟩ := cop_ok (P := P) (cl := cl) (op := o.op) (by rw [hop]; simp)
  rw [hc] at hop
  cases ho : o.op with
  | next it str =>
    rw [ho] at hop hok
    simp only [cop0] at hop
    split at hop
    · cases hop
    · rename_i hstr
      injection hop with hop; subst hop
      have hx := aev_rel hE (hok it (by simp [Op.operands]))
      have hgo : ∀ w' c, (Instr.next (a.eval it) str o.type).run P w = .ok c w' → K (a.put o.dst c) w' → o.wp P a w K Q := by
        intro w' c hrun hk
        unfold Oper.wp
        have : (execOp a.eval o).run P w = .ok (.value c) w' := by simp [execOp, ho, hrun]
        rw [this]
        exact hk
      have hstr' : str = false := by simpa using hstr
      subst hstr'
      unfold anext at h
      split at h
      · rename_i id hav
        rw [hav] at hx
        simp only [VR] at hx
        obtain ⟨L, hL, hval⟩ := hx
        split at h
        · rename_i since seen last hg
          have hb := hR.blk id _ L hg hL
          simp only [BlkOk] at hb
          obtain ⟨m', k1, k2, k3⟩ := hb
          rcases k3 with ⟨_, rfl⟩ | ⟨_, _, k4, _⟩
          · refine hgo w (.tuple #[.bool false]) (by rw [hval, k2]; exact run_next_none w _ _ _ _ _ k1) (hK _ _ _ _ h (Step.refl _ _ _) hR ?_)
            simp only [VR]
            exact ⟨[.bool false], rfl, VRs_cons.2 ⟨by simp [VR], VRs_nil⟩⟩
          · cases k4
        · rename_i m since seen last hg
          have hb := hR.blk id _ L hg hL
          simp only [BlkOk] at hb
          obtain ⟨m', k1, k2, k3⟩ := hb
          rcases k3 with ⟨k3, _⟩ | ⟨id', M, k4, k5, k6⟩
          · cases k3
          · injection k4 with k4; subst k4; subst k6
            split at h
            · rename_i es ck hgm
              obtain ⟨h1, h2, h3, h4⟩ := h
              obtain ⟨ces, hh, hEr⟩ := map_entries hR hgm k5
              have hidx : ∀ me ∈ ces.toList, ∃ e ∈ es, ER ρ e me := by
                intro me hme
                obtain ⟨i, hi⟩ := List.getElem?_of_mem hme
                have hlt := (List.getElem?_eq_some_iff.1 hi).1
                obtain ⟨me', e1, e2⟩ := hEr.2 i (es[i]'(by rw [hEr.1]; exact hlt)) (by simp [hEr.1, hlt])
                rw [hi] at e1; injection e1 with e1; subst e1
                exact ⟨_, List.getElem_mem _, e2⟩
              have hold : ∀ me ∈ ces.toList, me.born < since := by
                intro me hme
                obtain ⟨e, he, hke, hve, hbe⟩ := hidx me hme
                rw [hbe]
                exact h1 e he
              rcases run_next_at (P := P) w o.type L.b M.b since last seen.toArray ces ck k1 hh hold h2 with ⟨q1, q2⟩ | ⟨me, q1, w1, q2, q3⟩
              · refine hgo w (.tuple #[.bool false]) (by rw [hval, k2]; exact q2) (hK _ _ _ _ (h3 fun e he => ?_) (Step.refl _ _ _) hR ?_)
                · obtain ⟨i, hi⟩ := List.getElem?_of_mem he
                  obtain ⟨me, e1, _, _, e4⟩ := hEr.2 i e hi
                  have hmem : me ∈ ces.toList := List.mem_of_getElem? e1
                  by_cases hs : e.2.2 ∈ seen
                  · exact hs
                  · exfalso
                    have : me ∈ leftOf ces seen.toArray := by
                      unfold leftOf
                      rw [Array.mem_filter]
                      exact ⟨by simpa using hmem, by simp [e4, hs]⟩
                    have := Array.size_pos_of_mem this
                    omega
                · simp only [VR]
                  exact ⟨[.bool false], rfl, VRs_cons.2 ⟨by simp [VR], VRs_nil⟩⟩
              · have hme : me ∈ ces.toList ∧ me.born ∉ seen := by
                  unfold leftOf at q1
                  rw [Array.mem_toList_iff, Array.mem_filter] at q1
                  exact ⟨by simpa using q1.1, by simpa using q1.2⟩
                obtain ⟨e, he, hke, hve, hbe⟩ := hidx me hme.1
                have hk1 : w1.heap[L.b]? = some (.mapIter (some M.b) since seen.toArray last) := by rcases q2 with rfl | rfl <;> exact k1
                have hlt : L.b < w1.heap.size := (Array.getElem?_eq_some_iff.1 hk1).1
                have hcl := clean_or q2
                have hsz : w1.heap.size = w.heap.size := by rcases q2 with rfl | rfl <;> rfl
                have hput := R.put (b := .iter (some m) since (seen ++ [e.2.2]) ck) (w' := ChangeMaps.setBlock w1 L.b (.mapIter (some M.b) since (seen.toArray.push me.born) ck)) (hR.clean hcl) hg rfl hL (by
                    simp only [BlkOk]
                    refine ⟨some M.b, ?_, k2, .inr ⟨m, M, rfl, k5, rfl⟩⟩
                    rw [hbe]
                    simp [ChangeMaps.setBlock, hlt]) (by simp [ChangeMaps.setBlock]) rfl rfl rfl (Nat.le_refl _) (fun j hj => by simp [ChangeMaps.setBlock, Array.getElem?_setIfInBounds_ne (Ne.symm hj)])
                refine hgo _ (.tuple #[.bool true, me.key, me.val]) (by rw [hval, k2]; exact q3) (hK _ _ _ _ (h4 e he (by rw [← hbe]; exact hme.2)) ((hcl.step s ρ).trans hput.2) hput.1 ?_)
                simp only [VR]
                exact ⟨[.bool true, me.key, me.val], rfl, VRs_cons.2 ⟨by simp [VR], VRs_cons.2 ⟨hke, VRs_cons.2 ⟨hve, VRs_nil⟩⟩⟩⟩
            · exact h.elim
        · exact h.elim
      · exact h.elim
  | makeFunc fn first caps =>
    exfalso
    rw [ho] at hop
    revert hop
    cases fn <;> simp only [cop0] <;> (try split) <;> simp
  | _ =>
    exfalso
    rw [ho] at hop
    revert hop
    simp only [cop0, ccall]
    repeat' split
    all_goals simp

theorem awops_wp {call : Nat → List AV → St → Option (AV × St)} (hS : Sound P call) {ops : Array Oper} {base : Nat} {Q : Exit → Act → World → Prop} {Qa : Env → St → Prop} : ∀ (os : List Oper) (k : Nat) (l : List AOper) (env : Env) (s : St) (ρ : Ren) (a : Act) (w : World),
    (∀ j, os[j]? = ops[k + j]?) → cregP P ops os = some l → awops call base l Qa env s → EnvR ρ env a.tmps → R s ρ w → Free s ρ → a.defers = [] →
    (∀ env' s' ρ' a' w', Qa env' s' → Step s s' ρ ρ' w w' → R s' ρ' w' → Free s' ρ' → EnvR ρ' env' a'.tmps → a'.defers = [] → Q .normal a' w') → wpOps P ops Q (List.range' k os.length) a w
  | [], k, l, env, s, ρ, a, w, _, hl, h, hE, hR, hf, hd, hQ => by
    simp only [cregP] at hl
    injection hl with hl; subst hl
    simp only [awops] at h
    exact hQ env s ρ a w h (Step.refl _ _ _) hR hf hE hd
  | o :: os, k, l, env, s, ρ, a, w, hix, hl, h, hE, hR, hf, hd, hQ => by
    simp only [cregP] at hl
    split at hl
    · rename_i g l' hg hl'
      injection hl with hl; subst hl
      have ho : ops[k]? = some o := by have := hix 0; simpa using this.symm
      simp only [List.length_cons, List.range'_succ, wpOps, ho]
      have hix' : ∀ j, os[j]? = ops[k + 1 + j]? := fun j => by have := hix (j + 1); simpa [Nat.add_assoc, Nat.add_comm 1] using this
      simp only [awops] at h
      split at h
      · rename_i hwt
        rw [wanted_rel hE hg hwt, if_pos rfl]
        left
        have hgo : ∀ v s1 ρ' w' c, awops call base l' Qa (putE env o.dst v) s1 → Step s s1 ρ ρ' w w' → R s1 ρ' w' → VR ρ' v c → wpOps P ops Q (List.range' (k + 1) os.length) (a.put o.dst c) w' := by
          intro v s1 ρ' w' c hrest hst hr hv
          refine awops_wp hS os (k + 1) l' _ s1 ρ' _ w' hix' hl' hrest ((hE.step hf hst).put hv o.dst) hr (hf.step hst) ?_ ?_
          · cases hdst : o.dst <;> simpa [Act.put] using hd
          · intro env2 s2 ρ2 a2 w2 hq2 hst2 hr2 hf2 hE2 hd2
            exact hQ env2 s2 ρ2 a2 w2 hq2 (hst.trans hst2) hr2 hf2 hE2 hd2
        split at h
        · rename_i x hopx
          exact next_wp hE hR hopx h fun v s1 w' c hrest hst hr hv => hgo v s1 ρ w' c hrest hst hr hv
        · split at h
          · rename_i v s1 hop
            exact aop_wp hS hE hR hf hop fun ρ' w' c hst hr hv => hgo v s1 ρ' w' c h hst hr hv
          · exact h.elim
      · rename_i hwt
        rw [wanted_rel hE hg hwt, if_neg (by simp)]
        refine awops_wp hS os (k + 1) l' _ s ρ _ w hix' hl' h (hE.put (by simp [VR]) o.dst) hR hf ?_ hQ
        cases hdst : o.dst <;> simpa [Act.put] using hd
      · exact h.elim
    · cases hl

/-- Code, whatever the maps hand out. -/
theorem awp_wp {call : Nat → List AV → St → Option (AV × St)} (hS : Sound P call) (hm : P.follows .mixedOrders = true) : ∀ (c : Code) (Qa : AEx → Env → St → Prop) (env : Env) (s : St) (ρ : Ren) (a : Act) (w : World) (Q : Exit → Act → World → Prop),
    awp call (ccode P c) Qa env s → EnvR ρ env a.tmps → R s ρ w → Free s ρ → a.defers = [] →
    (∀ x env' s' ρ' a' w', Qa x env' s' → Step s s' ρ ρ' w w' → R s' ρ' w' → Free s' ρ' → EnvR ρ' env' a'.tmps → a'.defers = [] → Q x.out a' w') → c.wp P Q a w := by
  intro c
  induction c with
  | skip =>
    intro Qa env s ρ a w Q h hE hR hf hd hQ
    simp only [ccode, awp] at h
    exact wp_skip (hQ .nor env s ρ a w h (.refl _ _ _) hR hf hE hd)
  | exit id =>
    intro Qa env s ρ a w Q h hE hR hf hd hQ
    simp only [ccode, awp] at h
    exact wp_exit (hQ (.exit id) env s ρ a w h (.refl _ _ _) hR hf hE hd)
  | ret =>
    intro Qa env s ρ a w Q h hE hR hf hd hQ
    simp only [ccode, awp] at h
    exact wp_ret (hQ .ret env s ρ a w h (.refl _ _ _) hR hf hE hd)
  | seq c d ihc ihd =>
    intro Qa env s ρ a w Q h hE hR hf hd hQ
    simp only [ccode, awp] at h
    refine wp_seq (ihc _ env s ρ a w _ h hE hR hf hd fun x env1 s1 ρ1 a1 w1 hx g1 g2 g3 g4 g5 => ?_)
    cases x with
    | nor => exact ihd Qa env1 s1 ρ1 a1 w1 Q hx g4 g2 g3 g5 fun y env2 s2 ρ2 a2 w2 hy k1 k2 k3 k4 k5 => hQ y env2 s2 ρ2 a2 w2 hy (g1.trans k1) k2 k3 k4 k5
    | exit id => exact hQ (.exit id) env1 s1 ρ1 a1 w1 hx g1 g2 g3 g4 g5
    | ret => exact hQ .ret env1 s1 ρ1 a1 w1 hx g1 g2 g3 g4 g5
  | cond q c d ihc ihd =>
    intro Qa env s ρ a w Q h hE hR hf hd hQ
    simp only [ccode] at h
    split at h
    · rename_i hok
      simp only [awp] at h
      have hv := aev_rel hE hok
      split at h
      · rename_i hb
        rw [hb] at hv
        simp only [VR] at hv
        exact wp_cond_true hv (ihc Qa env s ρ a w Q h hE hR hf hd hQ)
      · rename_i hb
        rw [hb] at hv
        simp only [VR] at hv
        exact wp_cond_false hv (ihd Qa env s ρ a w Q h hE hR hf hd hQ)
      · exact h.elim
    · simp only [awp] at h
  | block id c ih =>
    intro Qa env s ρ a w Q h hE hR hf hd hQ
    simp only [ccode, awp] at h
    refine wp_block (ih _ env s ρ a w _ h hE hR hf hd fun x env1 s1 ρ1 a1 w1 hx g1 g2 g3 g4 g5 => ?_)
    cases x with
    | nor => exact hQ .nor env1 s1 ρ1 a1 w1 hx g1 g2 g3 g4 g5
    | exit i =>
      simp only at hx
      by_cases hi : i = id
      · rw [if_pos hi] at hx
        simp only [AEx.out, Exit.inBlock, if_pos hi]
        exact hQ .nor env1 s1 ρ1 a1 w1 hx g1 g2 g3 g4 g5
      · rw [if_neg hi] at hx
        simp only [AEx.out, Exit.inBlock, if_neg hi]
        exact hQ (.exit i) env1 s1 ρ1 a1 w1 hx g1 g2 g3 g4 g5
    | ret => exact hQ .ret env1 s1 ρ1 a1 w1 hx g1 g2 g3 g4 g5
  | loop c ih =>
    intro Qa env s ρ a w Q h hE hR hf hd hQ
    simp only [ccode, awp] at h
    obtain ⟨n, h⟩ := h
    refine wp_loop_rounds n ?_
    induction n generalizing env s ρ a w with
    | zero => exact h.elim
    | succ n ihn =>
      simp only [arounds] at h
      rw [rounds_succ]
      refine ih _ env s ρ a w _ h hE hR hf hd fun x env1 s1 ρ1 a1 w1 hx g1 g2 g3 g4 g5 => ?_
      cases x with
      | nor => exact ihn env1 s1 ρ1 a1 w1 g4 g2 g3 g5 (fun y env2 s2 ρ2 a2 w2 hy k1 k2 k3 k4 k5 => hQ y env2 s2 ρ2 a2 w2 hy (g1.trans k1) k2 k3 k4 k5) hx
      | exit id => exact hQ (.exit id) env1 s1 ρ1 a1 w1 hx g1 g2 g3 g4 g5
      | ret => exact hQ .ret env1 s1 ρ1 a1 w1 hx g1 g2 g3 g4 g5
  | region id ops draw =>
    intro Qa env s ρ a w Q h hE hR hf hd hQ
    cases draw
    · simp only [ccode] at h
      split at h
      · rename_i l hl
        simp only [awp] at h
        refine wp_region ?_
        rw [List.range_eq_range']
        have := awops_wp (Q := Q) hS ops.toList 0 l env s ρ a w (fun j => by simp) hl h hE hR hf hd fun env' s' ρ' a' w' hq g1 g2 g3 g4 g5 => hQ .nor env' s' ρ' a' w' hq g1 g2 g3 g4 g5
        simpa using this
      · simp only [awp] at h
    · simp only [ccode] at h
      split at h
      · rename_i l k hl
        split at h
        · rename_i hdr
          simp only [awp] at h
          obtain ⟨env1, s1, ho, hq⟩ := h
          exact regd_wp hS hm hl hdr ho hE hR hf hd fun ρ' a' w' g1 g2 g3 g4 g5 => hQ .nor env1 s1 ρ' a' w' hq g1 g2 g3 g4 g5
        · simp only [awp] at h
      · simp only [awp] at h
  | _ =>
    intro Qa env s ρ a w Q h hE hR hf hd hQ
    simp only [ccode, awp] at h

end Go.AM
