/-
  Code, loops and functions. Own work of this project.
-/
import Derived.Test.YtihjheckdjocoaaAmSnd6
set_option linter.unusedVariables false
set_option linter.unusedSimpArgs false
set_option linter.unusedSectionVars false
namespace Go.AM
open Go

variable {P : Program} {ρ : Ren}

theorem uniq_res {r : Nat} : ∀ {l : List AOper}, (l.filterMap (·.res)).Nodup → ∀ {p q : Nat} {a b : AOper}, l[p]? = some a → l[q]? = some b → a.res = some r → b.res = some r → p = q
  | [], _, _, _, _, _, h, _, _, _ => by simp at h
  | o :: l, hn, p, q, a, b, hp, hq, ha, hb => by
    have hmem : ∀ (j : Nat) (c : AOper), l[j]? = some c → c.res = some r → r ∈ l.filterMap (·.res) := fun j c hj hc => List.mem_filterMap.2 ⟨c, List.mem_of_getElem? hj, hc⟩
    have htail : (l.filterMap (·.res)).Nodup := by
      rw [List.filterMap_cons] at hn
      split at hn
      · exact hn
      · exact (List.nodup_cons.1 hn).2
    have hhead : o.res = some r → r ∉ l.filterMap (·.res) := by
      intro h
      rw [List.filterMap_cons, h] at hn
      exact (List.nodup_cons.1 hn).1
    cases p with
    | zero =>
      simp at hp; subst hp
      cases q with
      | zero => rfl
      | succ q => exact absurd (hmem q b (by simpa using hq) hb) (hhead ha)
    | succ p =>
      cases q with
      | zero =>
        simp at hq; subst hq
        exact absurd (hmem p a (by simpa using hp) ha) (hhead hb)
      | succ q => exact congrArg _ (uniq_res htail (by simpa using hp) (by simpa using hq) ha hb)

/-- A region that draws its order. -/
theorem regd_wp {call : Nat → List AV → St → Option (AV × St)} (hS : Sound P call) (hm : P.follows .mixedOrders = true) {id : Nat} {ops : Array Oper} {l : List AOper} {k n : Nat} {env env' : Env} {s s' : St} {a : Act} {w : World} {Q : Exit → Act → World → Prop}
    (hcreg : cregD P (ancs ops) ops ops.toList 0 0 = some (l, n)) (hdraw : drawOk (ancs ops) ops l k = true) (h : aops call s.next l env (s.reserve k) = some (env', s')) (hE : EnvR ρ env a.tmps) (hR : R s ρ w) (hf : Free s ρ) (hd : a.defers = [])
    (hQ : ∀ ρ' a' w', Step s s' ρ ρ' w w' → R s' ρ' w' → Free s' ρ' → EnvR ρ' env' a'.tmps → a'.defers = [] → Q .normal a' w') : (Code.region id ops true).wp P Q a w := by
  obtain ⟨S, E, V, hT, h0, hE0, hS', hE'⟩ := trace_of l env env' _ s' h
  obtain ⟨hlen, hops⟩ := cregD_spec hcreg
  simp only [drawOk, Bool.and_eq_true] at hdraw
  obtain ⟨⟨⟨⟨_, hafter⟩, hpair⟩, hres⟩, huniq⟩ := hdraw
  have hnd := of_decide_eq_true huniq
  have hlen' : l.length = ops.size := by simpa using hlen
  have C : Ctx (ancs ops) call s k l S E V := by
    refine ⟨hT, h0, fun i o ho hk => ?_, fun p q r hp hq => ?_, fun i j a b hij ha hb => ?_, fun i hi => ?_⟩
    · have := List.all_eq_true.1 hres o (List.mem_of_getElem? ho)
      simp only [hk, bne_self_eq_false, Bool.false_or] at this
      split at this
      · rename_i r hr
        exact ⟨r, hr, of_decide_eq_true this⟩
      · cases this
    · obtain ⟨o1, e1, _, e3, _⟩ := hp
      obtain ⟨o2, f1, _, f3, _⟩ := hq
      exact uniq_res hnd e1 f1 e3 f3
    · have hj := (List.getElem?_eq_some_iff.1 hb).1
      have := List.all_eq_true.1 (List.all_eq_true.1 hpair j (List.mem_range.2 (by omega))) i (List.mem_range.2 hij)
      rw [ha, hb] at this
      simpa using this
    · obtain ⟨o, ho⟩ : ∃ o, l[i]? = some o := ⟨l[i]'hi, by simp⟩
      rcases hT.step i o ho with ⟨_, q⟩ | ⟨_, _, q⟩
      · exact grow_aop hS q
      · rw [q]; exact .refl _
  have hL0 : ∀ j, (Array.replicate ops.size false).getD j false = false := by
    intro j
    simp [Array.getD_eq_getD_getElem?, Array.getElem?_replicate]
    split <;> rfl
  have hgetold : ∀ j, j < s.next → (sE s.next l S E (fun j => (Array.replicate ops.size false).getD j false) 0).get j = s.get j := by
    intro j hj
    rw [C.get_no fun p r _ e => by omega, h0, St.get_reserve, if_pos hj]
  have hgetnew : ∀ j b, s.next ≤ j → (sE s.next l S E (fun j => (Array.replicate ops.size false).getD j false) 0).get j = some b → b = .unborn := by
    intro j b hj hg
    by_cases hal : ∃ p r, Al l E p r ∧ j = s.next + r
    · obtain ⟨p, r, ha, rfl⟩ := hal
      obtain ⟨b0, hb0, hs⟩ := C.get_al (L := fun j => (Array.replicate ops.size false).getD j false) (Nat.zero_le _) ha
      rw [hs] at hg
      simp only [hL0, Bool.false_eq_true, if_false] at hg
      injection hg with hg; exact hg.symm
    · rw [C.get_no fun p r h e => hal ⟨p, r, h, e⟩, h0, St.get_reserve, if_neg (by omega)] at hg
      split at hg
      · injection hg with hg; exact hg.symm
      · cases hg
  have hclean : Clean w { w with drawn := w.drawn + 1 } := clean_drew w
  have I : Inv s l S E V ρ w (fun j => (Array.replicate ops.size false).getD j false) 0 ρ a { w with drawn := w.drawn + 1 } := by
    refine ⟨Nat.zero_le _, fun j o _ _ => by simp [hL0], ?_, hd, (hR.clean hclean).sub fun j b M h1 h2 => ?_, ?_, fun j hj => ?_, fun p r ha _ => hf _ (by omega), fun p r ha _ b hb => ?_, fun p r _ _ hp => by omega⟩
    · have : ∀ j, curE l V (fun j => (Array.replicate ops.size false).getD j false) (E 0) j = E 0 := by
        intro j
        induction j with
        | zero => rfl
        | succ j ih =>
          simp only [curE]
          split
          · rw [if_neg (by rw [hL0]; simp)]
            exact ih
          · exact ih
      rw [this, hE0]
      exact hE
    · by_cases hj : j < s.next
      · rw [hgetold j hj] at h2
        exact .inr h2
      · rw [hgetnew j b (by omega) h2]
        exact .inl rfl
    · refine ⟨?_, ?_, fun _ _ => rfl, hclean.size, rfl, rfl, rfl, hclean.drawn, fun b hb _ => hclean.block b hb, fun j b h1 h2 h3 => ⟨b, by rw [← hgetold j h1]; exact h2, h3, fun h => h⟩, fun j M b h1 h2 h3 h4 => ?_, fun j h1 _ => hgetold j h1⟩
      · show s.next ≤ (S 0).next
        rw [h0]; simp
      · show (S 0).low ≤ s.low
        rw [h0]; simp
      · rw [hgetnew j b h1 h3] at h4
        cases h4
    · refine hf j ?_
      rw [h0] at hj
      simp at hj
      omega
    · have := C.lt ha
      rw [h0, St.get_reserve, if_neg (by omega), if_pos (by omega)] at hb
      injection hb with hb; subst hb; rfl
  refine wp_region_any hm (any_wp C hS rfl hlen' (fun j ao hj => ?_) (fun j o ho e he hb => ?_) (fun ρ' a' w' g1 g2 g3 g4 g5 => ?_) ops.size (Array.replicate ops.size false) 0 ρ a _ (by simp) (by simp) (fun j o _ hj => ?_) I)
  · obtain ⟨o, cl, e1, e2⟩ := hops j ao hj
    exact ⟨o, cl, by simpa using e1, e2⟩
  · have hj := (Array.getElem?_eq_some_iff.1 ho).1
    have := List.all_eq_true.1 hafter j (List.mem_range.2 hj)
    rw [ho] at this
    have := List.all_eq_true.1 this e he
    simpa [hb] using this
  · rw [hS'] at g1 g2 g3
    rw [hE'] at g4
    exact hQ ρ' a' w' g1 g2 g3 g4 g5
  · simp only [hL0] at hj
    cases hj

/-! ### Code -/
def AEx.out : AEx → Exit
  | .nor => .normal
  | .exit id => .exit id
  | .ret => .ret

def ExecOk (P : Program) (call : Nat → List AV → St → Option (AV × St)) (n : Nat) : Prop :=
  ∀ (c : Code) (x : AEx) (env env' : Env) (s s' : St) (ρ : Ren) (a : Act) (w : World) (Q : Exit → Act → World → Prop), aexec call n (ccode P c) env s = some (x, env', s') → EnvR ρ env a.tmps → R s ρ w → Free s ρ → a.defers = [] →
    (∀ ρ' a' w', Step s s' ρ ρ' w w' → R s' ρ' w' → Free s' ρ' → EnvR ρ' env' a'.tmps → a'.defers = [] → Q x.out a' w') → c.wp P Q a w
def LoopOk (P : Program) (call : Nat → List AV → St → Option (AV × St)) (n : Nat) : Prop :=
  ∀ (c : Code) (x : AEx) (env env' : Env) (s s' : St) (ρ : Ren) (a : Act) (w : World) (Q : Exit → Act → World → Prop), aexec call n (.loop (ccode P c)) env s = some (x, env', s') → EnvR ρ env a.tmps → R s ρ w → Free s ρ → a.defers = [] →
    (∀ ρ' a' w', Step s s' ρ ρ' w w' → R s' ρ' w' → Free s' ρ' → EnvR ρ' env' a'.tmps → a'.defers = [] → Q x.out a' w') → Code.rounds P c Q n a w

theorem loop_ok {call : Nat → List AV → St → Option (AV × St)} {n : Nat} (h1 : ExecOk P call n) (h2 : LoopOk P call n) : LoopOk P call (n + 1) := by
  intro c x env env' s s' ρ a w Q h hE hR hf hd hQ
  simp only [aexec] at h
  rw [rounds_succ]
  cases hb : aexec call n (ccode P c) env s with
  | none => rw [hb] at h; cases h
  | some r =>
    obtain ⟨y, env1, s1⟩ := r
    rw [hb] at h
    refine h1 c y env env1 s s1 ρ a w _ hb hE hR hf hd fun ρ1 a1 w1 g1 g2 g3 g4 g5 => ?_
    cases y with
    | nor =>
      simp only at h
      exact h2 c x env1 env' s1 s' ρ1 a1 w1 Q h g4 g2 g3 g5 fun ρ2 a2 w2 k1 k2 k3 k4 k5 => hQ ρ2 a2 w2 (g1.trans k1) k2 k3 k4 k5
    | exit id =>
      simp only at h
      injection h with h; injection h with h h'; injection h' with h' h''
      subst h; subst h'; subst h''
      exact hQ ρ1 a1 w1 g1 g2 g3 g4 g5
    | ret =>
      simp only at h
      injection h with h; injection h with h h'; injection h' with h' h''
      subst h; subst h'; subst h''
      exact hQ ρ1 a1 w1 g1 g2 g3 g4 g5

theorem exec_ok {call : Nat → List AV → St → Option (AV × St)} (hS : Sound P call) (hm : P.follows .mixedOrders = true) {n : Nat} (h1 : ExecOk P call n) (h2 : LoopOk P call (n + 1)) : ExecOk P call (n + 1) := by
  intro c x env env' s s' ρ a w Q h hE hR hf hd hQ
  cases c with
  | skip =>
    simp only [ccode, aexec] at h
    injection h with h; injection h with h h'; injection h' with h' h''
    subst h; subst h'; subst h''
    exact wp_skip (hQ ρ a w (.refl _ _ _) hR hf hE hd)
  | exit id =>
    simp only [ccode, aexec] at h
    injection h with h; injection h with h h'; injection h' with h' h''
    subst h; subst h'; subst h''
    exact wp_exit (hQ ρ a w (.refl _ _ _) hR hf hE hd)
  | ret =>
    simp only [ccode, aexec] at h
    injection h with h; injection h with h h'; injection h' with h' h''
    subst h; subst h'; subst h''
    exact wp_ret (hQ ρ a w (.refl _ _ _) hR hf hE hd)
  | seq c d =>
    simp only [ccode, aexec] at h
    cases hb : aexec call n (ccode P c) env s with
    | none => rw [hb] at h; cases h
    | some r =>
      obtain ⟨y, env1, s1⟩ := r
      rw [hb] at h
      refine wp_seq (h1 c y env env1 s s1 ρ a w _ hb hE hR hf hd fun ρ1 a1 w1 g1 g2 g3 g4 g5 => ?_)
      cases y with
      | nor =>
        simp only at h
        exact h1 d x env1 env' s1 s' ρ1 a1 w1 Q h g4 g2 g3 g5 fun ρ2 a2 w2 k1 k2 k3 k4 k5 => hQ ρ2 a2 w2 (g1.trans k1) k2 k3 k4 k5
      | exit id =>
        simp only at h
        injection h with h; injection h with h h'; injection h' with h' h''
        subst h; subst h'; subst h''
        exact hQ ρ1 a1 w1 g1 g2 g3 g4 g5
      | ret =>
        simp only at h
        injection h with h; injection h with h h'; injection h' with h' h''
        subst h; subst h'; subst h''
        exact hQ ρ1 a1 w1 g1 g2 g3 g4 g5
  | cond q c d =>
    simp only [ccode] at h
    split at h
    · rename_i hok
      simp only [aexec] at h
      have hv := aev_rel hE hok
      split at h
      · rename_i hb
        rw [hb] at hv
        simp only [VR] at hv
        exact wp_cond_true hv (h1 c x env env' s s' ρ a w Q h hE hR hf hd hQ)
      · rename_i hb
        rw [hb] at hv
        simp only [VR] at hv
        exact wp_cond_false hv (h1 d x env env' s s' ρ a w Q h hE hR hf hd hQ)
      · cases h
    · simp [aexec] at h
  | block id c =>
    simp only [ccode, aexec] at h
    cases hb : aexec call n (ccode P c) env s with
    | none => rw [hb] at h; cases h
    | some r =>
      obtain ⟨y, env1, s1⟩ := r
      rw [hb] at h
      refine wp_block (h1 c y env env1 s s1 ρ a w _ hb hE hR hf hd fun ρ1 a1 w1 g1 g2 g3 g4 g5 => ?_)
      cases y with
      | nor =>
        simp only at h
        injection h with h; injection h with h h'; injection h' with h' h''
        subst h; subst h'; subst h''
        exact hQ ρ1 a1 w1 g1 g2 g3 g4 g5
      | exit i =>
        simp only at h
        by_cases hi : i = id
        · rw [if_pos hi] at h
          injection h with h; injection h with h h'; injection h' with h' h''
          subst h; subst h'; subst h''
          simp only [AEx.out, Exit.inBlock, if_pos hi]
          exact hQ ρ1 a1 w1 g1 g2 g3 g4 g5
        · rw [if_neg hi] at h
          injection h with h; injection h with h h'; injection h' with h' h''
          subst h; subst h'; subst h''
          simp only [AEx.out, Exit.inBlock, if_neg hi]
          exact hQ ρ1 a1 w1 g1 g2 g3 g4 g5
      | ret =>
        simp only at h
        injection h with h; injection h with h h'; injection h' with h' h''
        subst h; subst h'; subst h''
        exact hQ ρ1 a1 w1 g1 g2 g3 g4 g5
  | loop c =>
    simp only [ccode] at h
    exact wp_loop_rounds (n + 1) (h2 c x env env' s s' ρ a w Q h hE hR hf hd hQ)
  | region id ops draw =>
    cases draw
    · simp only [ccode] at h
      split at h
      · rename_i l hl
        simp only [aexec] at h
        split at h
        · rename_i env1 s1 ho
          injection h with h; injection h with h h'; injection h' with h' h''
          subst h; subst h'; subst h''
          refine wp_region ?_
          rw [List.range_eq_range']
          have := aops_wp (Q := Q) hS ops.toList 0 l env env1 s s1 ρ a w (fun j => by simp) hl ho hE hR hf hd hQ
          simpa using this
        · cases h
      · simp [aexec] at h
    · simp only [ccode] at h
      split at h
      · rename_i l k hl
        split at h
        · rename_i hdr
          simp only [aexec] at h
          split at h
          · rename_i env1 s1 ho
            injection h with h; injection h with h h'; injection h' with h' h''
            subst h; subst h'; subst h''
            exact regd_wp hS hm hl hdr ho hE hR hf hd hQ
          · cases h
        · simp [aexec] at h
      · simp [aexec] at h
  | _ => simp [ccode, aexec] at h

theorem exec_all {call : Nat → List AV → St → Option (AV × St)} (hS : Sound P call) (hm : P.follows .mixedOrders = true) : ∀ n, ExecOk P call n ∧ LoopOk P call n
  | 0 => ⟨fun c x env env' s s' ρ a w Q h => by simp [aexec] at h, fun c x env env' s s' ρ a w Q h => by simp [aexec] at h⟩
  | n + 1 => by
    obtain ⟨h1, h2⟩ := exec_all hS hm n
    have h3 := loop_ok h1 h2
    exact ⟨exec_ok hS hm h1 h3, h3⟩

theorem grow_exec {call : Nat → List AV → St → Option (AV × St)} (hS : Sound P call) : ∀ {n : Nat} {c : AC} {x : AEx} {env env' : Env} {s s' : St}, aexec call n c env s = some (x, env', s') → Grow s s'
  | 0, c, x, env, env', s, s', h => by simp [aexec] at h
  | n + 1, c, x, env, env', s, s', h => by
    have hres : ∀ k (s : St), Grow s (s.reserve k) := by
      intro k
      induction k with
      | zero => exact fun s => .refl s
      | succ k ih => exact fun s => (grow_push s .unborn).trans (ih _)
    cases c <;> simp only [aexec] at h
    case skip => injection h with h; injection h with h h'; injection h' with h' h''; subst h''; exact .refl _
    case exit => injection h with h; injection h with h h'; injection h' with h' h''; subst h''; exact .refl _
    case ret => injection h with h; injection h with h h'; injection h' with h' h''; subst h''; exact .refl _
    case bad => cases h
    case reg ops =>
      split at h
      · rename_i ho
        injection h with h; injection h with h h'; injection h' with h' h''; subst h''
        exact grow_aops hS ho
      · cases h
    case regd k ops =>
      split at h
      · rename_i ho
        injection h with h; injection h with h h'; injection h' with h' h''; subst h''
        exact (hres k s).trans (grow_aops hS ho)
      · cases h
    case seq c d =>
      cases hb : aexec call n c env s with
      | none => rw [hb] at h; cases h
      | some r =>
        obtain ⟨y, env1, s1⟩ := r
        rw [hb] at h
        have := grow_exec hS hb
        cases y with
        | nor => exact this.trans (grow_exec hS h)
        | exit i => injection h with h; injection h with h h'; injection h' with h' h''; subst h''; exact this
        | ret => injection h with h; injection h with h h'; injection h' with h' h''; subst h''; exact this
    case cond q c d =>
      split at h
      · exact grow_exec hS h
      · exact grow_exec hS h
      · cases h
    case block i c =>
      cases hb : aexec call n c env s with
      | none => rw [hb] at h; cases h
      | some r =>
        obtain ⟨y, env1, s1⟩ := r
        rw [hb] at h
        have := grow_exec hS hb
        cases y with
        | nor => injection h with h; injection h with h h'; injection h' with h' h''; subst h''; exact this
        | exit j =>
          simp only at h
          split at h <;> (injection h with h; injection h with h h'; injection h' with h' h''; subst h''; exact this)
        | ret => injection h with h; injection h with h h'; injection h' with h' h''; subst h''; exact this
    case loop c =>
      cases hb : aexec call n c env s with
      | none => rw [hb] at h; cases h
      | some r =>
        obtain ⟨y, env1, s1⟩ := r
        rw [hb] at h
        have := grow_exec hS hb
        cases y with
        | nor => exact this.trans (grow_exec hS h)
        | exit i => injection h with h; injection h with h h'; injection h' with h' h''; subst h''; exact this
        | ret => injection h with h; injection h with h h'; injection h' with h' h''; subst h''; exact this

end Go.AM
