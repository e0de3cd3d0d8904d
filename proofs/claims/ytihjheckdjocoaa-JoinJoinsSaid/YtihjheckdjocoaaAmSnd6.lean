/-
  A region that draws its order, as a whole. Own work of this project.
-/
import Derived.Test.YtihjheckdjocoaaAmSnd5
import Derived.Orders
set_option linter.unusedVariables false
set_option linter.unusedSimpArgs false
set_option linter.unusedSectionVars false
namespace Go.AM
open Go

/-! ### Who comes up before whom -/
theorem ancOf_spec {acc : List Nat} {i : Nat} : ∀ {es : List Edge}, (ancOf acc es).testBit i = true → ∃ e ∈ es, Region.binds .any e = true ∧ (e.on = i ∨ (acc.getD e.on 0).testBit i = true)
  | [], h => by simp [ancOf] at h
  | e :: r, h => by
    simp only [ancOf] at h
    split at h
    · rename_i hb
      simp only [Nat.testBit_or, Bool.or_eq_true, Nat.one_shiftLeft, Nat.testBit_two_pow, decide_eq_true_eq] at h
      rcases h with (h | h) | h
      · exact ⟨e, by simp, hb, .inl h⟩
      · exact ⟨e, by simp, hb, .inr h⟩
      · obtain ⟨e', h1, h2⟩ := ancOf_spec h
        exact ⟨e', by simp [h1], h2⟩
    · obtain ⟨e', h1, h2⟩ := ancOf_spec h
      exact ⟨e', by simp [h1], h2⟩
def AncOk (ops : List Oper) (acc : List Nat) : Prop :=
  ∀ j i, (acc.getD j 0).testBit i = true → ∃ o, ops[j]? = some o ∧ ∃ e ∈ o.after.toList, Region.binds .any e = true ∧ (e.on = i ∨ (e.on < j ∧ (acc.getD e.on 0).testBit i = true))
theorem ancGo_ok {ops : List Oper} : ∀ (os : List Oper) (acc : List Nat), (∀ j, os[j]? = ops[acc.length + j]?) → AncOk ops acc → AncOk ops (ancGo os acc)
  | [], acc, _, h => h
  | o :: r, acc, hix, h => by
    simp only [ancGo]
    have ho : ops[acc.length]? = some o := by have := hix 0; simpa using this.symm
    refine ancGo_ok r _ (fun j => by have := hix (j + 1); simpa [Nat.add_assoc, Nat.add_comm 1] using this) fun j i hb => ?_
    have hold : ∀ x, x < acc.length → (acc ++ [ancOf acc o.after.toList]).getD x 0 = acc.getD x 0 := fun x hx => by
      simp [List.getD_eq_getElem?_getD, List.getElem?_append_left hx]
    by_cases hj : j < acc.length
    · rw [hold j hj] at hb
      obtain ⟨o', h1, e, h2, h3, h4⟩ := h j i hb
      refine ⟨o', h1, e, h2, h3, ?_⟩
      rcases h4 with h4 | ⟨h4, h5⟩
      · exact .inl h4
      · exact .inr ⟨h4, by rw [hold _ (by omega)]; exact h5⟩
    · by_cases hj2 : j = acc.length
      · subst hj2
        have : (acc ++ [ancOf acc o.after.toList]).getD acc.length 0 = ancOf acc o.after.toList := by simp [List.getD_eq_getElem?_getD]
        rw [this] at hb
        obtain ⟨e, h2, h3, h4⟩ := ancOf_spec hb
        refine ⟨o, ho, e, h2, h3, ?_⟩
        rcases h4 with h4 | h4
        · exact .inl h4
        · by_cases he : e.on < acc.length
          · exact .inr ⟨he, by rw [hold _ he]; exact h4⟩
          · simp [List.getD_eq_getElem?_getD, List.getElem?_eq_none (show acc.length ≤ e.on by omega)] at h4
      · simp [List.getD_eq_getElem?_getD, List.getElem?_eq_none (show (acc ++ [ancOf acc o.after.toList]).length ≤ j by simp; omega)] at hb
theorem ancs_ok (ops : Array Oper) : AncOk ops.toList (ancs ops) := ancGo_ok ops.toList [] (fun j => by simp) fun j i h => by simp at h

def Closed (ops : Array Oper) (L : Nat → Bool) : Prop := ∀ (j : Nat) (o : Oper), ops[j]? = some o → L j = true → ∀ e ∈ o.after.toList, Region.binds .any e = true → L e.on = true
theorem prec_in {ops : Array Oper} {L : Nat → Bool} (hc : Closed ops L) {i : Nat} : ∀ (j : Nat), (∀ (o : Oper), ops[j]? = some o → ∀ e ∈ o.after.toList, Region.binds .any e = true → L e.on = true) → precedes (ancs ops) i j = true → L i = true := by
  intro j
  induction j using Nat.strongRecOn with
  | _ j IH =>
    intro h hp
    obtain ⟨o, ho, e, he, hb, hd⟩ := ancs_ok ops j i hp
    have ho' : ops[j]? = some o := by simpa using ho
    have hL := h o ho' e he hb
    rcases hd with rfl | ⟨hlt, hp'⟩
    · exact hL
    · exact IH e.on hlt (fun o' h1 e' h2 h3 => hc e.on o' h1 hL e' h2 h3) hp'

theorem cregD_spec {P : Program} {A : List Nat} {ops : Array Oper} : ∀ {os : List Oper} {i k : Nat} {l : List AOper} {n : Nat}, cregD P A ops os i k = some (l, n) →
    l.length = os.length ∧ ∀ (j : Nat) (ao : AOper), l[j]? = some ao → ∃ o cl, os[j]? = some o ∧ ao.dst = o.dst ∧ ao.op = cop P cl o.op ∧ guardOf ops o = some ao.guard
  | [], i, k, l, n, h => by
    simp only [cregD] at h
    injection h with h; obtain ⟨rfl, rfl⟩ := Prod.mk.inj h
    exact ⟨rfl, fun j ao h => by simp at h⟩
  | o :: r, i, k, l, n, h => by
    simp only [cregD] at h
    split at h
    · rename_i g l' n' hg hr
      injection h with h; obtain ⟨rfl, rfl⟩ := Prod.mk.inj h
      obtain ⟨h1, h2⟩ := cregD_spec hr
      refine ⟨by simp [h1], fun j ao hj => ?_⟩
      cases j with
      | zero =>
        simp at hj; subst hj
        exact ⟨o, _, by simp, rfl, rfl, hg⟩
      | succ j =>
        obtain ⟨o', cl, e1, e2⟩ := h2 j ao (by simpa using hj)
        exact ⟨o', cl, by simpa using e1, e2⟩
    · cases h

section
variable {P : Program} {A : List Nat} {call : Nat → List AV → St → Option (AV × St)} {s : St} {k : Nat} {l : List AOper} {S : Nat → St} {E : Nat → Env} {V : Nat → AV} {ρ0 ρ ρ' : Ren} {w0 w w' : World} {L : Nat → Bool} {W m : Nat} {a : Act}
variable (C : Ctx A call s k l S E V)
include C

theorem Inv.before (I : Inv s l S E V ρ0 w0 L W ρ a w) {o : AOper} (ho : l[m]? = some o) (hpre : ∀ i, precedes A i m = true → L i = true) {i : Nat} (h1 : W ≤ i) (h2 : i < m) {o' : AOper} (ho' : l[i]? = some o') (hk : o'.op.kind = .write) : pairOk o' o = true := by
  rcases C.pair i m o' o h2 ho' ho with h | h
  · have := (I.wr i o' ho' hk).1 (hpre i h)
    omega
  · exact h
theorem Inv.behind (I : Inv s l S E V ρ0 w0 L W ρ a w) {o : AOper} (ho : l[m]? = some o) (hL : L m = false) (hcl : ∀ i j, L j = true → precedes A i j = true → L i = true) {i : Nat} (h1 : m ≤ i) (h2 : i < W) {o' : AOper} (ho' : l[i]? = some o') (hk : o'.op.kind = .write) : pairOk o o' = true := by
  have hi := (I.wr i o' ho' hk).2 h2
  by_cases him : i = m
  · subst him; rw [hL] at hi; cases hi
  · rcases C.pair m i o o' (by omega) ho ho' with h | h
    · rw [hcl m i hi h] at hL; cases hL
    · exact h
theorem pairOk_wr {a b : AOper} (h : pairOk a b = true) (ha : a.op.kind = .write) (hb : b.op.kind = .read ∨ b.op.kind = .write) : b.op.kind = .read ∧ a.fresh = true ∧ a.op.isCall = false ∧ b.op.isCall = false ∧ (b.fresh = false → a.op.isStore = false) := by
  simp only [pairOk, Bool.and_eq_true] at h
  have h := h.2
  rcases hb with hb | hb <;> rw [ha, hb] at h
  · simp only [Bool.and_eq_true, Bool.not_eq_true', Bool.or_eq_true] at h
    exact ⟨hb, h.1.1.1, h.1.1.2, h.1.2, fun hf => h.2.resolve_right (by simp [hf])⟩
  · cases h
theorem pairOk_rd {a b : AOper} (h : pairOk a b = true) (hb : b.op.kind = .write) (ha : a.op.kind = .read ∨ a.op.kind = .write) : a.op.kind = .read ∧ b.fresh = true ∧ b.op.isCall = false ∧ a.op.isCall = false ∧ (a.fresh = false → b.op.isStore = false) := by
  simp only [pairOk, Bool.and_eq_true] at h
  have h := h.2
  rcases ha with ha | ha <;> rw [ha, hb] at h
  · simp only [Bool.and_eq_true, Bool.not_eq_true', Bool.or_eq_true] at h
    exact ⟨ha, h.1.1.1, h.1.1.2, h.1.2, fun hf => h.2.resolve_right (by simp [hf])⟩
  · cases h

/-- The memory that operation 'm' meets in the text's run stands. -/
theorem Inv.meet (I : Inv s l S E V ρ0 w0 L W ρ a w) {o : AOper} (ho : l[m]? = some o) (hL : L m = false) (hcl : ∀ i j, L j = true → precedes A i j = true → L i = true) (hpre : ∀ i, precedes A i m = true → L i = true)
    (hk : o.op.kind = .read ∨ o.op.kind = .write) (hfr : o.op.kind = .read → o.fresh = false) : R (S m) ρ w ∧ (o.op.kind = .write ∨ o.op.isCall = true → Free (S m) ρ ∧ (o.op.kind = .write → W ≤ m ∧ ∀ i, W ≤ i → i < m → NoWr l i)) := by
  have hm := (List.getElem?_eq_some_iff.1 ho).1
  have q1 : ∀ i, W ≤ i → i < m → Quiet l i := fun i h1 h2 o' ho' hk' => by
    have := pairOk_wr C (I.before C ho hpre h1 h2 ho' hk') hk' hk
    exact ⟨this.2.1, this.2.2.1, this.2.2.2.2 (hfr this.1)⟩
  have q2 : ∀ i, m ≤ i → i < W → Quiet l i := fun i h1 h2 o' ho' hk' => by
    have := pairOk_rd C (I.behind C ho hL hcl h1 h2 ho' hk') hk' hk
    exact ⟨this.2.1, this.2.2.1, this.2.2.2.2 (hfr this.1)⟩
  refine ⟨I.rel.sub fun id b M h1 h2 => I.agree C (by omega) q1 q2 id b M h1 h2, fun hh => ?_⟩
  have n1 : ∀ i, W ≤ i → i < m → NoWr l i := fun i h1 h2 o' ho' hk' => by
    have := pairOk_wr C (I.before C ho hpre h1 h2 ho' hk') hk' hk
    rcases hh with h | h
    · rw [h] at this; cases this.1
    · rw [h] at this; cases this.2.2.2.1
  have n2 : ∀ i, m ≤ i → i < W → NoWr l i := fun i h1 h2 o' ho' hk' => by
    have := pairOk_rd C (I.behind C ho hL hcl h1 h2 ho' hk') hk' hk
    rcases hh with h | h
    · rw [h] at this; cases this.1
    · rw [h] at this; cases this.2.2.2.1
  have hnx : (S m).next = (S W).next := by
    by_cases hWm : W ≤ m
    · exact ((C.btw hWm (by omega) q1).2.1 n1).1
    · exact ((C.btw (by omega) I.W_le q2).2.1 n2).1.symm
  refine ⟨fun id hid => I.free id (by omega), fun hw => ⟨?_, n1⟩⟩
  by_cases hWm : W ≤ m
  · exact hWm
  · have := (I.wr m o ho hw).2 (by omega)
    rw [hL] at this; cases this

/-- What was there ahead of the region is what a load of it meets. -/
theorem Inv.old (I : Inv s l S E V ρ0 w0 L W ρ a w) {o : AOper} (ho : l[m]? = some o) (hL : L m = false) (hcl : ∀ i j, L j = true → precedes A i j = true → L i = true) (hpre : ∀ i, precedes A i m = true → L i = true)
    (hk : o.op.kind = .read) (id : Nat) (hid : id < s.next) : (sE s.next l S E L W).get id = (S m).get id := by
  have hm := (List.getElem?_eq_some_iff.1 ho).1
  have hWl := I.W_le
  have q1 : ∀ i, W ≤ i → i < m → Quiet0 l i := fun i h1 h2 o' ho' hk' => by
    have := pairOk_wr C (I.before C ho hpre h1 h2 ho' hk') hk' (.inl hk)
    exact ⟨this.2.1, this.2.2.1⟩
  have q2 : ∀ i, m ≤ i → i < W → Quiet0 l i := fun i h1 h2 o' ho' hk' => by
    have := pairOk_rd C (I.behind C ho hL hcl h1 h2 ho' hk') hk' (.inl hk)
    exact ⟨this.2.1, this.2.2.1⟩
  rw [C.get_no fun p r h e => by omega]
  have hb : ∀ i, i ≤ l.length → s.next ≤ (S i).next := fun i hi => by have := C.nx hi; omega
  by_cases hWm : W ≤ m
  · obtain ⟨d, rfl⟩ : ∃ d, m = W + d := ⟨m - W, by omega⟩
    exact ((tr_olds C.tr C.res' (hb W hWl) d (fun i h1 h2 => q1 i h1 h2) (by omega)).2 id hid).symm
  · obtain ⟨d, hd⟩ : ∃ d, W = m + d := ⟨W - m, by omega⟩
    subst hd
    exact (tr_olds C.tr C.res' (hb m (by omega)) d (fun i h1 h2 => q2 i h1 h2) (by omega)).2 id hid

theorem Inv.done (I : Inv s l S E V ρ0 w0 L W ρ a w) (hall : ∀ j, j < l.length → L j = true) : Step s (S l.length) ρ0 ρ w0 w ∧ R (S l.length) ρ w ∧ Free (S l.length) ρ ∧ EnvR ρ (E l.length) a.tmps := by
  have hWl := I.W_le
  have hno : ∀ i, W ≤ i → i < l.length → NoWr l i := fun i h1 h2 o ho hk => by
    have := (I.wr i o ho hk).1 (hall i h2)
    omega
  obtain ⟨_, b2, b3, b4, b5⟩ := C.btw hWl (Nat.le_refl _) fun i h1 h2 o' ho' hk' => absurd hk' (hno i h1 h2 o' ho')
  obtain ⟨hn, hlow⟩ := b2 hno
  have hg : ∀ id, (sE s.next l S E L W).get id = (S l.length).get id := by
    intro id
    by_cases hal : ∃ p r, Al l E p r ∧ id = s.next + r
    · obtain ⟨p, r, ha, rfl⟩ := hal
      obtain ⟨b0, hb0, hs⟩ := C.get_al (L := L) hWl ha
      rw [hs, hall p ha.lt]
      simp only [if_true]
      by_cases hp : p < W
      · rw [if_pos hp, b5 p r ha (.inl hp), hb0]
      · rw [if_neg hp, b4 p r (by omega) ha.lt ha]
    · have hno' : ∀ p r, Al l E p r → id ≠ s.next + r := fun p r h e => hal ⟨p, r, h, e⟩
      rw [C.get_no hno']
      by_cases hid : id < (S W).next
      · rw [b3 id hid fun p r _ _ h => hno' p r h]
      · simp [St.get, hid, hn]
  refine ⟨I.step.congr hg hn.symm hlow.symm, I.rel.sub fun id b M _ h2 => .inr (by rw [hg]; exact h2), fun id hid => I.free id (by omega), ?_⟩
  have := I.env
  rw [curE_all C.tr hall l.length (Nat.le_refl _)] at this
  exact this

variable {ops : Array Oper} {Q : Exit → Act → World → Prop}
/-- One operation of a region that draws its order. -/
theorem Inv.go (hS : Sound P call) (I : Inv s l S E V ρ0 w0 L W ρ a w) {o : AOper} (ho : l[m]? = some o) (hL : L m = false) (hcl : ∀ i j, L j = true → precedes A i j = true → L i = true) (hpre : ∀ i, precedes A i m = true → L i = true)
    {oc : Oper} {cl : Bool} (hoc : ops[m]? = some oc) (h1 : o.dst = oc.dst) (h2 : o.op = cop P cl oc.op) (h3 : guardOf ops oc = some o.guard) {K : Act → World → Prop}
    (hK : ∀ W' ρ' a' w', Inv s l S E V ρ0 w0 (fun j => if j = m then true else L j) W' ρ' a' w' → K a' w') : wpOp P ops Q m K a w := by
  have hlk := I.look C ho hL hcl hpre
  have hE := I.env.mask o.looks
  have hwl := wanted_look hlk
  have hopd := aev_look hlk
  unfold wpOp
  rw [hoc]
  simp only
  rcases C.tr.step m o ho with ⟨hw, h⟩ | ⟨hw, hv, h⟩
  · rw [hw] at hwl
    obtain ⟨dst, op, guard, res, fresh⟩ := o
    simp only at h1 h2 h3
    subst h1; subst h2
    rw [wanted_rel hE h3 hwl, if_pos rfl]
    left
    cases hk : (cop P cl oc.op).kind
    · obtain ⟨hp, hs⟩ := aop_pure h hk
      simp only at hp
      rw [← apure_congr hopd] at hp
      refine wp_pure hE hp fun c hc => hK _ _ _ _ (I.quiet C ho hL hcl (by simp [hk]) ?_ (Clean.refl w) hc)
      rintro r ⟨o', e1, e2, _⟩
      rw [ho] at e1; injection e1 with e1; subst e1
      simp only at e2; rw [hk] at e2; cases e2
    · obtain ⟨r, hr, hrk⟩ := C.res m _ ho hk
      have ha : Al l E m r := ⟨_, ho, hk, hr, hw⟩
      obtain ⟨t1, t2, o', mk, t3, t4, t5⟩ := tr_al C.tr ha
      rw [ho] at t3; injection t3 with t3; subst t3
      simp only at t4
      rw [← aalloc_congr hopd] at t4
      refine wp_alloc hE t4 fun M w' c hcl' e1 e2 e3 e4 e5 => hK _ _ _ _ (I.alloc C ho hL hcl ha hcl' e1 e2 (e4 _ (Ren.le_set M (I.unb m r ha hL))) ?_)
      rw [t5]
      exact e3 _ _ (Ren.le_set M (I.unb m r ha hL)) (Ren.set_same _ _ _)
    · obtain ⟨hp, hs, hold⟩ := aop_read h hk
      simp only at hp hold
      have hna : ∀ r, ¬ Al l E m r := by
        rintro r ⟨o', e1, e2, _⟩
        rw [ho] at e1; injection e1 with e1; subst e1
        simp only at e2; rw [hk] at e2; cases e2
      cases hfr : fresh
      rotate_left
      · have hold := hold hfr
        have hget := fun id hid => I.old C ho hL hcl hpre hk id hid
        have hp2 : aread call (E m) (sE s.next l S E L W) (cop P cl oc.op) = some (V m) ∧ (cop P cl oc.op).isCall = false := by
          revert hp hold
          generalize cop P cl oc.op = op
          intro hp hold
          cases op <;> simp only [oldLoad, Bool.false_eq_true] at hold
          all_goals
            simp only [aread] at hp ⊢
            split at hold
            · rename_i id off hv
              try simp only [hv] at hp
              try simp only [hv]
              rw [hget id (by simpa using hold)]
              exact ⟨hp, rfl⟩
            · cases hold
        obtain ⟨hp2, hc⟩ := hp2
        rw [← aread_congr hopd] at hp2
        exact wp_read hE I.rel hc hp2 fun c hv => hK _ _ _ _ (I.quiet C ho hL hcl (by simp [hk]) hna (Clean.refl w) hv)
      rw [← aread_congr hopd] at hp
      obtain ⟨hR, hF⟩ := I.meet C ho hL hcl hpre (.inl hk) fun _ => hfr
      cases hc : (cop P cl oc.op).isCall
      · exact wp_read hE hR hc hp fun c hv => hK _ _ _ _ (I.quiet C ho hL hcl (by simp [hk]) hna (Clean.refl w) hv)
      · have hcl1 : cl = true := by
          cases hcc : cop P cl oc.op <;> rw [hcc] at hc hk <;> simp [AOp.isCall] at hc
          · have := isCall_cl hcc
            subst this
            simpa [AOp.kind] using hk
          · have := isCallv_cl hcc
            subst this
            simpa [AOp.kind] using hk
        subst hcl1
        exact wp_callc hS hE hR (hF (.inr hc)).1 hc hp fun w' c hcln hv => hK _ _ _ _ (I.quiet C ho hL hcl (by simp [hk]) hna hcln hv)
    · obtain ⟨hR, hF⟩ := I.meet C ho hL hcl hpre (.inr hk) (fun e => by rw [hk] at e; cases e)
      obtain ⟨hF, hW⟩ := hF (.inl hk)
      obtain ⟨hW, hno⟩ := hW hk
      have hgo : ∀ (s1 s2 : St), (∀ id, s1.get id = (S m).get id) → s1.next = (S m).next → aeff call (maskE (AOper.looks ⟨oc.dst, cop P cl oc.op, guard, res, fresh⟩) (curE l V L (E 0) l.length)) s1 (cop P cl oc.op) = some (V m, s2) →
          (∀ ρ' w', Step s1 s2 ρ ρ' w w' → R s2 ρ' w' → Step (S m) (S (m + 1)) ρ ρ' w w' ∧ R (S (m + 1)) ρ' w') → oc.wp P a w K Q := by
        intro s1 s2 hg hn he hback
        have hR1 : R s1 ρ w := hR.sub fun id b M _ h => .inr (by rw [← hg]; exact h)
        have hF1 : Free s1 ρ := fun id hid => hF id (by omega)
        have hfin : ∀ ρ' w' c, Step s1 s2 ρ ρ' w w' → R s2 ρ' w' → VR ρ' (V m) c → K (a.put oc.dst c) w' := fun ρ' w' c g1 g2 g3 => by
          obtain ⟨g4, g5⟩ := hback ρ' w' g1 g2
          exact hK _ _ _ _ (I.write C ho hL hcl hk hW hno g4 g5 g3)
        cases hc : (cop P cl oc.op).isCall
        · exact effs_wp hE hR1 (fun id g1 _ => hF1 id g1) hc he hfin
        · have hcl1 : cl = false := by
            cases hcc : cop P cl oc.op <;> rw [hcc] at hc hk <;> simp [AOp.isCall] at hc
            · have := isCall_cl hcc
              subst this
              simpa [AOp.kind] using hk
            · have := isCallv_cl hcc
              subst this
              simpa [AOp.kind] using hk
          subst hcl1
          exact wp_calld hS hE hR1 hF1 hc he hfin
      rcases aop_write h hk with ⟨_, s1, q1, q2, q3⟩ | ⟨_, q1⟩
      · simp only at q1
        rw [← aeff_congr hopd] at q1
        refine hgo { S m with low := (S m).next } s1 (fun id => rfl) rfl q1 fun ρ' w' g1 g2 => ?_
        rw [q3]
        exact ⟨g1.relow rfl, g2.low _⟩
      · simp only at q1
        rw [← aeff_congr hopd] at q1
        exact hgo _ _ (fun id => rfl) rfl q1 fun ρ' w' g1 g2 => ⟨g1, g2⟩
  · rw [hw] at hwl
    obtain ⟨dst, op, guard, res, fresh⟩ := o
    simp only at h1 h2 h3
    subst h1; subst h2
    rw [wanted_rel hE h3 hwl, if_neg (by simp)]
    have hund : VR ρ (V m) undef := by rw [hv]; simp [VR]
    by_cases hk : (cop P cl oc.op).kind = .write
    · obtain ⟨hR, hF⟩ := I.meet C ho hL hcl hpre (.inr hk) (fun e => by rw [hk] at e; cases e)
      obtain ⟨hW, hno⟩ := (hF (.inl hk)).2 hk
      exact hK _ _ _ _ (I.write C ho hL hcl hk hW hno (by rw [h]; exact Step.refl _ _ _) (by rw [h]; exact hR) hund)
    · refine hK _ _ _ _ (I.quiet C ho hL hcl hk ?_ (Clean.refl w) hund)
      rintro r ⟨o', e1, _, _, e4⟩
      rw [ho] at e1; injection e1 with e1; subst e1
      rw [hw] at e4; cases e4

omit C in
theorem gd {b : Array Bool} {j : Nat} (h : j < b.size) (d : Bool) : b.getD j d = b[j] := by simp [Array.getD_eq_getD_getElem?, h]
/-- The rest of a region that draws its order. -/
theorem any_wp (hS : Sound P call) (hA : A = ancs ops) (hlen : l.length = ops.size) (hop : ∀ (j : Nat) (ao : AOper), l[j]? = some ao → ∃ o cl, ops[j]? = some o ∧ ao.dst = o.dst ∧ ao.op = cop P cl o.op ∧ guardOf ops o = some ao.guard)
    (hafter : ∀ (j : Nat) (o : Oper), ops[j]? = some o → ∀ e ∈ o.after.toList, Region.binds .any e = true → e.on < j)
    (hQ : ∀ ρ a w, Step s (S l.length) ρ0 ρ w0 w → R (S l.length) ρ w → Free (S l.length) ρ → EnvR ρ (E l.length) a.tmps → a.defers = [] → Q .normal a w) :
    ∀ (fuel : Nat) (listed : Array Bool) (W : Nat) (ρ : Ren) (a : Act) (w : World), listed.size = ops.size → listed.toList.count false = fuel → Closed ops (fun j => listed.getD j false) →
      Inv s l S E V ρ0 w0 (fun j => listed.getD j false) W ρ a w → wpAny P .any ops Q fuel listed a w := by
  have hfin : ∀ (listed : Array Bool) (W : Nat) (ρ : Ren) (a : Act) (w : World), Inv s l S E V ρ0 w0 (fun j => listed.getD j false) W ρ a w → (∀ j, j < ops.size → listed.getD j false = true) → Q .normal a w := by
    intro listed W ρ a w I hall
    obtain ⟨g1, g2, g3, g4⟩ := I.done C fun j hj => hall j (by omega)
    exact hQ ρ a w g1 g2 g3 g4 I.defers
  intro fuel
  induction fuel with
  | zero =>
    intro listed W ρ a w hsz hct hcl I
    have hall : ∀ j, j < ops.size → listed.getD j false = true := by
      intro j hj
      have hmem : ¬ false ∈ listed.toList := by
        intro hm
        have := List.count_pos_iff.2 hm
        omega
      have hj' : j < listed.size := by omega
      rw [gd hj']
      cases hb : listed[j]
      · exact absurd (by rw [← hb]; simp) hmem
      · rfl
    refine ⟨?_, hfin listed W ρ a w I hall⟩
    unfold Region.ready
    rw [List.filter_eq_nil_iff]
    intro j hj
    have hj := List.mem_range.1 hj
    have := hall j hj
    have hj' : j < listed.size := by omega
    rw [gd hj'] at this ⊢
    simp [this]
  | succ fuel IH =>
    intro listed W ρ a w hsz hct hcl I
    refine ⟨fun hnil => hfin listed W ρ a w I ?_, fun m hm => ?_⟩
    · intro j
      induction j using Nat.strongRecOn with
      | _ j IHj =>
        intro hj
        cases hb : listed.getD j false
        · exfalso
          have hmem : j ∈ Region.ready .any ops listed := by
            unfold Region.ready
            rw [List.mem_filter]
            refine ⟨List.mem_range.2 hj, ?_⟩
            have hj' : j < listed.size := by omega
            have hoj : ops[j]? = some ops[j] := by simp [hj]
            rw [gd hj'] at hb
            rw [gd hj']
            simp only [hoj, Option.map_some, Option.getD_some, Bool.and_eq_true]
            refine ⟨by simp [hb], ?_⟩
            rw [Array.all_eq_true']
            intro e he
            by_cases hbd : Region.binds .any e = true
            · have hlt := hafter j _ hoj e (by simpa using he) hbd
              have := IHj e.on hlt (by omega)
              rw [this, hbd]
              rfl
            · simp [hbd]
          rw [hnil] at hmem
          cases hmem
        · rfl
    · unfold Region.ready at hm
      rw [List.mem_filter, List.mem_range] at hm
      obtain ⟨hlt, hm⟩ := hm
      have hlt' : m < listed.size := by omega
      have hom : ops[m]? = some ops[m] := by simp [hlt]
      rw [gd hlt'] at hm
      simp only [hom, Option.map_some, Option.getD_some, Bool.and_eq_true] at hm
      obtain ⟨hm1, hm2⟩ := hm
      have hL : listed.getD m false = false := by rw [gd hlt']; simpa using hm1
      have haft : ∀ e ∈ (ops[m]).after.toList, Region.binds .any e = true → listed.getD e.on false = true := by
        intro e he hb
        rw [Array.all_eq_true'] at hm2
        have := hm2 e (by simpa using he)
        simp only [hb, Bool.not_true, Bool.false_or] at this
        exact this
      have hclo : ∀ i j, listed.getD j false = true → precedes A i j = true → listed.getD i false = true := by
        intro i j hj hp
        subst hA
        exact prec_in hcl j (fun o ho e he hb => hcl j o ho hj e he hb) hp
      have hpre : ∀ i, precedes A i m = true → listed.getD i false = true := by
        intro i hp
        subst hA
        refine prec_in hcl m (fun o ho e he hb => ?_) hp
        rw [hom] at ho; injection ho with ho; subst ho
        exact haft e he hb
      obtain ⟨ao, hao⟩ : ∃ ao, l[m]? = some ao := ⟨l[m]'(by omega), by simp⟩
      obtain ⟨oc, cl, e1, e2, e3, e4⟩ := hop m ao hao
      have hLs : (fun j => (listed.setIfInBounds m true).getD j false) = fun j => if j = m then true else listed.getD j false := by
        funext j
        by_cases hj : j = m
        · subst hj
          simp [Array.getD_eq_getD_getElem?, hlt']
        · simp [Array.getD_eq_getD_getElem?, hj, Array.getElem?_setIfInBounds_ne (Ne.symm hj)]
      refine I.go C hS hao hL hclo hpre e1 e2 e3 e4 fun W' ρ' a' w' I' => ?_
      refine IH _ W' ρ' a' w' (by simpa using hsz) ?_ ?_ (by rw [hLs]; exact I')
      · have hLm : listed[m] = false := by rw [gd hlt'] at hL; exact hL
        have : (listed.setIfInBounds m true).toList = listed.toList.set m true := by simp
        rw [this, List.count_set (by simpa using hlt')]
        simp only [Array.getElem_toList, hLm, hct]
        simp
      · rw [hLs]
        intro j o ho hj e he hb
        simp only at hj ⊢
        by_cases hem : e.on = m
        · simp [hem]
        · rw [if_neg hem]
          by_cases hjm : j = m
          · subst hjm
            rw [hom] at ho; injection ho with ho; subst ho
            exact haft e he hb
          · rw [if_neg hjm] at hj
            exact hcl j o ho hj e he hb
end

end Go.AM
