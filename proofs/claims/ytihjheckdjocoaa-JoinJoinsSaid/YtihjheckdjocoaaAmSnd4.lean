/-
  A region that draws its order: what holds behind any part of it. Own work of this project.
-/
import Derived.Test.YtihjheckdjocoaaAmSnd3
set_option linter.unusedVariables false
set_option linter.unusedSimpArgs false
set_option linter.unusedSectionVars false
namespace Go.AM
open Go

theorem aalloc_owned {env : Env} {op : AOp} {mk : Nat → AV} {b : AB} (h : aalloc env op = some (mk, b)) : b.owned = true := by
  cases op <;> simp only [aalloc] at h <;> try (cases h; done)
  all_goals repeat' split at h
  all_goals first
    | (cases h; done)
    | (injection h with h; obtain ⟨_, rfl⟩ := Prod.mk.inj h; rfl)
    | (obtain ⟨cs, _, h⟩ := Option.map_eq_some_iff.1 h
       obtain ⟨_, rfl⟩ := Prod.mk.inj h; rfl)

theorem R.birth {s s' : St} {ρ : Ren} {w w' : World} {b : AB} {id : Nat} {L : Loc} (h : R s ρ w) (hc : Clean w w') (hf : ρ id = none) (h1 : w.heap.size ≤ L.b) (h2 : L.b < w'.heap.size)
    (hb : BlkOk (ρ.set id L) L w' b) (hg : ∀ j, s'.get j = if j = id then some b else s.get j) : R s' (ρ.set id L) w' := by
  have hle : ρ.le (ρ.set id L) := Ren.le_set L hf
  refine ⟨fun j M e => ?_, fun j b' M e1 e2 => ?_, fun i j M N bi bj hij e1 e2 e3 e4 e5 e6 => ?_⟩
  · by_cases hid : j = id
    · subst hid; rw [Ren.set_same] at e; injection e with e; subst e; exact h2
    · rw [Ren.set_ne _ _ hid] at e; exact Nat.lt_of_lt_of_le (h.bound _ _ e) hc.size
  · rw [hg] at e1
    by_cases hid : j = id
    · subst hid
      rw [Ren.set_same] at e2; injection e2 with e2; subst e2
      rw [if_pos rfl] at e1; injection e1 with e1; subst e1
      exact hb
    · rw [Ren.set_ne _ _ hid] at e2
      rw [if_neg hid] at e1
      exact (h.blk j b' M e1 e2).mono hle |>.same (hc.block _ (h.bound _ _ e2))
  · rw [hg] at e3 e4
    by_cases hi : i = id
    · subst hi
      rw [Ren.set_same] at e1; injection e1 with e1; subst e1
      rw [Ren.set_ne _ _ (Ne.symm hij)] at e2
      have := h.bound _ _ e2
      omega
    · rw [Ren.set_ne _ _ hi] at e1
      by_cases hj : j = id
      · subst hj
        rw [Ren.set_same] at e2; injection e2 with e2; subst e2
        have := h.bound _ _ e1
        omega
      · rw [Ren.set_ne _ _ hj] at e2
        rw [if_neg hi] at e3
        rw [if_neg hj] at e4
        exact h.inj i j M N bi bj hij e1 e2 e3 e4 e5 e6
theorem Step.birth {s0 s s' : St} {ρ0 ρ : Ren} {w0 w w' : World} {b : AB} {id : Nat} {L : Loc} (h : Step s0 s ρ0 ρ w0 w) (hc : Clean w w') (h0 : s0.next ≤ id) (hn : id < s.next) (h1 : w.heap.size ≤ L.b)
    (hg : ∀ j, s'.get j = if j = id then some b else s.get j) (e1 : s'.next = s.next) (e2 : s'.low = s.low) : Step s0 s' ρ0 (ρ.set id L) w0 w' := by
  refine ⟨by rw [e1]; exact h.next, by rw [e2]; exact h.low, fun j hj => ?_, Nat.le_trans h.size hc.size, hc.os.trans h.os, hc.tape.trans h.tape, hc.output.trans h.output, Nat.le_trans h.drawn hc.drawn, fun c hb H => ?_, fun j b' q1 q2 q3 => ?_, fun j M b' q1 q2 q3 q4 => ?_, fun j q1 q2 => ?_⟩
  · rw [Ren.set_ne _ _ (by omega)]
    exact h.ren j (by omega)
  · rw [hc.block c (Nat.lt_of_lt_of_le hb h.size)]
    exact h.frame c hb (by rw [← e2]; exact H)
  · rw [hg, if_neg (by omega)] at q2
    exact h.old j b' q1 q2 q3
  · rw [e2]
    by_cases hj : j = id
    · subst hj
      rw [Ren.set_same] at q2; injection q2 with q2; subst q2
      exact .inl (Nat.le_trans h.size h1)
    · rw [Ren.set_ne _ _ hj] at q2
      rw [hg, if_neg hj] at q3
      exact h.new j M b' q1 q2 q3 q4
  · rw [hg, if_neg (by omega)]
    exact h.unm j q1 q2

/-- A region that may come up in more than one order, run in the order of the text. -/
structure Ctx (A : List Nat) (call : Nat → List AV → St → Option (AV × St)) (s : St) (k : Nat) (l : List AOper) (S : Nat → St) (E : Nat → Env) (V : Nat → AV) : Prop where
  tr : Trace call s.next l S E V
  s0 : S 0 = s.reserve k
  res : ∀ (i : Nat) (o : AOper), l[i]? = some o → o.op.kind = .alloc → ∃ r, o.res = some r ∧ r < k
  uniq : ∀ p q r, Al l E p r → Al l E q r → p = q
  pair : ∀ (i j : Nat) (a b : AOper), i < j → l[i]? = some a → l[j]? = some b → precedes A i j = true ∨ pairOk a b = true
  grow : ∀ i, i < l.length → Grow (S i) (S (i + 1))

open Classical in
/-- Behind the operations 'L', the last writer of them being the one ahead of 'W'. -/
noncomputable def pat (base : Nat) (l : List AOper) (E : Nat → Env) (L : Nat → Bool) (W : Nat) (id : Nat) (b : AB) : AB :=
  if h : ∃ p, ∃ r, Al l E p r ∧ id = base + r then (if L h.choose then (if h.choose < W then b else Bl l E h.choose) else .unborn) else b
noncomputable def sE (base : Nat) (l : List AOper) (S : Nat → St) (E : Nat → Env) (L : Nat → Bool) (W : Nat) : St := (S W).patch (pat base l E L W)

structure Inv (s : St) (l : List AOper) (S : Nat → St) (E : Nat → Env) (V : Nat → AV) (ρ0 : Ren) (w0 : World) (L : Nat → Bool) (W : Nat) (ρ : Ren) (a : Act) (w : World) : Prop where
  W_le : W ≤ l.length
  wr : ∀ (k : Nat) (o : AOper), l[k]? = some o → o.op.kind = .write → (L k = true ↔ k < W)
  env : EnvR ρ (curE l V L (E 0) l.length) a.tmps
  defers : a.defers = []
  rel : R (sE s.next l S E L W) ρ w
  step : Step s (sE s.next l S E L W) ρ0 ρ w0 w
  free : ∀ id, (S W).next ≤ id → ρ id = none
  unb : ∀ p r, Al l E p r → L p = false → ρ (s.next + r) = none
  notyet : ∀ p r, Al l E p r → W ≤ p → ∀ b, (S W).get (s.next + r) = some b → b.live = false
  pend : ∀ p r, Al l E p r → L p = false → p < W → (S W).get (s.next + r) = some (Bl l E p)

section
variable {P : Program} {A : List Nat} {call : Nat → List AV → St → Option (AV × St)} {s : St} {k : Nat} {l : List AOper} {S : Nat → St} {E : Nat → Env} {V : Nat → AV} {ρ0 ρ ρ' : Ren} {w0 w w' : World} {L : Nat → Bool} {W m : Nat} {a : Act}

theorem pat_no {base id : Nat} {b : AB} (h : ∀ p r, Al l E p r → id ≠ base + r) : pat base l E L W id b = b := by
  unfold pat
  rw [dif_neg]
  rintro ⟨p, r, h1, h2⟩
  exact h p r h1 h2
theorem pat_al {base p r : Nat} {b : AB} (hu : ∀ p q r, Al l E p r → Al l E q r → p = q) (h : Al l E p r) : pat base l E L W (base + r) b = if L p then (if p < W then b else Bl l E p) else .unborn := by
  have hex : ∃ p', ∃ r', Al l E p' r' ∧ base + r = base + r' := ⟨p, r, h, rfl⟩
  have hp : hex.choose = p := by
    obtain ⟨r', h1, h2⟩ := hex.choose_spec
    have : r = r' := by omega
    subst this
    exact hu _ _ _ h1 h
  unfold pat
  rw [dif_pos hex, hp]

theorem Al.lt {p r : Nat} (h : Al l E p r) : p < l.length := by
  obtain ⟨o, ho, _⟩ := h
  exact (List.getElem?_eq_some_iff.1 ho).1
theorem Al.not_write {p r : Nat} (h : Al l E p r) {o : AOper} (ho : l[p]? = some o) : o.op.kind ≠ .write := by
  obtain ⟨o', h1, h2, _⟩ := h
  rw [ho] at h1; injection h1 with h1; subst h1
  rw [h2]; simp

variable (C : Ctx A call s k l S E V)
include C
theorem Ctx.res' : ∀ (i : Nat) (o : AOper), l[i]? = some o → o.op.kind = .alloc → ∃ r, o.res = some r := fun i o h1 h2 => let ⟨r, h, _⟩ := C.res i o h1 h2; ⟨r, h⟩
theorem Ctx.lt {p r : Nat} (h : Al l E p r) : r < k := by
  obtain ⟨o, h1, h2, h3, _⟩ := h
  obtain ⟨r', e1, e2⟩ := C.res p o h1 h2
  rw [h3] at e1; injection e1 with e1; omega
theorem Ctx.grows : ∀ i, i ≤ l.length → Grow (S 0) (S i)
  | 0, _ => .refl _
  | i + 1, h => (Ctx.grows i (by omega)).trans (C.grow i (by omega))
theorem Ctx.nx {i : Nat} (h : i ≤ l.length) : s.next + k ≤ (S i).next := by
  have := (C.grows i h).1
  rw [C.s0, St.next_reserve] at this
  exact this
theorem Ctx.slot {p r i : Nat} (h : Al l E p r) (hi : i ≤ l.length) : s.next + r < (S i).next := by
  have := C.lt h
  have := C.nx hi
  omega
theorem Ctx.has {p r i : Nat} (h : Al l E p r) (hi : i ≤ l.length) : ∃ b, (S i).get (s.next + r) = some b := by
  have := (C.grows i hi).2 (s.next + r) (by rw [C.s0, St.next_reserve]; have := C.lt h; omega) (by
    rw [C.s0, St.get_reserve, if_neg (by omega), if_pos (by have := C.lt h; omega)]; simp)
  exact Option.ne_none_iff_exists'.1 this
theorem Ctx.get_no {id : Nat} (h : ∀ p r, Al l E p r → id ≠ s.next + r) : (sE s.next l S E L W).get id = (S W).get id := by
  unfold sE
  rw [St.get_patch]
  cases (S W).get id with
  | none => rfl
  | some b => simp [pat_no h]
theorem Ctx.get_al {p r : Nat} (hW : W ≤ l.length) (h : Al l E p r) : ∃ b, (S W).get (s.next + r) = some b ∧ (sE s.next l S E L W).get (s.next + r) = some (if L p then (if p < W then b else Bl l E p) else .unborn) := by
  obtain ⟨b, hb⟩ := C.has h hW
  refine ⟨b, hb, ?_⟩
  unfold sE
  rw [St.get_patch, hb, Option.map_some, pat_al C.uniq h]

/-- From one place of the text's order to a later one, no writer but quiet ones being between. -/
theorem Ctx.btw {x y : Nat} (hxy : x ≤ y) (hy : y ≤ l.length) (hq : ∀ i, x ≤ i → i < y → Quiet l i) : (S x).next ≤ (S y).next ∧ ((∀ i, x ≤ i → i < y → NoWr l i) → (S y).next = (S x).next ∧ (S y).low = (S x).low) ∧
    (∀ id, id < (S x).next → (∀ p r, x ≤ p → p < y → Al l E p r → id ≠ s.next + r) → (S y).get id = (S x).get id) ∧
    (∀ p r, x ≤ p → p < y → Al l E p r → (S y).get (s.next + r) = some (Bl l E p)) ∧
    (∀ p r, Al l E p r → (p < x ∨ y ≤ p) → (S y).get (s.next + r) = (S x).get (s.next + r)) := by
  have := tr_between C.tr C.res' C.uniq (a := x) (y - x) (by rw [show x + (y - x) = y by omega]; exact hq) (by omega)
  rw [show x + (y - x) = y by omega] at this
  obtain ⟨h1, h2, h3, h4⟩ := this
  refine ⟨h1, h2, h3, fun p r p1 p2 ha => h4 p r p1 p2 ha (C.slot ha (by omega)), fun p r ha hp => h3 _ (C.slot ha (by omega)) fun p' r' p1 p2 ha' e => ?_⟩
  have : r = r' := by omega
  subst this
  have := C.uniq _ _ _ ha ha'
  omega

/-- What the text's run has at 'm' is there now, as far as it can be named. -/
theorem Inv.agree (I : Inv s l S E V ρ0 w0 L W ρ a w) (hm : m ≤ l.length) (hq1 : ∀ i, W ≤ i → i < m → Quiet l i) (hq2 : ∀ i, m ≤ i → i < W → Quiet l i) :
    ∀ id b M, ρ id = some M → (S m).get id = some b → b.live = false ∨ (sE s.next l S E L W).get id = some b := by
  intro id b M hM hg
  have hWl := I.W_le
  by_cases hal : ∃ p r, Al l E p r ∧ id = s.next + r
  · obtain ⟨p, r, ha, rfl⟩ := hal
    have hLp : L p = true := by
      cases h : L p
      · rw [I.unb p r ha h] at hM; cases hM
      · rfl
    obtain ⟨b0, hb0, hs⟩ := C.get_al (L := L) hWl ha
    rw [hLp] at hs
    simp only [if_true] at hs
    rw [hs]
    by_cases hWm : W ≤ m
    · obtain ⟨h1, _, h3, h4, h5⟩ := C.btw hWm hm hq1
      by_cases hp : p < W
      · rw [h5 p r ha (.inl hp), hb0] at hg
        injection hg with hg; subst hg
        rw [if_pos hp]
        exact .inr rfl
      · rw [if_neg hp]
        by_cases hpm : p < m
        · rw [h4 p r (by omega) hpm ha] at hg
          injection hg with hg; subst hg
          exact .inr rfl
        · rw [h5 p r ha (.inr (by omega))] at hg
          exact .inl (I.notyet p r ha (by omega) b hg)
    · have hmW : m ≤ W := by omega
      obtain ⟨h1, _, h3, h4, h5⟩ := C.btw hmW hWl hq2
      by_cases hpm : p < m
      · rw [← h5 p r ha (.inl hpm), hb0] at hg
        injection hg with hg; subst hg
        rw [if_pos (by omega)]
        exact .inr rfl
      · by_cases hp : p < W
        · obtain ⟨k1, _, k3, k4, k5⟩ := C.btw (x := m) (y := p) (by omega) (by omega) (fun i i1 i2 => hq2 i i1 (by omega))
          have := (tr_al C.tr ha).1
          rw [k5 p r ha (.inr (Nat.le_refl _)), hg] at this
          injection this with this; subst this
          exact .inl rfl
        · rw [← h5 p r ha (.inr (by omega))] at hg
          exact .inl (I.notyet p r ha (by omega) b hg)
  · have hno : ∀ p r, Al l E p r → id ≠ s.next + r := fun p r h e => hal ⟨p, r, h, e⟩
    rw [C.get_no hno]
    by_cases hWm : W ≤ m
    · obtain ⟨h1, _, h3, h4, h5⟩ := C.btw hWm hm hq1
      have hlt : id < (S W).next := by
        by_cases h : id < (S W).next
        · exact h
        · rw [I.free id (by omega)] at hM; cases hM
      rw [h3 id hlt fun p r _ _ h => hno p r h] at hg
      exact .inr hg
    · obtain ⟨h1, _, h3, h4, h5⟩ := C.btw (x := m) (y := W) (by omega) hWl hq2
      have hlt := St.get_lt hg
      rw [h3 id hlt fun p r _ _ h => hno p r h]
      exact .inr hg

/-- Another operation's slots are untouched by one more. -/
theorem Inv.env_add (I : Inv s l S E V ρ0 w0 L W ρ a w) {o : AOper} (ho : l[m]? = some o) (hL : L m = false) (hcl : ∀ i j, L j = true → precedes A i j = true → L i = true) {c : Value} (hle : ρ.le ρ') (hv : VR ρ' (V m) c) :
    EnvR ρ' (curE l V (fun j => if j = m then true else L j) (E 0) l.length) (a.put o.dst c).tmps := by
  have hm := (List.getElem?_eq_some_iff.1 ho).1
  rw [curE_add ho hL (E 0) (fun k o' ho' hk hLk t ht hd => ?_) l.length, if_pos hm]
  · exact (I.env.mono hle).put hv o.dst
  · rcases C.pair m k o o' hk ho ho' with h | h
    · rw [hcl m k hLk h] at hL; cases hL
    · simp only [pairOk, Bool.and_eq_true] at h
      have := h.1.1
      simp [noDst, ht, hd] at this
/-- What operation 'm' looks at is there. -/
theorem Inv.look (I : Inv s l S E V ρ0 w0 L W ρ a w) {o : AOper} (ho : l[m]? = some o) (hL : L m = false) (hcl : ∀ i j, L j = true → precedes A i j = true → L i = true) (hpre : ∀ i, precedes A i m = true → L i = true) :
    ∀ t ∈ o.looks, (maskE o.looks (curE l V L (E 0) l.length))[t]? = (E m)[t]? := by
  intro t ht
  have hm := (List.getElem?_eq_some_iff.1 ho).1
  rw [maskE_at ht, curE_look C.tr (i := m) (by omega) ?_ ?_ l.length (Nat.le_refl _), Nat.min_eq_right (by omega)]
  · intro k o' ho' hk hLk hd
    rcases C.pair k m o' o hk ho' ho with h | h
    · rw [hpre k h] at hLk; cases hLk
    · simp only [pairOk, Bool.and_eq_true] at h
      have := h.1.1
      simp [noDst, hd, ht] at this
  · intro k o' ho' hk hLk hd
    by_cases hkm : k = m
    · subst hkm; rw [hL] at hLk; cases hLk
    · rcases C.pair m k o o' (by omega) ho ho' with h | h
      · rw [hcl m k hLk h] at hL; cases hL
      · simp only [pairOk, Bool.and_eq_true] at h
        have := h.1.2
        simp [noDst, hd, ht] at this

theorem Ctx.sE_same {L' : Nat → Bool} (h : ∀ p r, Al l E p r → L' p = L p) : sE s.next l S E L' W = sE s.next l S E L W := by
  unfold sE
  congr 1
  funext id b
  by_cases hal : ∃ p r, Al l E p r ∧ id = s.next + r
  · obtain ⟨p, r, ha, rfl⟩ := hal
    rw [pat_al C.uniq ha, pat_al C.uniq ha, h p r ha]
  · have hno : ∀ p r, Al l E p r → id ≠ s.next + r := fun p r h e => hal ⟨p, r, h, e⟩
    rw [pat_no hno, pat_no hno]

/-- One more operation, that is no writer and makes no block. -/
theorem Inv.quiet (I : Inv s l S E V ρ0 w0 L W ρ a w) {o : AOper} (ho : l[m]? = some o) (hL : L m = false) (hcl : ∀ i j, L j = true → precedes A i j = true → L i = true) {c : Value} (hk : o.op.kind ≠ .write) (hna : ∀ r, ¬ Al l E m r)
    (hc : Clean w w') (hv : VR ρ (V m) c) : Inv s l S E V ρ0 w0 (fun j => if j = m then true else L j) W ρ (a.put o.dst c) w' := by
  have hpm : ∀ p r, Al l E p r → p ≠ m := fun p r h e => hna r (e ▸ h)
  have hs := C.sE_same (L := L) (W := W) (L' := fun j => if j = m then true else L j) fun p r h => if_neg (hpm p r h)
  refine ⟨I.W_le, fun j o' ho' hk' => ?_, I.env_add C ho hL hcl (Ren.le_refl _) hv, ?_, by rw [hs]; exact I.rel.clean hc, by rw [hs]; exact I.step.trans (hc.step _ _), I.free, fun p r h hp => ?_, I.notyet, fun p r h hp => ?_⟩
  · have : j ≠ m := by
      rintro rfl
      rw [ho] at ho'; injection ho' with ho'; subst ho'
      exact hk hk'
    simp only [if_neg this]
    exact I.wr j o' ho' hk'
  · cases hd : o.dst <;> simpa [Act.put] using I.defers
  · rw [if_neg (hpm p r h)] at hp
    exact I.unb p r h hp
  · rw [if_neg (hpm p r h)] at hp
    exact I.pend p r h hp

/-- One more operation, that makes a block. -/
theorem Inv.alloc (I : Inv s l S E V ρ0 w0 L W ρ a w) {o : AOper} (ho : l[m]? = some o) (hL : L m = false) (hcl : ∀ i j, L j = true → precedes A i j = true → L i = true) {c : Value} {r : Nat} (ha : Al l E m r) {M : Loc}
    (hc : Clean w w') (h1 : w.heap.size ≤ M.b) (h2 : M.b < w'.heap.size) (hb : BlkOk (ρ.set (s.next + r) M) M w' (Bl l E m)) (hv : VR (ρ.set (s.next + r) M) (V m) c) :
    Inv s l S E V ρ0 w0 (fun j => if j = m then true else L j) W (ρ.set (s.next + r) M) (a.put o.dst c) w' := by
  have hf := I.unb m r ha hL
  have hWl := I.W_le
  have hr : ∀ p r', Al l E p r' → p ≠ m → r' ≠ r := fun p r' h hp e => by subst e; exact hp (C.uniq _ _ _ h ha)
  have hg : ∀ j, (sE s.next l S E (fun j => if j = m then true else L j) W).get j = if j = s.next + r then some (Bl l E m) else (sE s.next l S E L W).get j := by
    intro j
    by_cases hal : ∃ p r', Al l E p r' ∧ j = s.next + r'
    · obtain ⟨p, r', hp, rfl⟩ := hal
      obtain ⟨b, hb1, hb2⟩ := C.get_al (L := fun j => if j = m then true else L j) hWl hp
      rw [hb2]
      by_cases hpm : p = m
      · subst hpm
        have : r' = r := by
          obtain ⟨o1, e1, _, e3, _⟩ := hp
          obtain ⟨o2, f1, _, f3, _⟩ := ha
          rw [e1] at f1; injection f1 with f1; subst f1
          rw [e3] at f3; injection f3
        subst this
        simp only [if_true]
        by_cases hpW : p < W
        · rw [I.pend p r' ha hL hpW] at hb1
          injection hb1 with hb1; subst hb1
          simp
        · simp [hpW]
      · have := hr p r' hp hpm
        rw [if_neg (show ¬ s.next + r' = s.next + r by omega)]
        obtain ⟨b', hb1', hb2'⟩ := C.get_al (L := L) hWl hp
        rw [hb1] at hb1'; injection hb1' with hb1'; subst hb1'
        rw [hb2']
        simp only [if_neg hpm]
    · have hno : ∀ p r, Al l E p r → j ≠ s.next + r := fun p r h e => hal ⟨p, r, h, e⟩
      rw [C.get_no hno, C.get_no hno, if_neg (hno m r ha)]
  have hlt := C.slot ha hWl
  refine ⟨hWl, fun j o' ho' hk' => ?_, I.env_add C ho hL hcl (Ren.le_set M hf) hv, ?_, I.rel.birth hc hf h1 h2 hb hg, I.step.birth hc (by omega) hlt h1 hg rfl rfl, fun id hid => ?_, fun p r' h hp => ?_, I.notyet, fun p r' h hp => ?_⟩
  · have : j ≠ m := by
      rintro rfl
      exact ha.not_write ho' hk'
    simp only [if_neg this]
    exact I.wr j o' ho' hk'
  · cases hd : o.dst <;> simpa [Act.put] using I.defers
  · rw [Ren.set_ne _ _ (by omega)]
    exact I.free id hid
  · by_cases hpm : p = m
    · simp [hpm] at hp
    · rw [if_neg hpm] at hp
      have := hr p r' h hpm
      rw [Ren.set_ne _ _ (by omega)]
      exact I.unb p r' h hp
  · by_cases hpm : p = m
    · simp [hpm] at hp
    · rw [if_neg hpm] at hp
      exact I.pend p r' h hp
end

end Go.AM
