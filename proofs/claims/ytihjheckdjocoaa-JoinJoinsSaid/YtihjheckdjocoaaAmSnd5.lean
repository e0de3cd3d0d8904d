/-
  A region that draws its order: one more writer, and the region as a whole. Own work of this project.
-/
import Derived.Test.YtihjheckdjocoaaAmSnd4
set_option linter.unusedVariables false
set_option linter.unusedSimpArgs false
set_option linter.unusedSectionVars false
namespace Go.AM
open Go

section
variable {P : Program} {A : List Nat} {call : Nat → List AV → St → Option (AV × St)} {s : St} {k : Nat} {l : List AOper} {S : Nat → St} {E : Nat → Env} {V : Nat → AV} {ρ0 ρ ρ' : Ren} {w0 w w' : World} {L : Nat → Bool} {W m : Nat} {a : Act}
variable (C : Ctx A call s k l S E V)
include C

/-- One more operation, a writer. -/
theorem Inv.write (I : Inv s l S E V ρ0 w0 L W ρ a w) {o : AOper} (ho : l[m]? = some o) (hL : L m = false) (hcl : ∀ i j, L j = true → precedes A i j = true → L i = true) {c : Value} (hk : o.op.kind = .write) (hW : W ≤ m)
    (hno : ∀ i, W ≤ i → i < m → NoWr l i) (hst : Step (S m) (S (m + 1)) ρ ρ' w w') (hR : R (S (m + 1)) ρ' w') (hv : VR ρ' (V m) c) :
    Inv s l S E V ρ0 w0 (fun j => if j = m then true else L j) (m + 1) ρ' (a.put o.dst c) w' := by
  have hm := (List.getElem?_eq_some_iff.1 ho).1
  have hWl := I.W_le
  have hquiet : ∀ i, W ≤ i → i < m → Quiet l i := fun i h1 h2 o' ho' hk' => absurd hk' (hno i h1 h2 o' ho')
  obtain ⟨_, b2, b3, b4, b5⟩ := C.btw hW (by omega : m ≤ l.length) hquiet
  obtain ⟨hn, hlow⟩ := b2 hno
  have hagree := I.agree C (by omega : m ≤ l.length) hquiet (fun i h1 h2 => by omega)
  have hpm : ∀ p r, Al l E p r → p ≠ m := fun p r h e => by subst e; exact h.not_write ho hk
  have hsn := hst.next
  have hle : ρ.le ρ' := hst.le fun id h1 _ => I.free id (by omega)
  -- the later blocks are not there yet
  have hnot : ∀ p r, Al l E p r → m ≤ p → ∀ b, (S m).get (s.next + r) = some b → b.live = false := by
    intro p r h hp b hb
    rw [b5 p r h (.inr hp)] at hb
    exact I.notyet p r h (by omega) b hb
  have hren : ∀ p r, Al l E p r → ρ' (s.next + r) = ρ (s.next + r) := fun p r h => hst.ren _ (.inl (C.slot h (by omega)))
  -- what is there of the text's memory
  have heq : ∀ id b, (S m).get id = some b → (∀ p r, Al l E p r → id = s.next + r → L p = true ∧ p < m) → (sE s.next l S E L W).get id = some b := by
    intro id b hg hl
    by_cases hal : ∃ p r, Al l E p r ∧ id = s.next + r
    · obtain ⟨p, r, ha, rfl⟩ := hal
      obtain ⟨hLp, hpm⟩ := hl p r ha rfl
      obtain ⟨b0, hb0, hs⟩ := C.get_al (L := L) hWl ha
      rw [hs, hLp]
      simp only [if_true]
      by_cases hp : p < W
      · rw [if_pos hp]
        rw [b5 p r ha (.inl hp), hb0] at hg
        exact hg
      · rw [if_neg hp]
        rw [b4 p r (by omega) hpm ha] at hg
        exact hg
    · have hno' : ∀ p r, Al l E p r → id ≠ s.next + r := fun p r h e => hal ⟨p, r, h, e⟩
      rw [C.get_no hno', ← b3 id (by have := St.get_lt hg; omega) fun p r _ _ h => hno' p r h]
      exact hg
  have hclass : ∀ id b, (sE s.next l S E (fun j => if j = m then true else L j) (m + 1)).get id = some b → b.live = true →
      ((S (m + 1)).get id = some b ∧ ∀ p r, Al l E p r → id = s.next + r → L p = true ∧ p < m) ∨ (∃ p r, Al l E p r ∧ id = s.next + r ∧ L p = true ∧ m < p ∧ b = Bl l E p ∧ (sE s.next l S E L W).get id = some (Bl l E p) ∧ (Bl l E p).owned = true) := by
    intro id b hg hlive
    by_cases hal : ∃ p r, Al l E p r ∧ id = s.next + r
    · obtain ⟨p, r, ha, rfl⟩ := hal
      obtain ⟨b0, hb0, hs⟩ := C.get_al (L := fun j => if j = m then true else L j) (W := m + 1) (by omega) ha
      rw [hs] at hg
      have hne := hpm p r ha
      simp only [if_neg hne] at hg
      cases hLp : L p
      · rw [hLp] at hg
        simp at hg
        subst hg
        cases hlive
      · rw [hLp] at hg
        simp only [if_true] at hg
        by_cases hp : p < m + 1
        · rw [if_pos hp] at hg
          left
          refine ⟨by rw [hb0]; exact hg, fun p' r' ha' e => ?_⟩
          have : r = r' := by omega
          subst this
          have := C.uniq _ _ _ ha ha'
          subst this
          exact ⟨hLp, by omega⟩
        · rw [if_neg hp] at hg
          injection hg with hg
          right
          obtain ⟨b1, hb1, hs1⟩ := C.get_al (L := L) hWl ha
          rw [hLp] at hs1
          simp only [if_true] at hs1
          rw [if_neg (show ¬ p < W by omega)] at hs1
          obtain ⟨_, _, o1, mk, _, hal1, _⟩ := tr_al C.tr ha
          exact ⟨p, r, ha, rfl, hLp, by omega, hg.symm, hs1, aalloc_owned hal1⟩
    · have hno' : ∀ p r, Al l E p r → id ≠ s.next + r := fun p r h e => hal ⟨p, r, h, e⟩
      rw [C.get_no hno'] at hg
      exact .inl ⟨hg, fun p r h e => absurd e (hno' p r h)⟩
  -- where a live block of the text's memory lies: where it lay, or in a block that is new
  have horig : ∀ id b M, (S (m + 1)).get id = some b → b.live = true → ρ' id = some M → w.heap.size ≤ M.b ∨
      ∃ id0 N b0, ρ id0 = some N ∧ (S m).get id0 = some b0 ∧ (sE s.next l S E L W).get id0 = some b0 ∧ b0.live = true ∧ N.b = M.b ∧ (b.owned = true → b0.owned = true) := by
    intro id b M hg hl hM
    by_cases hid : id < (S m).next
    · obtain ⟨b0, h1, h2, h3⟩ := hst.old id b hid hg hl
      rw [hst.ren id (.inl hid)] at hM
      rcases hagree id b0 M hM h1 with q | q
      · rw [h2] at q; cases q
      · exact .inr ⟨id, M, b0, hM, h1, q, h2, rfl, h3⟩
    · rcases hst.new id M b (by omega) hM hg hl with q | ⟨id0, N, b0, _, h2, h3, h4, h5⟩
      · exact .inl q
      · rcases hagree id0 b0 N h2 h3 with q | q
        · rw [AB.live_of_owned h4] at q; cases q
        · exact .inr ⟨id0, N, b0, h2, h3, q, AB.live_of_owned h4, h5, fun _ => h4⟩
  have hRel : R (sE s.next l S E (fun j => if j = m then true else L j) (m + 1)) ρ' w' := by
    refine ⟨hR.bound, fun id b M hg hM => ?_, fun i j M N bi bj hij e1 e2 e3 e4 e5 e6 => ?_⟩
    · by_cases hlive : b.live = true
      · rcases hclass id b hg hlive with ⟨q, _⟩ | ⟨p, r, ha, rfl, hLp, hp, rfl, hs, how⟩
        · exact hR.blk id b M q hM
        · rw [hren p r ha] at hM
          refine ((I.rel.blk _ _ M hs hM).mono hle).same ?_
          refine hst.frame M.b (I.rel.bound _ _ hM) fun id' N blk hlo hN hgN hoN => ?_
          rcases hagree id' blk N hN hgN with q | q
          · rw [AB.live_of_owned hoN] at q; cases q
          · refine I.rel.inj id' _ N M blk _ ?_ hN hM q hs hoN hlive
            rintro rfl
            have := hnot p r ha (by omega) blk hgN
            rw [AB.live_of_owned hoN] at this; cases this
      · cases b <;> simp [AB.live] at hlive <;> trivial
    · have h5 := AB.live_of_owned e5
      rcases hclass i bi e3 h5 with ⟨q1, _⟩ | ⟨p, r, ha, rfl, hLp, hp, rfl, hs, how⟩
      · rcases hclass j bj e4 e6 with ⟨q2, _⟩ | ⟨p, r, ha, rfl, hLp, hp, rfl, hs, how⟩
        · exact hR.inj i j M N bi bj hij e1 e2 q1 q2 e5 e6
        · rw [hren p r ha] at e2
          have hb := I.rel.bound _ _ e2
          rcases horig i bi M q1 h5 e1 with q | ⟨id0, N0, b0, g1, g2, g3, g4, g5, g6⟩
          · omega
          · rw [← g5]
            refine I.rel.inj id0 _ N0 N b0 _ ?_ g1 e2 g3 hs (g6 e5) e6
            rintro rfl
            have := hnot p r ha (by omega) b0 g2
            rw [g4] at this; cases this
      · rcases hclass j bj e4 e6 with ⟨q2, _⟩ | ⟨p2, r2, ha2, rfl, hLp2, hp2, rfl, hs2, how2⟩
        · rw [hren p r ha] at e1
          have hb := I.rel.bound _ _ e1
          rcases horig j bj N q2 e6 e2 with q | ⟨id0, N0, b0, g1, g2, g3, g4, g5, g6⟩
          · omega
          · rw [← g5]
            refine I.rel.inj _ id0 M N0 _ b0 ?_ e1 g1 hs g3 e5 g4
            rintro rfl
            have := hnot p r ha (by omega) b0 g2
            rw [g4] at this; cases this
        · rw [hren p r ha] at e1
          rw [hren p2 r2 ha2] at e2
          exact I.rel.inj _ _ M N _ _ hij e1 e2 hs hs2 e5 e6
  have hStep : Step (sE s.next l S E L W) (sE s.next l S E (fun j => if j = m then true else L j) (m + 1)) ρ ρ' w w' := by
    have n1 : (sE s.next l S E L W).next = (S W).next := rfl
    have n2 : (sE s.next l S E (fun j => if j = m then true else L j) (m + 1)).next = (S (m + 1)).next := rfl
    have l1 : (sE s.next l S E L W).low = (S W).low := rfl
    have l2 : (sE s.next l S E (fun j => if j = m then true else L j) (m + 1)).low = (S (m + 1)).low := rfl
    refine ⟨by rw [n1, n2]; omega, by rw [l1, l2, ← hlow]; exact hst.low, fun id hid => hst.ren id (by rw [n1, n2] at hid; omega), hst.size, hst.os, hst.tape, hst.output, hst.drawn, fun b hb H => ?_, fun id b h1 h2 h3 => ?_, fun id M b h1 h2 h3 h4 => ?_, fun id h1 h2 => ?_⟩
    · refine hst.frame b hb fun id N blk q1 q2 q3 q4 => ?_
      rcases hagree id blk N q2 q3 with q | q
      · rw [AB.live_of_owned q4] at q; cases q
      · exact H id N blk (by rw [l2]; exact q1) q2 q q4
    · rw [n1, ← hn] at h1
      rcases hclass id b h2 h3 with ⟨q1, q2⟩ | ⟨p, r, ha, rfl, hLp, hp, rfl, hs, how⟩
      · obtain ⟨b0, g1, g2, g3⟩ := hst.old id b h1 q1 h3
        exact ⟨b0, heq id b0 g1 q2, g2, g3⟩
      · exact ⟨_, hs, AB.live_of_owned how, fun h => h⟩
    · rw [n1] at h1
      rcases hclass id b h3 h4 with ⟨q1, q2⟩ | ⟨p, r, ha, rfl, hLp, hp, rfl, hs, how⟩
      · rcases hst.new id M b (by omega) h2 q1 h4 with q | ⟨id0, N, b0, g1, g2, g3, g4, g5⟩
        · exact .inl q
        · rcases hagree id0 b0 N g2 g3 with q | q
          · rw [AB.live_of_owned g4] at q; cases q
          · exact .inr ⟨id0, N, b0, by rw [l2]; exact g1, g2, q, g4, g5⟩
      · have := C.slot ha hWl
        omega
    · rw [n1] at h1
      by_cases hal : ∃ p r, Al l E p r ∧ id = s.next + r
      · obtain ⟨p, r, ha, rfl⟩ := hal
        obtain ⟨b1, hb1, hs1⟩ := C.get_al (L := L) hWl ha
        obtain ⟨b2', hb2, hs2⟩ := C.get_al (L := fun j => if j = m then true else L j) (W := m + 1) (by omega) ha
        rw [hs1, hs2]
        simp only [if_neg (hpm p r ha)]
        have hu := hst.unm _ (by omega) h2
        by_cases hp : p < m
        · rw [if_pos (show p < m + 1 by omega)]
          by_cases hpW : p < W
          · rw [if_pos hpW]
            rw [hb2, b5 p r ha (.inl hpW), hb1] at hu
            injection hu with hu
            rw [hu]
          · rw [if_neg hpW]
            rw [hb2, b4 p r (by omega) hp ha] at hu
            injection hu with hu
            rw [hu]
        · have := hpm p r ha
          rw [if_neg (show ¬ p < m + 1 by omega), if_neg (show ¬ p < W by omega)]
      · have hno' : ∀ p r, Al l E p r → id ≠ s.next + r := fun p r h e => hal ⟨p, r, h, e⟩
        rw [C.get_no hno', C.get_no hno', hst.unm id (by omega) h2, b3 id h1 fun p r _ _ h => hno' p r h]
  refine ⟨by omega, fun j o' ho' hk' => ?_, I.env_add C ho hL hcl hle hv, ?_, hRel, I.step.trans hStep, fun id hid => ?_, fun p r h hp => ?_, fun p r h hp b hb => ?_, fun p r h hp hp2 => ?_⟩
  · by_cases hj : j = m
    · subst hj; simp
    · simp only [if_neg hj]
      rw [I.wr j o' ho' hk']
      constructor
      · intro h; omega
      · intro h
        by_cases hjW : j < W
        · exact hjW
        · exact absurd hk' (hno j (by omega) (by omega) o' ho')
  · cases hd : o.dst <;> simpa [Act.put] using I.defers
  · rw [hst.ren id (.inr hid)]
    exact I.free id (by omega)
  · rw [if_neg (hpm p r h)] at hp
    rw [hren p r h]
    exact I.unb p r h hp
  · by_cases hl : b.live = true
    · obtain ⟨b0, h1, h2, _⟩ := hst.old _ b (C.slot h (by omega)) hb hl
      have := hnot p r h (by omega) b0 h1
      rw [h2] at this; cases this
    · simpa using hl
  · have hne := hpm p r h
    rw [if_neg hne] at hp
    rw [hst.unm _ (C.slot h (by omega)) (I.unb p r h hp)]
    by_cases hpW : p < W
    · rw [b5 p r h (.inl hpW)]
      exact I.pend p r h hp hpW
    · exact b4 p r (by omega) (by omega) h
end

end Go.AM
