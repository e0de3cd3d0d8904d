/-
  How the abstract machine's values and memory stand to the model's. Own work of this project.
-/
import Derived.Test.YtihjheckdjocoaaAmComp
import Derived.Below
import Derived.LoopN
import Derived.Laws.StructEq
import Derived.Laws.IdiomCopy
set_option linter.unusedVariables false
set_option linter.unusedSimpArgs false
namespace Go.AM
open Go

/-- Where a block lies: the model's block, the first cell, and how many cells the model's block has. -/
structure Loc where
  b : Nat
  o : Nat
  n : Nat
abbrev Ren := Nat → Option Loc

mutual
def VR (ρ : Ren) : AV → Value → Prop
  | .bool b, v => v = .bool b
  | .int k n, v => v = .int k n
  | .str s, v => v = .string s
  | .ptr id off, v => ∃ L, ρ id = some L ∧ v = .pointer (some ⟨L.b, L.o + off, none⟩)
  | .nilp, v => v = .pointer none
  | .sl id off len cap sz, v => ∃ (L : Loc) (a : Addr) (c : Nat), ρ id = some L ∧ v = .slice (some a) len c ∧ len ≤ c ∧ (∀ k, cap = some k → c = k) ∧
      (c = 0 ∨ (a = ⟨L.b, L.o + off, none⟩ ∧ L.o + off + c * sz ≤ L.n))
  | .nils, v => v = .slice none 0 0
  | .mp id, v => ∃ L, ρ id = some L ∧ v = .map (some L.b)
  | .nilm, v => v = .map none
  | .fn f caps, v => ∃ cs : List Value, v = .func (.func f) #[] cs.toArray ∧ VRs ρ caps cs
  | .nilf, v => v = .nilFunc
  | .agg xs, v => ∃ cs : List Value, v = .agg cs.toArray ∧ VRs ρ xs cs
  | .tup xs, v => ∃ cs : List Value, v = .tuple cs.toArray ∧ VRs ρ xs cs
  | .und, v => v = undef
  | .any, _ => True
def VRs (ρ : Ren) : List AV → List Value → Prop
  | [], cs => cs = []
  | x :: xs, cs => ∃ c r, cs = c :: r ∧ VR ρ x c ∧ VRs ρ xs r
end

def Ren.le (ρ ρ' : Ren) : Prop := ∀ id L, ρ id = some L → ρ' id = some L
theorem Ren.le_refl (ρ : Ren) : ρ.le ρ := fun _ _ h => h
theorem Ren.le_trans {a b c : Ren} (h : a.le b) (k : b.le c) : a.le c := fun id L e => k id L (h id L e)

mutual
theorem VR.mono {ρ ρ' : Ren} (h : ρ.le ρ') : ∀ (v : AV) (c : Value), VR ρ v c → VR ρ' v c
  | .bool _, _, e => by simpa [VR] using e
  | .int _ _, _, e => by simpa [VR] using e
  | .str _, _, e => by simpa [VR] using e
  | .ptr id off, c, e => by
    simp only [VR] at e ⊢
    obtain ⟨L, hL, rfl⟩ := e
    exact ⟨L, h _ _ hL, rfl⟩
  | .nilp, _, e => by simpa [VR] using e
  | .sl id off len cap sz, c, e => by
    simp only [VR] at e ⊢
    obtain ⟨L, a, k, hL, r⟩ := e
    exact ⟨L, a, k, h _ _ hL, r⟩
  | .nils, _, e => by simpa [VR] using e
  | .mp id, c, e => by
    simp only [VR] at e ⊢
    obtain ⟨L, hL, rfl⟩ := e
    exact ⟨L, h _ _ hL, rfl⟩
  | .nilm, _, e => by simpa [VR] using e
  | .fn f caps, c, e => by
    simp only [VR] at e ⊢
    obtain ⟨cs, rfl, r⟩ := e
    exact ⟨cs, rfl, VRs.mono h caps cs r⟩
  | .nilf, _, e => by simpa [VR] using e
  | .agg xs, c, e => by
    simp only [VR] at e ⊢
    obtain ⟨cs, rfl, r⟩ := e
    exact ⟨cs, rfl, VRs.mono h xs cs r⟩
  | .tup xs, c, e => by
    simp only [VR] at e ⊢
    obtain ⟨cs, rfl, r⟩ := e
    exact ⟨cs, rfl, VRs.mono h xs cs r⟩
  | .und, _, e => by simpa [VR] using e
  | .any, _, _ => by simp [VR]
theorem VRs.mono {ρ ρ' : Ren} (h : ρ.le ρ') : ∀ (v : List AV) (c : List Value), VRs ρ v c → VRs ρ' v c
  | [], _, e => by simpa [VRs] using e
  | x :: xs, c, e => by
    simp only [VRs] at e ⊢
    obtain ⟨y, r, rfl, h1, h2⟩ := e
    exact ⟨y, r, rfl, VR.mono h x y h1, VRs.mono h xs r h2⟩
end

theorem VRs_nil {ρ : Ren} : VRs ρ [] [] := by simp [VRs]
theorem VRs_cons {ρ : Ren} {x : AV} {xs : List AV} {c : Value} {cs : List Value} : VRs ρ (x :: xs) (c :: cs) ↔ VR ρ x c ∧ VRs ρ xs cs := by
  simp only [VRs]
  constructor
  · rintro ⟨y, r, e, h1, h2⟩
    injection e with e1 e2
    subst e1; subst e2
    exact ⟨h1, h2⟩
  · rintro ⟨h1, h2⟩
    exact ⟨_, _, rfl, h1, h2⟩
theorem VRs.len {ρ : Ren} : ∀ {xs : List AV} {cs : List Value}, VRs ρ xs cs → xs.length = cs.length
  | [], cs, h => by simp only [VRs] at h; subst h; rfl
  | x :: xs, cs, h => by
    simp only [VRs] at h
    obtain ⟨c, r, rfl, _, h2⟩ := h
    simp [VRs.len h2]
theorem VRs.at_ {ρ : Ren} : ∀ {xs : List AV} {cs : List Value} (i : Nat) {v : AV}, VRs ρ xs cs → xs[i]? = some v → ∃ c, cs[i]? = some c ∧ VR ρ v c
  | [], _, _, _, _, h => by simp at h
  | x :: xs, cs, i, v, h, hi => by
    simp only [VRs] at h
    obtain ⟨c, r, rfl, h1, h2⟩ := h
    cases i with
    | zero => simp at hi; subst hi; exact ⟨c, by simp, h1⟩
    | succ i => simp at hi; obtain ⟨d, hd, hv⟩ := VRs.at_ i h2 hi; exact ⟨d, by simpa using hd, hv⟩
theorem VRs.of {ρ : Ren} : ∀ {xs : List AV} {cs : List Value}, xs.length = cs.length → (∀ (i : Nat) (v : AV), xs[i]? = some v → ∃ c, cs[i]? = some c ∧ VR ρ v c) → VRs ρ xs cs
  | [], [], _, _ => VRs_nil
  | [], _ :: _, h, _ => by simp at h
  | _ :: _, [], h, _ => by simp at h
  | x :: xs, c :: cs, h, k => by
    rw [VRs_cons]
    refine ⟨?_, VRs.of (by simpa using h) fun i v hi => ?_⟩
    · obtain ⟨d, hd, hv⟩ := k 0 x (by simp)
      simp at hd; subst hd; exact hv
    · obtain ⟨d, hd, hv⟩ := k (i + 1) v (by simpa using hi)
      exact ⟨d, by simpa using hd, hv⟩
theorem VRs.append {ρ : Ren} {xs ys : List AV} {cs ds : List Value} (h : VRs ρ xs cs) (k : VRs ρ ys ds) : VRs ρ (xs ++ ys) (cs ++ ds) := by
  induction xs generalizing cs with
  | nil => simp only [VRs] at h; subst h; simpa using k
  | cons x xs ih =>
    simp only [VRs] at h
    obtain ⟨c, r, rfl, h1, h2⟩ := h
    simp only [List.cons_append]
    exact VRs_cons.2 ⟨h1, ih h2⟩
theorem VRs.take {ρ : Ren} {xs : List AV} {cs : List Value} (h : VRs ρ xs cs) (n : Nat) : VRs ρ (xs.take n) (cs.take n) := by
  induction n generalizing xs cs with
  | zero => simpa using VRs_nil
  | succ n ih =>
    cases xs with
    | nil => simp only [VRs] at h; subst h; simpa using VRs_nil
    | cons x xs =>
      simp only [VRs] at h
      obtain ⟨c, r, rfl, h1, h2⟩ := h
      simp only [List.take_succ_cons]
      exact VRs_cons.2 ⟨h1, ih h2⟩
theorem VRs.drop {ρ : Ren} {xs : List AV} {cs : List Value} (h : VRs ρ xs cs) (n : Nat) : VRs ρ (xs.drop n) (cs.drop n) := by
  induction n generalizing xs cs with
  | zero => simpa using h
  | succ n ih =>
    cases xs with
    | nil => simp only [VRs] at h; subst h; simpa using VRs_nil
    | cons x xs =>
      simp only [VRs] at h
      obtain ⟨c, r, rfl, h1, h2⟩ := h
      simpa using ih h2

/-! ### Values that name no block -/
theorem VR.plain {ρ ρ' : Ren} {v : AV} {c : Value} (h : v.plain = true) (k : VR ρ v c) : VR ρ' v c := by
  cases v <;> simp [AV.plain] at h <;> simpa [VR] using k
theorem VRs.plain {ρ ρ' : Ren} : ∀ {xs : List AV} {cs : List Value}, xs.all AV.plain = true → VRs ρ xs cs → VRs ρ' xs cs
  | [], _, _, k => by simpa [VRs] using k
  | x :: xs, cs, h, k => by
    simp only [List.all_cons, Bool.and_eq_true] at h
    simp only [VRs] at k
    obtain ⟨c, r, rfl, h1, h2⟩ := k
    exact VRs_cons.2 ⟨VR.plain h.1 h1, VRs.plain h.2 h2⟩
theorem VR.plains {ρ ρ' : Ren} {v : AV} {c : Value} (h : v.plains = true) (k : VR ρ v c) : VR ρ' v c := by
  cases v
  case agg xs =>
    simp only [AV.plains] at h
    simp only [VR] at k ⊢
    obtain ⟨cs, rfl, r⟩ := k
    exact ⟨cs, rfl, VRs.plain h r⟩
  all_goals exact VR.plain (by simpa [AV.plains] using h) k
theorem VRs.plains {ρ ρ' : Ren} : ∀ {xs : List AV} {cs : List Value}, xs.all AV.plains = true → VRs ρ xs cs → VRs ρ' xs cs
  | [], _, _, k => by simpa [VRs] using k
  | x :: xs, cs, h, k => by
    simp only [List.all_cons, Bool.and_eq_true] at h
    simp only [VRs] at k
    obtain ⟨c, r, rfl, h1, h2⟩ := k
    exact VRs_cons.2 ⟨VR.plains h.1 h1, VRs.plains h.2 h2⟩
theorem VR.ground {ρ ρ' : Ren} {v : AV} {c : Value} (h : v.ground = true) (k : VR ρ v c) : VR ρ' v c := by
  cases v
  case agg xs => exact VR.plains (by simpa [AV.plains, AV.ground] using h) k
  case tup xs =>
    simp only [AV.ground] at h
    simp only [VR] at k ⊢
    obtain ⟨cs, rfl, r⟩ := k
    exact ⟨cs, rfl, VRs.plains h r⟩
  all_goals exact VR.plain (by simpa [AV.ground] using h) k

/-- One cell's value is one cell's value. -/
theorem VR.one {ρ : Ren} {v : AV} {c : Value} (h : v.one = true) (k : VR ρ v c) : c.oneCell' = true ∧ c.cells = #[c] := by
  cases v <;> simp [AV.one] at h <;> simp only [VR] at k
  all_goals first
    | (subst k; exact ⟨rfl, rfl⟩)
    | (obtain ⟨L, _, rfl⟩ := k; exact ⟨rfl, rfl⟩)
    | (obtain ⟨L, a, n, _, rfl, _⟩ := k; exact ⟨rfl, rfl⟩)
    | (obtain ⟨cs, rfl, _⟩ := k; exact ⟨rfl, rfl⟩)
theorem VRs.ones {ρ : Ren} : ∀ {xs : List AV} {cs : List Value}, xs.all AV.one = true → VRs ρ xs cs → ∀ c ∈ cs, c.oneCell' = true
  | [], _, _, k => by simp only [VRs] at k; subst k; simp
  | x :: xs, cs, h, k => by
    simp only [List.all_cons, Bool.and_eq_true] at h
    simp only [VRs] at k
    obtain ⟨c, r, rfl, h1, h2⟩ := k
    intro d hd
    rcases List.mem_cons.1 hd with rfl | hd
    · exact (VR.one h.1 h1).1
    · exact VRs.ones h.2 h2 d hd
/-- The cells of a value. -/
theorem VR.cells {ρ : Ren} {v : AV} {c : Value} (h1 : v.cells.all AV.one = true) (k : VR ρ v c) : ∃ cs : List Value, c.cells = cs.toArray ∧ VRs ρ v.cells cs := by
  cases v
  case agg xs =>
    simp only [VR] at k
    obtain ⟨cs, rfl, r⟩ := k
    exact ⟨cs, rfl, r⟩
  all_goals
    simp only [AV.cells, List.all_cons, List.all_nil, Bool.and_true] at h1
    exact ⟨[c], (VR.one h1 k).2, VRs_cons.2 ⟨k, VRs_nil⟩⟩

theorem bytesAV_one (b : ByteArray) : (bytesAV b).all AV.one = true := by
  rw [List.all_eq_true]
  intro x hx
  obtain ⟨u, _, rfl⟩ := List.mem_map.1 hx
  rfl

/-! ### Blocks -/
def ER (ρ : Ren) (e : AV × AV × Nat) (m : MapEntry) : Prop := VR ρ e.1 m.key ∧ VR ρ e.2.1 m.val ∧ m.born = e.2.2
def BlkOk (ρ : Ren) (L : Loc) (w : World) : AB → Prop
  | .row cells own => ∃ (cs : Array Value) (e : TypeId) (fr : Nat × Nat), w.heap[L.b]? = some (.cells cs e fr) ∧ cs.size = L.n ∧ L.o + cells.length ≤ L.n ∧
      (∀ (i : Nat) (v : AV), cells[i]? = some v → ∃ c, cs[L.o + i]? = some c ∧ VR ρ v c) ∧ (own = true → ∀ i, i < L.n → (fr.1 ≤ i && i < fr.2) = false) ∧ cells.all AV.one = true
  | .map es ck => ∃ ces : Array MapEntry, w.heap[L.b]? = some (.map ces ck) ∧ es.length = ces.size ∧ ∀ (i : Nat) (e : AV × AV × Nat), es[i]? = some e → ∃ m, ces[i]? = some m ∧ ER ρ e m
  | .iter m since seen last => ∃ m' : Option Nat, w.heap[L.b]? = some (.mapIter m' since seen.toArray last) ∧ L.o = 0 ∧ ((m = none ∧ m' = none) ∨ ∃ id M, m = some id ∧ ρ id = some M ∧ m' = some M.b)
  | .unborn | .dead => True

structure R (s : St) (ρ : Ren) (w : World) : Prop where
  bound : ∀ id L, ρ id = some L → L.b < w.heap.size
  blk : ∀ id b L, s.get id = some b → ρ id = some L → BlkOk ρ L w b
  inj : ∀ i j L M bi bj, i ≠ j → ρ i = some L → ρ j = some M → s.get i = some bi → s.get j = some bj → bi.owned = true → bj.live = true → L.b ≠ M.b

/-- What a step leaves. -/
structure Step (s s' : St) (ρ ρ' : Ren) (w w' : World) : Prop where
  next : s.next ≤ s'.next
  low : s'.low ≤ s.low
  ren : ∀ id, id < s.next ∨ s'.next ≤ id → ρ' id = ρ id
  size : w.heap.size ≤ w'.heap.size
  os : w'.os = w.os
  tape : w'.tape = w.tape
  output : w'.output = w.output
  drawn : w.drawn ≤ w'.drawn
  frame : ∀ b, b < w.heap.size → (∀ id L blk, s'.low ≤ id → ρ id = some L → s.get id = some blk → blk.owned = true → L.b ≠ b) → w'.heap[b]? = w.heap[b]?
  old : ∀ id blk', id < s.next → s'.get id = some blk' → blk'.live = true → ∃ blk, s.get id = some blk ∧ blk.live = true ∧ (blk'.owned = true → blk.owned = true)
  new : ∀ id L blk', s.next ≤ id → ρ' id = some L → s'.get id = some blk' → blk'.live = true → w.heap.size ≤ L.b ∨
    ∃ id0 L0 blk0, s'.low ≤ id0 ∧ ρ id0 = some L0 ∧ s.get id0 = some blk0 ∧ blk0.owned = true ∧ L0.b = L.b
  unm : ∀ id, id < s.next → ρ id = none → s'.get id = s.get id

theorem St.get_lt {s : St} {id : Nat} {b : AB} (h : s.get id = some b) : id < s.next := by
  unfold St.get at h
  split at h
  · assumption
  · cases h
theorem AB.live_of_owned {b : AB} (h : b.owned = true) : b.live = true := by cases b <;> simp_all [AB.owned, AB.live]

theorem Step.refl (s : St) (ρ : Ren) (w : World) : Step s s ρ ρ w w :=
  ⟨Nat.le_refl _, Nat.le_refl _, fun _ _ => rfl, Nat.le_refl _, rfl, rfl, rfl, Nat.le_refl _, fun _ _ _ => rfl, fun _ b _ h k => ⟨b, h, k, id⟩,
    fun id L b h _ k _ => absurd (St.get_lt k) (by omega), fun _ _ _ => rfl⟩
theorem Step.trans {s s1 s2 : St} {ρ ρ1 ρ2 : Ren} {w w1 w2 : World} (h : Step s s1 ρ ρ1 w w1) (k : Step s1 s2 ρ1 ρ2 w1 w2) : Step s s2 ρ ρ2 w w2 := by
  have hn := h.next
  have kn := k.next
  have kl := k.low
  refine ⟨by omega, Nat.le_trans k.low h.low, fun id hid => ?_, Nat.le_trans h.size k.size, k.os.trans h.os, k.tape.trans h.tape, k.output.trans h.output, Nat.le_trans h.drawn k.drawn, ?_, ?_, ?_, ?_⟩
  · rw [k.ren id (by omega), h.ren id (by omega)]
  · intro b hb H
    rw [k.frame b (Nat.lt_of_lt_of_le hb h.size) ?_, h.frame b hb fun id L blk hl => H id L blk (by omega)]
    intro id L blk hl hL hg ho
    by_cases hid : id < s.next
    · obtain ⟨blk0, hg0, _, ho0⟩ := h.old id blk hid hg (AB.live_of_owned ho)
      exact H id L blk0 hl (by rw [← h.ren id (.inl hid)]; exact hL) hg0 (ho0 ho)
    · rcases h.new id L blk (by omega) hL hg (AB.live_of_owned ho) with hh | ⟨id0, L0, blk0, h1, h2, h3, h4, h5⟩
      · omega
      · have := H id0 L0 blk0 (by omega) h2 h3 h4
        omega
  · intro id blk' hid hg hl
    obtain ⟨b1, g1, l1, o1⟩ := k.old id blk' (by omega) hg hl
    obtain ⟨b0, g0, l0, o0⟩ := h.old id b1 hid g1 l1
    exact ⟨b0, g0, l0, fun x => o0 (o1 x)⟩
  · intro id L blk' hid hL hg hl
    have key : ∀ id L b1, ρ1 id = some L → s1.get id = some b1 → b1.live = true → s.next ≤ id → w.heap.size ≤ L.b ∨
        ∃ id0 L0 blk0, s2.low ≤ id0 ∧ ρ id0 = some L0 ∧ s.get id0 = some blk0 ∧ blk0.owned = true ∧ L0.b = L.b := by
      intro id L b1 h1 h2 h3 h4
      rcases h.new id L b1 h4 h1 h2 h3 with hh | ⟨id0, L0, blk0, e1, e2⟩
      · exact .inl hh
      · exact .inr ⟨id0, L0, blk0, by omega, e2⟩
    by_cases h1 : id < s1.next
    · obtain ⟨b1, g1, l1, _⟩ := k.old id blk' h1 hg hl
      exact key id L b1 (by rw [← k.ren id (.inl h1)]; exact hL) g1 l1 hid
    · rcases k.new id L blk' (by omega) hL hg hl with hh | ⟨id0, L0, blk0, e1, e2, e3, e4, e5⟩
      · exact .inl (Nat.le_trans h.size hh)
      · by_cases h0 : id0 < s.next
        · obtain ⟨b0, g0, _, o0⟩ := h.old id0 blk0 h0 e3 (AB.live_of_owned e4)
          exact .inr ⟨id0, L0, b0, e1, by rw [← h.ren id0 (.inl h0)]; exact e2, g0, o0 e4, e5⟩
        · rcases key id0 L0 blk0 e2 e3 (AB.live_of_owned e4) (by omega) with hh | ⟨i, M, b, f1, f2, f3, f4, f5⟩
          · exact .inl (by omega)
          · exact .inr ⟨i, M, b, f1, f2, f3, f4, by omega⟩
  · intro id hid hn0
    rw [k.unm id (by omega) (by rw [h.ren id (.inl hid)]; exact hn0), h.unm id hid hn0]

/-- The renaming that is left has all of the elder one, if the numbers in between were free. -/
theorem Step.le {s s' : St} {ρ ρ' : Ren} {w w' : World} (h : Step s s' ρ ρ' w w') (hf : ∀ id, s.next ≤ id → id < s'.next → ρ id = none) : ρ.le ρ' := by
  intro id L hL
  by_cases h1 : id < s.next
  · rw [h.ren id (.inl h1)]; exact hL
  · by_cases h2 : s'.next ≤ id
    · rw [h.ren id (.inr h2)]; exact hL
    · rw [hf id (by omega) (by omega)] at hL; cases hL

/-- Nothing that was there was written. -/
structure Clean (w w' : World) : Prop where
  size : w.heap.size ≤ w'.heap.size
  os : w'.os = w.os
  tape : w'.tape = w.tape
  output : w'.output = w.output
  drawn : w.drawn ≤ w'.drawn
  block : ∀ b, b < w.heap.size → w'.heap[b]? = w.heap[b]?
theorem Clean.refl (w : World) : Clean w w := ⟨Nat.le_refl _, rfl, rfl, rfl, Nat.le_refl _, fun _ _ => rfl⟩
theorem BlkOk.same {ρ : Ren} {L : Loc} {w w' : World} {b : AB} (h : w'.heap[L.b]? = w.heap[L.b]?) (k : BlkOk ρ L w b) : BlkOk ρ L w' b := by
  cases b <;> simp only [BlkOk] at k ⊢ <;> simpa [h] using k
theorem BlkOk.mono {ρ ρ' : Ren} {L : Loc} {w : World} {b : AB} (h : ρ.le ρ') (k : BlkOk ρ L w b) : BlkOk ρ' L w b := by
  cases b with
  | row cells own =>
    simp only [BlkOk] at k ⊢
    obtain ⟨cs, e, fr, h1, h2, h3, h4, h5⟩ := k
    exact ⟨cs, e, fr, h1, h2, h3, fun i v hv => let ⟨c, e1, e2⟩ := h4 i v hv; ⟨c, e1, VR.mono h v c e2⟩, h5⟩
  | map es ck =>
    simp only [BlkOk] at k ⊢
    obtain ⟨ces, h1, h2, h3⟩ := k
    exact ⟨ces, h1, h2, fun i e he => let ⟨m, e1, e2, e3, e4⟩ := h3 i e he; ⟨m, e1, VR.mono h _ _ e2, VR.mono h _ _ e3, e4⟩⟩
  | iter m since seen last =>
    simp only [BlkOk] at k ⊢
    obtain ⟨m', h1, h2, h3⟩ := k
    refine ⟨m', h1, h2, ?_⟩
    rcases h3 with h3 | ⟨id, M, e1, e2, e3⟩
    · exact .inl h3
    · exact .inr ⟨id, M, e1, h _ _ e2, e3⟩
  | unborn => trivial
  | dead => trivial
theorem R.clean {s : St} {ρ : Ren} {w w' : World} (h : R s ρ w) (k : Clean w w') : R s ρ w' :=
  ⟨fun id L e => Nat.lt_of_lt_of_le (h.bound id L e) k.size, fun id b L e1 e2 => (h.blk id b L e1 e2).same (k.block _ (h.bound id L e2)), h.inj⟩
theorem Clean.step {w w' : World} (k : Clean w w') (s : St) (ρ : Ren) : Step s s ρ ρ w w' :=
  ⟨Nat.le_refl _, Nat.le_refl _, fun _ _ => rfl, k.size, k.os, k.tape, k.output, k.drawn, fun b hb _ => k.block b hb, fun _ b _ h k => ⟨b, h, k, id⟩,
    fun id L b h _ k _ => absurd (St.get_lt k) (by omega), fun _ _ _ => rfl⟩
/-- A step that wrote below no mark is clean. -/
theorem Step.clean {s s' : St} {ρ ρ' : Ren} {w w' : World} (h : Step s s' ρ ρ' w w') (hl : s.next ≤ s'.low) : Clean w w' :=
  ⟨h.size, h.os, h.tape, h.output, h.drawn, fun b hb => h.frame b hb fun id L blk h1 _ h3 _ => absurd (St.get_lt h3) (by omega)⟩

/-! ### The abstract memory -/
theorem St.get_push_new (s : St) (b : AB) : (s.push b).get s.next = some b := by simp [St.get, St.push]
theorem St.get_push_old (s : St) (b : AB) {id : Nat} (h : id < s.next) : (s.push b).get id = s.get id := by
  simp only [St.get, St.push, h, if_true, show id < s.next + 1 by omega]
  rw [show s.next + 1 - 1 - id = (s.next - 1 - id) + 1 by omega]
  simp
theorem St.get_push (s : St) (b : AB) (id : Nat) : (s.push b).get id = if id = s.next then some b else s.get id := by
  by_cases h : id = s.next
  · subst h; simp [St.get_push_new]
  · rw [if_neg h]
    by_cases h' : id < s.next
    · exact St.get_push_old s b h'
    · simp [St.get, St.push, h', show ¬ id < s.next + 1 by omega]
theorem St.get_put_same {s : St} {id : Nat} {b0 b : AB} (h : s.get id = some b0) : (s.put id b).get id = some b := by
  have hlt := St.get_lt h
  simp only [St.get, hlt, if_true] at h
  have := (List.getElem?_eq_some_iff.1 h).1
  simp [St.get, St.put, hlt, this]
theorem St.get_put_ne (s : St) {id j : Nat} (b : AB) (hi : id < s.next) (h : j ≠ id) : (s.put id b).get j = s.get j := by
  by_cases hj : j < s.next
  · simp only [St.get, St.put, hj, if_true]
    rw [List.getElem?_set_ne (by omega)]
  · simp [St.get, St.put, hj]
theorem St.get_born_same {s : St} {id : Nat} {b0 b : AB} (h : s.get id = some b0) : (s.born id b).get id = some b := by
  have hlt := St.get_lt h
  simp only [St.get, hlt, if_true] at h
  have := (List.getElem?_eq_some_iff.1 h).1
  simp [St.get, St.born, hlt, this]
theorem St.get_born_ne (s : St) {id j : Nat} (b : AB) (hi : id < s.next) (h : j ≠ id) : (s.born id b).get j = s.get j := by
  by_cases hj : j < s.next
  · simp only [St.get, St.born, hj, if_true]
    rw [List.getElem?_set_ne (by omega)]
  · simp [St.get, St.born, hj]
@[simp] theorem St.next_push (s : St) (b : AB) : (s.push b).next = s.next + 1 := rfl
@[simp] theorem St.low_push (s : St) (b : AB) : (s.push b).low = s.low := rfl
@[simp] theorem St.next_put (s : St) (id : Nat) (b : AB) : (s.put id b).next = s.next := rfl
@[simp] theorem St.low_put (s : St) (id : Nat) (b : AB) : (s.put id b).low = min s.low id := rfl
@[simp] theorem St.next_born (s : St) (id : Nat) (b : AB) : (s.born id b).next = s.next := rfl
@[simp] theorem St.low_born (s : St) (id : Nat) (b : AB) : (s.born id b).low = s.low := rfl
@[simp] theorem St.get_low (s : St) (n id : Nat) : ({ s with low := n } : St).get id = s.get id := rfl
theorem R.low {s : St} {ρ : Ren} {w : World} (n : Nat) (h : R s ρ w) : R { s with low := n } ρ w := ⟨h.bound, h.blk, h.inj⟩
theorem R.low' {s : St} {ρ : Ren} {w : World} {n : Nat} (h : R { s with low := n } ρ w) : R s ρ w := ⟨h.bound, h.blk, h.inj⟩

/-! ### A new block -/
def Ren.set (ρ : Ren) (id : Nat) (L : Loc) : Ren := fun j => if j = id then some L else ρ j
theorem Ren.set_same (ρ : Ren) (id : Nat) (L : Loc) : ρ.set id L id = some L := by simp [Ren.set]
theorem Ren.set_ne (ρ : Ren) {id j : Nat} (L : Loc) (h : j ≠ id) : ρ.set id L j = ρ j := by simp [Ren.set, h]
theorem Ren.le_set {ρ : Ren} {id : Nat} (L : Loc) (h : ρ id = none) : ρ.le (ρ.set id L) := by
  intro j M e
  by_cases hj : j = id
  · subst hj; rw [h] at e; cases e
  · rw [Ren.set_ne _ _ hj]; exact e

def pushW (w : World) (o : Obj) : World := { w with heap := w.heap.push o }
theorem pushW_old (w : World) (o : Obj) {b : Nat} (h : b < w.heap.size) : (pushW w o).heap[b]? = w.heap[b]? := by
  show (w.heap.push o)[b]? = _
  rw [Array.getElem?_push, if_neg (by omega)]
theorem pushW_new (w : World) (o : Obj) : (pushW w o).heap[w.heap.size]? = some o := by
  show (w.heap.push o)[w.heap.size]? = _
  simp
@[simp] theorem pushW_size (w : World) (o : Obj) : (pushW w o).heap.size = w.heap.size + 1 := by
  show (w.heap.push o).size = _
  simp
theorem clean_pushW (w : World) (o : Obj) : Clean w (pushW w o) := ⟨by simp, rfl, rfl, rfl, Nat.le_refl _, fun b hb => pushW_old w o hb⟩
theorem Clean.trans {a b c : World} (h : Clean a b) (k : Clean b c) : Clean a c :=
  ⟨Nat.le_trans h.size k.size, k.os.trans h.os, k.tape.trans h.tape, k.output.trans h.output, Nat.le_trans h.drawn k.drawn, fun i hi => (k.block i (Nat.lt_of_lt_of_le hi h.size)).trans (h.block i hi)⟩
theorem clean_drew (w : World) : Clean w { w with drawn := w.drawn + 1 } := ⟨Nat.le_refl _, rfl, rfl, rfl, Nat.le_succ _, fun _ _ => rfl⟩

/-- Behind a world in which what was there lies as it did, a block that lies beyond all is given the next number. -/
theorem R.push {s : St} {ρ : Ren} {w w' : World} {b : AB} {L : Loc} (h : R s ρ w) (hc : Clean w w') (hf : ρ s.next = none) (h1 : w.heap.size ≤ L.b) (h2 : L.b < w'.heap.size)
    (hb : BlkOk (ρ.set s.next L) L w' b) : R (s.push b) (ρ.set s.next L) w' ∧ Step s (s.push b) ρ (ρ.set s.next L) w w' := by
  have hle : ρ.le (ρ.set s.next L) := Ren.le_set L hf
  refine ⟨⟨fun id M e => ?_, fun id b' M e1 e2 => ?_, fun i j M N bi bj hij e1 e2 e3 e4 e5 e6 => ?_⟩, ⟨by simp, by simp, fun id hid => ?_, hc.size, hc.os, hc.tape, hc.output, hc.drawn, fun b hb _ => hc.block b hb, ?_, ?_, ?_⟩⟩
  · by_cases hid : id = s.next
    · subst hid; rw [Ren.set_same] at e; injection e with e; subst e; exact h2
    · rw [Ren.set_ne _ _ hid] at e; exact Nat.lt_of_lt_of_le (h.bound _ _ e) hc.size
  · by_cases hid : id = s.next
    · subst hid
      rw [Ren.set_same] at e2; injection e2 with e2; subst e2
      rw [St.get_push_new] at e1; injection e1 with e1; subst e1
      exact hb
    · rw [Ren.set_ne _ _ hid] at e2
      rw [St.get_push, if_neg hid] at e1
      exact (h.blk id b' M e1 e2).mono hle |>.same (hc.block _ (h.bound _ _ e2))
  · by_cases hi : i = s.next
    · subst hi
      rw [Ren.set_same] at e1; injection e1 with e1; subst e1
      rw [Ren.set_ne _ _ (Ne.symm hij)] at e2
      have := h.bound _ _ e2
      omega
    · rw [Ren.set_ne _ _ hi] at e1
      by_cases hj : j = s.next
      · subst hj
        rw [Ren.set_same] at e2; injection e2 with e2; subst e2
        have := h.bound _ _ e1
        omega
      · rw [Ren.set_ne _ _ hj] at e2
        rw [St.get_push, if_neg hi] at e3
        rw [St.get_push, if_neg hj] at e4
        exact h.inj i j M N bi bj hij e1 e2 e3 e4 e5 e6
  · simp at hid; exact Ren.set_ne _ _ (by omega)
  · intro id blk' hid hg hl
    rw [St.get_push, if_neg (by omega)] at hg
    exact ⟨blk', hg, hl, id_⟩
  · intro id M blk' hid hM hg hl
    have : id = s.next := by have := St.get_lt hg; simp at this; omega
    subst this
    rw [Ren.set_same] at hM; injection hM with hM; subst hM
    exact .inl h1
  · intro id hid _
    rw [St.get_push, if_neg (by omega)]
where id_ {p : Prop} (h : p) : p := h

end Go.AM
