/-
  Arguments with slices in slices and in structs, opened into the abstract machine's memory. Own work of this project.
-/
import Derived.Test.YtoacffbhciccnaaGreatP4
import Derived.HandedShaped
import Derived.ProofKit
import Derived.OpenShut
import Derived.KernelRfl
set_option linter.unusedVariables false
set_option linter.unusedSimpArgs false
section
set_option maxRecDepth 100000
namespace Go.AM
open Go Go.ChangeShapes Go.WideShapes Go.ChangeAt Go.RowKit Go.Deep

/-- Some block of cells is there. -/
def HasCellsD (W : World) : Prop := ∃ (b : Nat) (cs : Array Value) (e : TypeId) (fr : Nat × Nat), W.heap[b]? = some (Obj.cells cs e fr)
theorem dummyD {W : World} (h : HasCellsD W) : ∃ L : Loc, L.b < W.heap.size ∧ ∀ ρ, BlkOk ρ L W (.row [] false) := by
  obtain ⟨b, cs, e, fr, hb⟩ := h
  refine ⟨⟨b, 0, cs.size⟩, (Array.getElem?_eq_some_iff.1 hb).1, fun ρ => ?_⟩
  simp only [BlkOk]
  exact ⟨cs, e, fr, hb, rfl, by simp, fun i v h => by simp at h, by simp, rfl⟩

section
variable (P : Program)
/-- What the memory shows at cells of a type. -/
def RdF (ok : TypeId → List AV → Prop) : List Field → List AV → Prop
  | [], vs => vs = []
  | f :: r, vs => ∃ a b, vs = a ++ b ∧ ok f.type a ∧ RdF ok r b
def RdT (s : St) : Nat → TypeId → List AV → Prop
  | 0, _, _ => False
  | d + 1, t, vs => match P.underlying t with
    | some .bool => ∃ x, vs = [.bool x]
    | some (.int k) => ∃ n, vs = [.int k n] ∧ (Lit.int k n).wf = true
    | some .string => ∃ x, vs = [.str x]
    | some (.struct fs) => RdF (RdT s d) fs.toList vs
    | some (.slice e) => vs = [.nils] ∨ ∃ (id n cap : Nat) (rows : List (List AV)), vs = [.sl id 0 n (some cap) (P.cellsOf e)] ∧ n ≤ cap ∧ cap ≤ maxLen ∧ rows.length = cap ∧ s.get id = some (.row rows.flatten false) ∧ ∀ r ∈ rows, RdT s d e r ∧ r.length = P.cellsOf e
    | _ => False
def okF (ok : TypeId → Bool) : List Field → Nat → Nat → Bool
  | [], at_, sz => decide (sz = at_)
  | f :: r, at_, sz => decide (f.offset = at_) && ok f.type && okF ok r (at_ + P.cellsOf f.type) sz
def okT : Nat → TypeId → Bool
  | 0, _ => false
  | d + 1, t => match P.underlying t with
    | some .bool | some (.int _) | some .string => true
    | some (.struct fs) => okF P (okT d) fs.toList 0 (P.cellsOf t)
    | some (.slice e) => decide (P.cellsOf e ≠ 0) && okT d e
    | _ => false
end

variable {P : Program} {H : Type} {enc : TypeId × Value → H} {W : World} {base : Nat} {held : Bool}
/-- Cells, and the blocks that they reach, numbered from 'start' on. -/
structure Opn (W : World) (Q : St → List AV → Prop) (start : Nat) (cs : List Value) (vs : List AV) (bl : List (AB × Loc)) : Prop where
  lt : ∀ p ∈ bl, p.2.b < W.heap.size
  own : ∀ p ∈ bl, p.1.owned = false
  vr : ∀ ρ : Ren, (∀ i p, bl[i]? = some p → ρ (start + i) = some p.2) → VRs ρ vs cs ∧ ∀ p ∈ bl, BlkOk ρ p.2 W p.1
  rd : ∀ s : St, (∀ i p, bl[i]? = some p → s.get (start + i) = some p.1) → Q s vs
  one : vs.all AV.one = true
  len : vs.length = cs.length
theorem Opn.plain {Q : St → List AV → Prop} {start : Nat} {cs : List Value} {vs : List AV} (h : ∀ ρ, VRs ρ vs cs) (hq : ∀ s, Q s vs) (ho : vs.all AV.one = true) (hl : vs.length = cs.length) : Opn W Q start cs vs [] :=
  ⟨by simp, by simp, fun ρ _ => ⟨h ρ, by simp⟩, fun s _ => hq s, ho, hl⟩
theorem Opn.app {Q1 Q2 : St → List AV → Prop} {start : Nat} {c1 c2 : List Value} {v1 v2 : List AV} {b1 b2 : List (AB × Loc)} (h : Opn W Q1 start c1 v1 b1) (k : Opn W Q2 (start + b1.length) c2 v2 b2) :
    Opn W (fun s _ => Q1 s v1 ∧ Q2 s v2) start (c1 ++ c2) (v1 ++ v2) (b1 ++ b2) := by
  have e1 : ∀ {i : Nat} {p}, b1[i]? = some p → (b1 ++ b2)[i]? = some p := fun {i p} hp => by
    rw [List.getElem?_append_left (List.getElem?_eq_some_iff.1 hp).1]; exact hp
  have e2 : ∀ {i : Nat} {p}, b2[i]? = some p → (b1 ++ b2)[b1.length + i]? = some p := fun {i p} hp => by
    rw [List.getElem?_append_right (by omega), Nat.add_sub_cancel_left]; exact hp
  refine ⟨fun p hp => ?_, fun p hp => ?_, fun ρ hρ => ?_, fun s hs => ⟨h.rd s fun i p hp => hs i p (e1 hp), k.rd s fun i p hp => ?_⟩, by simp [h.one, k.one], by simp [h.len, k.len]⟩
  · rcases List.mem_append.1 hp with q | q
    · exact h.lt p q
    · exact k.lt p q
  · rcases List.mem_append.1 hp with q | q
    · exact h.own p q
    · exact k.own p q
  · obtain ⟨r1, r2⟩ := h.vr ρ fun i p hp => hρ i p (e1 hp)
    obtain ⟨r3, r4⟩ := k.vr ρ fun i p hp => by have := hρ _ p (e2 hp); rwa [← Nat.add_assoc] at this
    refine ⟨r1.append r3, fun p hp => ?_⟩
    rcases List.mem_append.1 hp with q | q
    · exact r2 p q
    · exact r4 p q
  · have := hs _ p (e2 hp)
    rwa [← Nat.add_assoc] at this
theorem Opn.imp {Q Q' : St → List AV → Prop} {start : Nat} {cs : List Value} {vs : List AV} {bl : List (AB × Loc)} (h : Opn W Q start cs vs bl) (k : ∀ s, Q s vs → Q' s vs) : Opn W Q' start cs vs bl :=
  ⟨h.lt, h.own, h.vr, fun s hs => k s (h.rd s hs), h.one, h.len⟩

/-- A slice's place, its elements as they are read one by one. -/
theorem slice_geo {t e : TypeId} {fuel : Nat} {cs : List Value} {x : DataW H × List MemPlace} (hu : P.underlying t = some (.slice e)) (h0 : P.cellsOf e ≠ 0)
    (h : DataW.trod enc P W base (fun _ => true) held fuel t cs = some x) : cs = [.slice none 0 0] ∨ (∃ a, cs = [.slice (some a) 0 0]) ∨
    ∃ (b off len cap : Nat) (cells : Array Value) (el : TypeId) (fr : Nat × Nat) (n : Nat), cs = [.slice (some ⟨b, off, none⟩) len cap] ∧ 0 < cap ∧ len ≤ cap ∧ cap ≤ maxLen ∧ W.heap[b]? = some (.cells cells el fr) ∧ off + cap * P.cellsOf e ≤ cells.size ∧
      ∀ i, i < cap → ∃ x, DataW.trod enc P W base (fun _ => true) held n e ((cells.toList.drop (off + i * P.cellsOf e)).take (P.cellsOf e)) = some x := by
  rcases open_slice hu h with ⟨rfl, _⟩ | ⟨a, len, cap, m, n, D, Pl, rfl, hb, hl, hm, hmm, _, hx⟩
  · exact .inl rfl
  right
  simp only [if_true] at hmm
  subst hmm
  by_cases hc : m = 0
  · left
    subst hc
    have : len = 0 := by omega
    subst this
    exact ⟨a, rfl⟩
  right
  obtain ⟨cs0, h1, _⟩ := hx 0 (by omega)
  obtain ⟨_, hl0, hat0⟩ := World.cells?_some h1
  have hc0 := hat0 0 (by omega)
  obtain ⟨b, off, spot⟩ := a
  have hsome : ∃ v, cs0[0]? = some v := ⟨cs0[0]'(by omega), by simp⟩
  obtain ⟨v0, hv0⟩ := hsome
  rw [hv0] at hc0
  obtain ⟨cells, el, fr, hh, hsp⟩ := cell_some hc0
  rw [addr_block, addr_block] at hh
  simp only at hh
  have hspot : spot = none := by
    have h2 := addr_spot _ 0 hsp (.inl rfl) rfl
    have h3 := addr_spot _ (0 * P.cellsOf e) h2 (.inr trivial) (by simp)
    exact h3
  subst hspot
  have hat : ∀ i, i < m → off + (i + 1) * P.cellsOf e ≤ cells.size ∧ ∃ x, DataW.trod enc P W base (fun _ => true) held n e ((cells.toList.drop (off + i * P.cellsOf e)).take (P.cellsOf e)) = some x := by
    intro i hi
    obtain ⟨cs', e1, e2⟩ := hx i hi
    obtain ⟨_, hl', hat'⟩ := World.cells?_some e1
    have hget : ∀ j, j < P.cellsOf e → cells[off + i * P.cellsOf e + j]? = cs'[j]? := by
      intro j hj
      have := hat' j hj
      rw [addr_add, addr_add, cell_at hh] at this
      exact this
    have hsz : off + (i + 1) * P.cellsOf e ≤ cells.size := by
      have hj : P.cellsOf e - 1 < P.cellsOf e := by omega
      have := hget _ hj
      rw [List.getElem?_eq_getElem (by omega)] at this
      have hlt := (Array.getElem?_eq_some_iff.1 this).1
      rw [Nat.succ_mul]
      omega
    refine ⟨hsz, (D i, Pl i), ?_⟩
    have : (cells.toList.drop (off + i * P.cellsOf e)).take (P.cellsOf e) = cs' := by
      apply List.ext_getElem?
      intro j
      by_cases hj : j < P.cellsOf e
      · rw [List.getElem?_take_of_lt hj, List.getElem?_drop]
        have := hget j (by omega)
        simpa using this
      · rw [List.getElem?_eq_none (by simp; omega), List.getElem?_eq_none (by omega)]
    rw [this]
    exact e2
  obtain ⟨q2, _⟩ := hat (m - 1) (by omega)
  rw [show m - 1 + 1 = m by omega] at q2
  exact ⟨b, off, len, m, cells, el, fr, n, rfl, by omega, hl, hm, hh, q2, fun i hi => (hat i hi).2⟩

def DeepOk (P : Program) (enc : TypeId × Value → H) (W : World) (base : Nat) (held : Bool) (d : Nat) (t : TypeId) : Prop :=
  ∀ (fuel : Nat) (cs : List Value) (x : DataW H × List MemPlace), DataW.trod enc P W base (fun _ => true) held fuel t cs = some x → ∀ start, ∃ vs bl, Opn W (fun s vs => RdT P s d t vs) start cs vs bl

theorem deep_fields {d : Nat} (IH : ∀ t, okT P d t = true → DeepOk P enc W base held d t) {n : Nat} {cs : List Value} {sz : Nat} (hcs : cs.length = sz) : ∀ (fs : List Field) (at_ : Nat), okF P (okT P d) fs at_ sz = true →
    (∀ f ∈ fs, ∃ x, DataW.trod enc P W base (fun _ => true) held n f.type ((cs.drop f.offset).take (P.cellsOf f.type)) = some x) → ∀ start, ∃ vs bl, Opn W (fun s vs => RdF (RdT P s d) fs vs) start (cs.drop at_) vs bl
  | [], at_, h, _, start => by
    simp only [okF, decide_eq_true_eq] at h
    rw [List.drop_eq_nil_of_le (by omega)]
    exact ⟨[], [], .plain (fun _ => VRs_nil) (fun _ => rfl) rfl rfl⟩
  | f :: r, at_, h, hx, start => by
    simp only [okF, Bool.and_eq_true, decide_eq_true_eq] at h
    obtain ⟨⟨hoff, hok⟩, hr⟩ := h
    obtain ⟨x, hxf⟩ := hx f (by simp)
    obtain ⟨v1, b1, o1⟩ := IH f.type hok n _ x hxf start
    obtain ⟨v2, b2, o2⟩ := deep_fields IH hcs r (at_ + P.cellsOf f.type) hr (fun g hg => hx g (by simp [hg])) (start + b1.length)
    refine ⟨v1 ++ v2, b1 ++ b2, ?_⟩
    have := o1.app o2
    rw [hoff, ← List.drop_drop, List.take_append_drop] at this
    exact this.imp fun s q => ⟨v1, v2, rfl, q⟩
theorem deep_rows {d : Nat} {e : TypeId} {n : Nat} (IH : DeepOk P enc W base held d e) (cells : List Value) (off : Nat) : ∀ (k : Nat), off + k * P.cellsOf e ≤ cells.length →
    (∀ i, i < k → ∃ x, DataW.trod enc P W base (fun _ => true) held n e ((cells.drop (off + i * P.cellsOf e)).take (P.cellsOf e)) = some x) → ∀ start, ∃ (rows : List (List AV)) (bl : List (AB × Loc)), rows.length = k ∧
      Opn W (fun s _ => ∀ r ∈ rows, RdT P s d e r ∧ r.length = P.cellsOf e) start ((cells.drop off).take (k * P.cellsOf e)) rows.flatten bl
  | 0, _, _, start => ⟨[], [], rfl, .plain (fun _ => by simpa using VRs_nil) (fun _ r hr => by simp at hr) rfl (by simp)⟩
  | k + 1, hle, hx, start => by
    obtain ⟨rows, b1, h1, o1⟩ := deep_rows IH cells off k (by rw [Nat.succ_mul] at hle; omega) (fun i hi => hx i (by omega)) start
    obtain ⟨x, hxk⟩ := hx k (by omega)
    obtain ⟨v2, b2, o2⟩ := IH n _ x hxk (start + b1.length)
    refine ⟨rows ++ [v2], b1 ++ b2, by simp [h1], ?_⟩
    have hl2 : v2.length = P.cellsOf e := by
      rw [o2.len, List.length_take, List.length_drop]
      rw [Nat.succ_mul] at hle
      omega
    have := o1.app o2
    rw [List.flatten_append, List.flatten_singleton, Nat.succ_mul, List.take_add, List.drop_drop]
    refine this.imp fun s hq r hr => ?_
    rcases List.mem_append.1 hr with q | q
    · exact hq.1 r q
    · simp at q
      subst q
      exact ⟨hq.2, hl2⟩
theorem VRs.cell {ρ : Ren} {vs : List AV} {cs : List Value} (h : VRs ρ vs cs) {i : Nat} {v : AV} (hi : vs[i]? = some v) : ∃ c, cs[i]? = some c ∧ VR ρ v c := VRs.at_ i h hi
theorem deep_open (hc : HasCellsD W) : ∀ (d : Nat) (t : TypeId), okT P d t = true → DeepOk P enc W base held d t
  | 0, t, h => by simp [okT] at h
  | d + 1, t, h => by
    intro fuel cs x hx start
    simp only [okT] at h
    split at h
    · rename_i hu
      obtain ⟨b, rfl, _⟩ := DataW.trod_bool hu hx
      exact ⟨[.bool b], [], .plain (fun ρ => VRs_cons.2 ⟨by simp [VR], VRs_nil⟩) (fun s => by simp only [RdT, hu]; exact ⟨b, rfl⟩) rfl rfl⟩
    · rename_i k hu
      obtain ⟨b, rfl, _, hw⟩ := DataW.trod_int hu hx
      exact ⟨[.int k b], [], .plain (fun ρ => VRs_cons.2 ⟨by simp [VR], VRs_nil⟩) (fun s => by simp only [RdT, hu]; exact ⟨b, rfl, hw⟩) rfl rfl⟩
    · rename_i hu
      obtain ⟨b, rfl, _⟩ := DataW.trod_string hu hx
      exact ⟨[.str b], [], .plain (fun ρ => VRs_cons.2 ⟨by simp [VR], VRs_nil⟩) (fun s => by simp only [RdT, hu]; exact ⟨b, rfl⟩) rfl rfl⟩
    · rename_i fs hu
      obtain ⟨xs, n, _, _, hl, hxl, hf⟩ := DataW.trod_struct hu hx
      obtain ⟨vs, bl, ho⟩ := deep_fields (fun t hk => deep_open hc d t hk) hl fs.toList 0 h (n := n) (fun f hmem => by
        obtain ⟨i, hi⟩ := List.getElem?_of_mem hmem
        have hi' : fs[i]? = some f := by simpa using hi
        have hlt : i < xs.length := by
          have := (Array.getElem?_eq_some_iff.1 hi').1
          omega
        exact ⟨xs[i], by rw [hf i f hi']; simp [hlt]⟩) start
      rw [List.drop_zero] at ho
      exact ⟨vs, bl, ho.imp fun s q => by simp only [RdT, hu]; exact q⟩
    · rename_i e hu
      simp only [Bool.and_eq_true, decide_eq_true_eq] at h
      obtain ⟨L, hL1, hL2⟩ := dummyD hc
      rcases slice_geo hu h.1 hx with rfl | ⟨a, rfl⟩ | ⟨b, off, len, cap, cells, el, fr, n, rfl, h2, h3, h4, h5, h6, h7⟩
      · exact ⟨[.nils], [], .plain (fun ρ => VRs_cons.2 ⟨by simp [VR], VRs_nil⟩) (fun s => by simp only [RdT, hu]; exact .inl (by trivial)) rfl rfl⟩
      · refine ⟨[.sl start 0 0 (some 0) (P.cellsOf e)], [(.row [] false, L)], ?_, ?_, fun ρ hρ => ⟨VRs_cons.2 ⟨?_, VRs_nil⟩, ?_⟩, fun s hs => ?_, rfl, rfl⟩
        · intro p hp
          simp at hp
          subst hp
          exact hL1
        · intro p hp
          simp at hp
          subst hp
          rfl
        · simp only [VR]
          exact ⟨L, a, 0, hρ 0 _ rfl, rfl, Nat.le_refl _, fun k hk => by injection hk, .inl rfl⟩
        · intro p hp
          simp at hp
          subst hp
          exact hL2 ρ
        · simp only [RdT, hu]
          exact .inr ⟨start, 0, 0, [], rfl, Nat.le_refl _, Nat.zero_le _, rfl, hs 0 _ rfl, fun r hr => by simp at hr⟩
      · have hlt := (Array.getElem?_eq_some_iff.1 h5).1
        obtain ⟨rows, bl, hr1, ho⟩ := deep_rows (deep_open hc d e h.2) cells.toList off cap (by simpa using h6) h7 (start + 1)
        have hfl : rows.flatten.length = cap * P.cellsOf e := by
          rw [ho.len, List.length_take, List.length_drop]
          simp
          omega
        have hup : ∀ {ρ : Ren}, (∀ i p, ((AB.row rows.flatten false, (⟨b, off, cells.size⟩ : Loc)) :: bl)[i]? = some p → ρ (start + i) = some p.2) → ∀ i p, bl[i]? = some p → ρ (start + 1 + i) = some p.2 := fun hρ i p hp => by
          have := hρ (i + 1) p (by simpa using hp)
          rwa [show start + (i + 1) = start + 1 + i by omega] at this
        refine ⟨[.sl start 0 len (some cap) (P.cellsOf e)], (.row rows.flatten false, ⟨b, off, cells.size⟩) :: bl, ?_, ?_, fun ρ hρ => ?_, fun s hs => ?_, rfl, rfl⟩
        · intro p hp
          rcases List.mem_cons.1 hp with rfl | hp
          · exact hlt
          · exact ho.lt p hp
        · intro p hp
          rcases List.mem_cons.1 hp with rfl | hp
          · rfl
          · exact ho.own p hp
        · obtain ⟨r1, r2⟩ := ho.vr ρ (hup hρ)
          refine ⟨VRs_cons.2 ⟨?_, VRs_nil⟩, fun p hp => ?_⟩
          · simp only [VR]
            exact ⟨⟨b, off, cells.size⟩, ⟨b, off, none⟩, cap, hρ 0 _ rfl, rfl, h3, fun k hk => by injection hk, .inr ⟨by simp, by simpa using h6⟩⟩
          · rcases List.mem_cons.1 hp with rfl | hp
            · simp only [BlkOk]
              refine ⟨cells, el, fr, h5, rfl, by rw [hfl]; exact h6, fun i v hi => ?_, by simp, ho.one⟩
              have hi' := (List.getElem?_eq_some_iff.1 hi).1
              obtain ⟨c, hc1, hc2⟩ := r1.cell hi
              refine ⟨c, ?_, hc2⟩
              rw [List.getElem?_take_of_lt (by omega), List.getElem?_drop] at hc1
              simpa using hc1
            · exact r2 p hp
        · simp only [RdT, hu]
          refine .inr ⟨start, len, cap, rows, rfl, h3, h4, hr1, hs 0 _ rfl, ?_⟩
          refine ho.rd s fun i p hp => ?_
          have := hs (i + 1) p (by simpa using hp)
          rwa [show start + (i + 1) = start + 1 + i by omega] at this
    · cases h

/-! ### All arguments of a call -/
def argAV (P : Program) (t : TypeId) (vs : List AV) : AV := match P.underlying t with
  | some (.struct _) => .agg vs
  | _ => vs.headD .und
def RdA (P : Program) (s : St) (d : Nat) (t : TypeId) (v : AV) : Prop := ∃ vs, RdT P s d t vs ∧ v = argAV P t vs
def RdAs (P : Program) (s : St) (d : Nat) : List TypeId → List AV → Prop
  | [], xs => xs = []
  | t :: ts, xs => ∃ v r, xs = v :: r ∧ RdA P s d t v ∧ RdAs P s d ts r
structure OpnA (W : World) (Q : St → List AV → Prop) (start : Nat) (cs : List Value) (vs : List AV) (bl : List (AB × Loc)) : Prop where
  lt : ∀ p ∈ bl, p.2.b < W.heap.size
  own : ∀ p ∈ bl, p.1.owned = false
  vr : ∀ ρ : Ren, (∀ i p, bl[i]? = some p → ρ (start + i) = some p.2) → VRs ρ vs cs ∧ ∀ p ∈ bl, BlkOk ρ p.2 W p.1
  rd : ∀ s : St, (∀ i p, bl[i]? = some p → s.get (start + i) = some p.1) → Q s vs
theorem OpnA.cons {Q1 Q2 : St → List AV → Prop} {start : Nat} {c : Value} {cs : List Value} {v : AV} {vs : List AV} {b1 b2 : List (AB × Loc)} (h : OpnA W Q1 start [c] [v] b1) (k : OpnA W Q2 (start + b1.length) cs vs b2) :
    OpnA W (fun s _ => Q1 s [v] ∧ Q2 s vs) start (c :: cs) (v :: vs) (b1 ++ b2) := by
  have e1 : ∀ {i : Nat} {p}, b1[i]? = some p → (b1 ++ b2)[i]? = some p := fun {i p} hp => by
    rw [List.getElem?_append_left (List.getElem?_eq_some_iff.1 hp).1]; exact hp
  have e2 : ∀ {i : Nat} {p}, b2[i]? = some p → (b1 ++ b2)[b1.length + i]? = some p := fun {i p} hp => by
    rw [List.getElem?_append_right (by omega), Nat.add_sub_cancel_left]; exact hp
  refine ⟨fun p hp => ?_, fun p hp => ?_, fun ρ hρ => ?_, fun s hs => ⟨h.rd s fun i p hp => hs i p (e1 hp), k.rd s fun i p hp => ?_⟩⟩
  · rcases List.mem_append.1 hp with q | q
    · exact h.lt p q
    · exact k.lt p q
  · rcases List.mem_append.1 hp with q | q
    · exact h.own p q
    · exact k.own p q
  · obtain ⟨r1, r2⟩ := h.vr ρ fun i p hp => hρ i p (e1 hp)
    obtain ⟨r3, r4⟩ := k.vr ρ fun i p hp => by have := hρ _ p (e2 hp); rwa [← Nat.add_assoc] at this
    refine ⟨r1.append r3, fun p hp => ?_⟩
    rcases List.mem_append.1 hp with q | q
    · exact r2 p q
    · exact r4 p q
  · have := hs _ p (e2 hp)
    rwa [← Nat.add_assoc] at this
theorem arg_deep (hc : HasCellsD W) {d : Nat} {t : TypeId} (hok : okT P (d + 1) t = true) {v : Value} {x : DataW H} {p : List MemPlace} (h : DataW.Trod enc P W base (fun _ => true) held t v x p) {b0 : Nat} (hval : Value.okWide P W .any b0 t v) (start : Nat) :
    ∃ a bl, OpnA W (fun s _ => RdA P s (d + 1) t a) start [v] [a] bl := by
  obtain ⟨fuel, h⟩ := h
  obtain ⟨vs, bl, ho⟩ := deep_open hc (d + 1) t hok fuel _ _ h start
  have hone : ∀ (hv : v.cells.toList = [v]) (ha : argAV P t vs = vs.headD .und), ∃ a bl, OpnA W (fun s _ => RdA P s (d + 1) t a) start [v] [a] bl := by
    intro hv ha
    have hl := ho.len
    rw [hv] at hl
    match vs, hl with
    | [a], _ =>
      refine ⟨a, bl, ho.lt, ho.own, fun ρ hρ => ?_, fun s hs => ⟨[a], ho.rd s hs, by rw [ha]; rfl⟩⟩
      have := ho.vr ρ hρ
      rw [hv] at this
      exact this
  simp only [okT] at hok
  split at hok
  · rename_i hu
    obtain ⟨b, rfl⟩ := okWide_bool hu hval
    exact hone rfl (by simp [argAV, hu])
  · rename_i k hu
    obtain ⟨b, rfl⟩ := okWide_int hu hval
    exact hone rfl (by simp [argAV, hu])
  · rename_i hu
    obtain ⟨b, rfl⟩ := okWide_string hu hval
    exact hone rfl (by simp [argAV, hu])
  · rename_i fs hu
    obtain ⟨cs, rfl, _⟩ := okWide_struct hu hval
    refine ⟨.agg vs, bl, ho.lt, ho.own, fun ρ hρ => ?_, fun s hs => ⟨vs, ho.rd s hs, by simp [argAV, hu]⟩⟩
    obtain ⟨r1, r2⟩ := ho.vr ρ hρ
    refine ⟨VRs_cons.2 ⟨?_, VRs_nil⟩, r2⟩
    simp only [VR]
    exact ⟨cs.toList, by simp, r1⟩
  · rename_i e hu
    obtain ⟨a, len, cap, rfl⟩ := okWide_slice hu hval
    exact hone rfl (by simp [argAV, hu])
  · cases hok
theorem args_deep (hc : HasCellsD W) {d : Nat} : ∀ {ts : List TypeId} {vs : List Value} {ds : List (DataW H)} {ps : List MemPlace}, (∀ t ∈ ts, okT P (d + 1) t = true) → DataW.TrodAll enc P W base (fun _ => true) held ts vs ds ps →
    (∀ (j : Nat) t v, ts[j]? = some t → vs[j]? = some v → ∃ b0, Value.okWide P W .any b0 t v) → ∀ start, ∃ xs bl, OpnA W (fun s _ => RdAs P s (d + 1) ts xs) start vs xs bl
  | [], vs, ds, ps, _, h, _, start => by
    obtain ⟨rfl, rfl, rfl⟩ := trodAll_nil h
    exact ⟨[], [], by simp, by simp, fun ρ _ => ⟨VRs_nil, by simp⟩, fun s _ => rfl⟩
  | t :: ts, vs, ds, ps, hok, h, hval, start => by
    obtain ⟨v, vs1, x, ds1, a, b, rfl, rfl, rfl, h1, h2⟩ := trodAll_cons h
    obtain ⟨b0, hv⟩ := hval 0 t v rfl rfl
    obtain ⟨av, bl1, o1⟩ := arg_deep hc (hok t (by simp)) h1 hv start
    obtain ⟨xs, bl2, o2⟩ := args_deep hc (fun t' ht => hok t' (by simp [ht])) h2 (fun j t' v' e1 e2 => hval (j + 1) t' v' (by simpa using e1) (by simpa using e2)) (start + bl1.length)
    have := o1.cons o2
    exact ⟨av :: xs, bl1 ++ bl2, this.lt, this.own, this.vr, fun s hs => ⟨av, xs, rfl, this.rd s hs⟩⟩
open Classical in
noncomputable def lawC (P : Program) (d : Nat) (ts : List TypeId) : List AV → St → Option (AV × St) := fun xs s => if RdAs P s d ts xs then some (.bool true, { heap := s.heap, next := s.next, low := min s.low s.next }) else none
theorem deep_call {d : Nat} {ts : List TypeId} {args : List Value} {xs : List AV} {bl : List (AB × Loc)} (ho : OpnA W (fun s _ => RdAs P s d ts xs) 0 args xs bl) {f : Nat} (hs : SoundAt P f (lawC P d ts)) : Calls P f args.toArray W fun e W' => e = .returned (.bool true) ∧ Clean W W' := by
  obtain ⟨s0, hs0⟩ : ∃ s0 : St, s0 = ⟨(bl.map (·.1)).reverse, bl.length, 0⟩ := ⟨_, rfl⟩
  have hnx : s0.next = bl.length := by rw [hs0]
  have hget : ∀ i, s0.get i = (bl[i]?).map (·.1) := by
    intro i
    subst hs0
    unfold St.get
    simp only
    split
    · rename_i h
      rw [List.getElem?_reverse (by simp; omega)]
      simp only [List.length_map, List.getElem?_map]
      rw [show bl.length - 1 - (bl.length - 1 - i) = i by omega]
    · rename_i h
      rw [List.getElem?_eq_none (by omega)]
      rfl
  have hown : ∀ i b, s0.get i = some b → b.owned = false := by
    intro i b h
    rw [hget] at h
    obtain ⟨p, hp, rfl⟩ := Option.map_eq_some_iff.1 h
    exact ho.own p (List.mem_of_getElem? hp)
  obtain ⟨ρ, hρ⟩ : ∃ ρ : Ren, ρ = fun i => (bl[i]?).map (·.2) := ⟨_, rfl⟩
  have hρ1 : ∀ i p, bl[i]? = some p → ρ (0 + i) = some p.2 := fun i p hp => by rw [hρ, Nat.zero_add]; simp [hp]
  obtain ⟨hv, hb⟩ := ho.vr ρ hρ1
  have hR : R s0 ρ W := by
    refine ⟨fun i L h => ?_, fun i b L h1 h2 => ?_, fun i j L M bi bj _ _ _ e3 _ e5 _ => ?_⟩
    · rw [hρ] at h
      obtain ⟨p, hp, rfl⟩ := Option.map_eq_some_iff.1 h
      exact ho.lt p (List.mem_of_getElem? hp)
    · rw [hget] at h1
      rw [hρ] at h2
      obtain ⟨p, hp, rfl⟩ := Option.map_eq_some_iff.1 h1
      simp [hp] at h2
      subst h2
      exact hb p (List.mem_of_getElem? hp)
    · rw [hown i bi e3] at e5; cases e5
  have hrd := ho.rd s0 fun i p hp => by rw [Nat.zero_add, hget, hp]; rfl
  obtain ⟨_, _, h⟩ := hs xs s0 _ _ (by unfold lawC; rw [if_pos hrd])
  have := h ρ W args (fun i hi => by rw [hρ]; simp; omega) hR hv
  refine this.mono fun e W' hp => ?_
  obtain ⟨ρ', v, rfl, hv', hst, _⟩ := hp
  simp only [VR] at hv'
  subst hv'
  exact ⟨rfl, hst.size, hst.os, hst.tape, hst.output, hst.drawn, fun b hb => hst.frame b hb fun id L blk _ _ h1 h2 => by rw [hown id blk h1] at h2; cases h2⟩
theorem trodAll_len : ∀ {ts : List TypeId} {vs : List Value} {ds : List (DataW H)} {ps : List MemPlace}, DataW.TrodAll enc P W base (fun _ => true) held ts vs ds ps → ds.length = ts.length
  | [], vs, ds, ps, h => by
    obtain ⟨rfl, rfl, rfl⟩ := trodAll_nil h
    rfl
  | t :: ts, vs, ds, ps, h => by
    obtain ⟨v, vs1, x, ds1, a, b, rfl, rfl, rfl, h1, h2⟩ := trodAll_cons h
    simp [trodAll_len h2]
end Go.AM
end
/-
  What the arguments of the statements show: numbers, nodes, states, lists of states. Own work of this project.
-/
section
set_option maxRecDepth 100000
namespace Go.AM
open Go Go.Proofs

variable {P : Program} {s : St}
theorem rd_cksF {ok : TypeId → Option (List CK)} {rd : TypeId → List AV → Prop} (IH : ∀ t ks vs, ok t = some ks → rd t vs → CKs ks vs) : ∀ (fs : List Field) (at_ sz : Nat) (ks : List CK) (vs : List AV),
    cks.cksF P ok fs at_ sz = some ks → RdF rd fs vs → CKs ks vs
  | [], at_, sz, ks, vs, h, hr => by
    simp only [cks.cksF] at h
    split at h
    · injection h with h; subst h
      exact hr
    · cases h
  | f :: r, at_, sz, ks, vs, h, hr => by
    simp only [cks.cksF] at h
    split at h
    · split at h
      · rename_i ks1 hk
        split at h
        · obtain ⟨ks2, h2, rfl⟩ := Option.map_eq_some_iff.1 h
          obtain ⟨a, b, rfl, h3, h4⟩ := hr
          exact (IH _ _ _ hk h3).append (rd_cksF IH r _ _ _ _ h2 h4)
        · cases h
      · cases h
    · cases h
theorem rd_cks : ∀ (d : Nat) (t : TypeId) (ks : List CK) (vs : List AV), cks P d t = some ks → RdT P s d t vs → CKs ks vs
  | 0, t, ks, vs, h, _ => by simp [cks] at h
  | d + 1, t, ks, vs, h, hr => by
    simp only [cks] at h
    split at h
    · rename_i hu
      injection h with h; subst h
      simp only [RdT, hu] at hr
      obtain ⟨x, rfl⟩ := hr
      exact ⟨_, _, rfl, ⟨x, rfl⟩, rfl⟩
    · rename_i k hu
      injection h with h; subst h
      simp only [RdT, hu] at hr
      obtain ⟨x, rfl, hw⟩ := hr
      exact ⟨_, _, rfl, ⟨x, rfl, hw⟩, rfl⟩
    · rename_i hu
      injection h with h; subst h
      simp only [RdT, hu] at hr
      obtain ⟨x, rfl⟩ := hr
      exact ⟨_, _, rfl, ⟨x, rfl⟩, rfl⟩
    · rename_i fs hu
      simp only [RdT, hu] at hr
      exact rd_cksF (fun t ks vs h1 h2 => rd_cks d t ks vs h1 h2) _ _ _ _ _ h hr
    · cases h
def ndKs : List CK := [.i .i64, .i .i64, .i .i64, .i .i64, .i .i64, .i .i32]
theorem nd_of_ks {r : List AV} (h : CKs ndKs r) : ∃ x : Nd, r = Nd.av x := by
  simp only [ndKs, CKs] at h
  obtain ⟨_, _, rfl, ⟨a, rfl, _⟩, _, _, rfl, ⟨b, rfl, _⟩, _, _, rfl, ⟨c, rfl, _⟩, _, _, rfl, ⟨d, rfl, _⟩, _, _, rfl, ⟨e, rfl, _⟩, _, _, rfl, ⟨x, rfl, _⟩, rfl⟩ := h
  exact ⟨⟨⟨a, b⟩, ⟨c, d⟩, e, x⟩, rfl⟩
theorem nds_of_rows : ∀ {rows : List (List AV)}, (∀ r ∈ rows, CKs ndKs r) → ∃ l : List Nd, rows.flatten = ndC.cells l ∧ l.length = rows.length
  | [], _ => ⟨[], rfl, rfl⟩
  | r :: rows, h => by
    obtain ⟨x, rfl⟩ := nd_of_ks (h r (by simp))
    obtain ⟨l, h1, h2⟩ := nds_of_rows (rows := rows) fun r' hr' => h r' (by simp [hr'])
    exact ⟨x :: l, by rw [List.flatten_cons, h1, cells_cons]; rfl, by simp [h2]⟩
theorem rd_slice {d : Nat} {t e : TypeId} {vs : List AV} (hu : P.underlying t = some (.slice e)) (h : RdT P s (d + 1) t vs) : vs = [.nils] ∨ ∃ (id n cap : Nat) (rows : List (List AV)), vs = [.sl id 0 n (some cap) (P.cellsOf e)] ∧ n ≤ cap ∧ cap ≤ maxLen ∧ rows.length = cap ∧ s.get id = some (.row rows.flatten false) ∧ ∀ r ∈ rows, RdT P s d e r ∧ r.length = P.cellsOf e := by
  simp only [RdT, hu] at h
  exact h
theorem st_under : Tryz.prog.underlying 23 = some (.slice 57) := by kernel_rfl
theorem nd_cells : Tryz.prog.cellsOf 57 = 6 := by kernel_rfl
theorem nd_cks7 : cks Tryz.prog 7 57 = some ndKs := by kernel_rfl
theorem rd_state {d : Nat} (hd : cks Tryz.prog d 57 = some ndKs) {vs : List AV} (h : RdT Tryz.prog s (d + 1) 23 vs) : ∃ v l, vs = [v] ∧ read ndC s v = some l := by
  rcases rd_slice st_under h with rfl | ⟨id, n, cap, rows, rfl, h1, _, h3, h4, h5⟩
  · exact ⟨.nils, [], rfl, rfl⟩
  · obtain ⟨l, e1, e2⟩ := nds_of_rows fun r hr => rd_cks d _ _ _ hd (h5 r hr).1
    rw [nd_cells]
    refine ⟨_, l.take n, rfl, ?_⟩
    have hall : read ndC s (.sl id 0 cap (some cap) 6) = some l := by
      refine read_of (C := ndC) (by omega) h4 ?_ ?_
      · have : (ndC.cells l).length = l.length * 6 := cells_len ndC l
        rw [e1, this]
        show 0 + cap * 6 ≤ _
        omega
      · have : (ndC.cells l).length = l.length * 6 := cells_len ndC l
        rw [e1, List.drop_zero, show cap * ndC.sz = (ndC.cells l).length by rw [this]; show cap * 6 = _; omega, List.take_length]
    exact read_take hall n h1
theorem rda_state {d : Nat} (hd : cks Tryz.prog d 57 = some ndKs) {v : AV} (h : RdA Tryz.prog s (d + 1) 23 v) : ∃ l, read ndC s v = some l := by
  obtain ⟨vs, h1, rfl⟩ := h
  obtain ⟨v, l, rfl, hr⟩ := rd_state hd h1
  exact ⟨l, by simp [argAV, st_under, hr]⟩
theorem lawC_some {d : Nat} {ts : List TypeId} {xs : List AV} {r : AV} {s' : St} (h : lawC P d ts xs s = some (r, s')) : RdAs P s d ts xs ∧ r = .bool true ∧ s' = s.lowed := by
  unfold lawC at h
  split at h
  · rename_i hr
    injection h with h
    obtain ⟨rfl, rfl⟩ := Prod.mk.inj h
    exact ⟨hr, rfl, rfl⟩
  · cases h
theorem rdas_1 {d : Nat} {t : TypeId} {xs : List AV} (h : RdAs P s d [t] xs) : ∃ v, xs = [v] ∧ RdA P s d t v := by
  obtain ⟨v, r, rfl, h1, h2⟩ := h
  simp only [RdAs] at h2
  subst h2
  exact ⟨v, rfl, h1⟩
theorem rdas_2 {d : Nat} {t1 t2 : TypeId} {xs : List AV} (h : RdAs P s d [t1, t2] xs) : ∃ v w, xs = [v, w] ∧ RdA P s d t1 v ∧ RdA P s d t2 w := by
  obtain ⟨v, r, rfl, h1, h2⟩ := h
  obtain ⟨w, rfl, h3⟩ := rdas_1 h2
  exact ⟨v, w, rfl, h1, h3⟩
end Go.AM
end
/-
  Arguments that are structs, field by field. Own work of this project.
-/
section
namespace Go.AM
open Go

variable {s t u : St}
section
variable {P : Program}
end
end Go.AM
end
/-
  What arguments show: dots, lists of dots, contexts. Own work of this project.
-/
section
set_option maxRecDepth 100000
namespace Go.AM
open Go Go.Proofs

variable {P : Program} {s : St}
end Go.AM
end
/-
  What arguments show: nodes and lists of nodes, with what their runes can be. Own work of this project.
-/
section
set_option maxRecDepth 100000
namespace Go.AM
open Go Go.Proofs

variable {P : Program} {s : St}
end Go.AM
end
/-
  What the statements of layer 10 call; StoreValid, StorePuts, StoreKills. Own work of this project; in part printed by a program of it.
-/
section
set_option maxRecDepth 100000
set_option maxHeartbeats 8000000
namespace Go.AM
open Go Go.Proofs

variable {s t u : St}

theorem bin_eqE (k : IntKind) (a b : Int) : binOp .eql .no (.int k a) (.int k b) = some (.bool (decide (a = b))) := bin_eql .no k a b
end Go.AM
end
/-
  StorePuts. Own work of this project; in part printed by a program of it.
-/
section
set_option maxRecDepth 100000
set_option maxHeartbeats 8000000
namespace Go.AM
open Go Go.Proofs

variable {s t u : St}

end Go.AM
end
/-
  StoreKills, StoreValid. Own work of this project; in part printed by a program of it.
-/
section
set_option maxRecDepth 100000
set_option maxHeartbeats 8000000
namespace Go.AM
open Go Go.Proofs

variable {s t u : St}

end Go.AM
end
/-
  StoreValid. Own work of this project; in part printed by a program of it.
-/
section
set_option maxRecDepth 100000
set_option maxHeartbeats 8000000
namespace Go.AM
open Go Go.Proofs

variable {s t u : St}
end Go.AM
end
/-
  What StoreLooks asks: contexts, times, the parents that are lacking. Own work of this project; in part printed by a program of it.
-/
section
set_option maxRecDepth 100000
set_option maxHeartbeats 8000000
namespace Go.AM
open Go Go.Proofs

variable {s t u : St}

def deadL (l : List Nd) : List Nd := l.filter fun n => decide (n.x = 0)
def dotsR (l : List Nd) (b : Bool) : List Dot := (l.filter fun n => !b || decide (n.x = 0)).map Nd.d
theorem dotsR_f (l : List Nd) : dotsR l false = l.map Nd.d := by
  have h : (l.filter fun n => !false || decide (n.x = 0)) = l := List.filter_eq_self.2 fun x _ => rfl
  unfold dotsR
  rw [h]
theorem dotsR_t (l : List Nd) : dotsR l true = (deadL l).map Nd.d := by simp [dotsR, deadL]
theorem dotsR_snoc {l : List Nd} {b : Bool} {i : Nat} {x : Nd} (hx : l[i]? = some x) : dotsR (l.take (i + 1)) b = dotsR (l.take i) b ++ (if (!b || decide (x.x = 0)) = true then [x.d] else []) := by
  rw [take_snoc hx]
  unfold dotsR
  rw [List.filter_append, List.map_append]
  congr 1
  by_cases h : (!b || decide (x.x = 0)) = true
  · rw [if_pos h]; simp [h]
  · rw [if_neg h]; simp [h]
theorem dotsR_len (l : List Nd) (b : Bool) : (dotsR l b).length ≤ l.length := by
  unfold dotsR
  rw [List.length_map]
  exact List.length_filter_le _ _
end Go.AM
end
/-
  Plain laws of contexts as the references of layers 14 and 16 make them. Own work of this project.
-/
section
namespace Go.AM
open Go Go.Proofs

/-- A dot is there, whether it is valid or not. -/
def jhas (x : DCx) (d : Dot) : Bool := decide (d.c ≤ vget x.v d.r) || decide (d ∈ x.c)
theorem jhas_chas {x : DCx} {d : Dot} (h : d.valid = true) : jhas x d = chas x d := by
  unfold jhas chas
  rw [h, Bool.true_and]
/-- The reference's way to say that one compact context is within another one. -/
def jwithin (a b : DCx) : Bool := (a.v.all fun d => decide (d.c ≤ vget b.v d.r)) && a.c.all (jhas b)
theorem jwithin_iff {a b : DCx} (ha : isC a = true) (hb : isC b = true) : jwithin a b = true ↔ subC a b := by
  have ca := ((isC_iff a).1 ha).1
  obtain ⟨va, _, wa⟩ := (cvalid_iff a).1 ca
  rw [← rwithin_iff ca ((isC_iff b).1 hb).1]
  unfold jwithin rwithin
  rw [comp_id hb, Bool.and_eq_true, Bool.and_eq_true, List.all_eq_true, List.all_eq_true, List.all_eq_true, List.all_eq_true]
  have hv := ((vvalid_iff a.v).1 va).2
  constructor
  · rintro ⟨q1, q2⟩
    refine ⟨fun d hd => by rw [← jhas_chas (wa d hd)]; exact q2 d hd, fun d hd => ?_⟩
    unfold vhas
    rw [hv d hd, Bool.true_and]
    exact q1 d hd
  · rintro ⟨q1, q2⟩
    refine ⟨fun d hd => ?_, fun d hd => by rw [jhas_chas (wa d hd)]; exact q1 d hd⟩
    have := q2 d hd
    unfold vhas at this
    rw [hv d hd, Bool.true_and] at this
    exact this
/-- A compact context lacks the dot behind its beginning. -/
theorem jhas_next {b : DCx} (hb : isC b = true) (r : Int) : jhas b ⟨r, vget b.v r + 1⟩ = false := by
  obtain ⟨_, h2⟩ := (isC_iff b).1 hb
  unfold jhas
  rw [Bool.or_eq_false_iff]
  refine ⟨decide_eq_false (show ¬ (vget b.v r + 1 ≤ vget b.v r) by omega), decide_eq_false fun hm => ?_⟩
  have := h2 _ hm
  simp only at this
  omega

/-! ### Vectors by replica -/
def vecL (f : Nat → Nat) (n : Nat) : List Dot := (List.range n).filterMap fun k => if 0 < f (k + 1) then some ⟨((k + 1 : Nat) : Int), (f (k + 1) : Int)⟩ else none
theorem vecL_succ (f : Nat → Nat) (n : Nat) : vecL f (n + 1) = vecL f n ++ (if 0 < f (n + 1) then [⟨((n + 1 : Nat) : Int), (f (n + 1) : Int)⟩] else []) := by
  unfold vecL
  rw [List.range_succ, List.filterMap_append]
  congr 1
  by_cases h : 0 < f (n + 1)
  · rw [if_pos h]; simp [h]
  · rw [if_neg h]; simp [h]
theorem vecL_len (f : Nat → Nat) : ∀ n, (vecL f n).length ≤ n
  | 0 => Nat.le_refl _
  | n + 1 => by
    rw [vecL_succ, List.length_append]
    have := vecL_len f n
    split <;> simp <;> omega
theorem vecL_mem {f : Nat → Nat} {n : Nat} {d : Dot} (h : d ∈ vecL f n) : ∃ k, k < n ∧ 0 < f (k + 1) ∧ d = ⟨((k + 1 : Nat) : Int), (f (k + 1) : Int)⟩ := by
  unfold vecL at h
  obtain ⟨k, hk, he⟩ := List.mem_filterMap.1 h
  split at he
  · rename_i h0
    injection he with he
    exact ⟨k, List.mem_range.1 hk, h0, he.symm⟩
  · cases he
theorem vecL_srt (f : Nat → Nat) : ∀ n, VSrt (vecL f n)
  | 0 => .nil
  | n + 1 => by
    rw [vecL_succ]
    refine List.pairwise_append.2 ⟨vecL_srt f n, ?_, fun a ha b hb => ?_⟩
    · split
      · exact List.pairwise_singleton _ _
      · exact .nil
    · obtain ⟨k, hk, _, rfl⟩ := vecL_mem ha
      split at hb
      · rw [List.mem_singleton.1 hb]
        simp only [vlt, decide_eq_true_eq]
        omega
      · cases hb
theorem vecL_get (f : Nat → Nat) (n k : Nat) : vget (vecL f n) ((k + 1 : Nat) : Int) = if k < n then (f (k + 1) : Int) else 0 := by
  by_cases hk : k < n
  · rw [if_pos hk]
    by_cases h0 : 0 < f (k + 1)
    · have hm : (⟨((k + 1 : Nat) : Int), (f (k + 1) : Int)⟩ : Dot) ∈ vecL f n := by
        unfold vecL
        exact List.mem_filterMap.2 ⟨k, List.mem_range.2 hk, by rw [if_pos h0]⟩
      exact vget_mem (vecL_srt f n) hm
    · rw [vget_none fun x hx e => ?_]
      · omega
      · obtain ⟨j, _, h1, rfl⟩ := vecL_mem hx
        simp only at e
        have : j = k := by omega
        subst this
        exact h0 h1
  · rw [if_neg hk]
    refine vget_none fun x hx e => ?_
    obtain ⟨j, h1, _, rfl⟩ := vecL_mem hx
    simp only at e
    omega
theorem vecL_valid {f : Nat → Nat} (h : ∀ k, f k ≤ 4294967295) : vvalid (vecL f 64) = true := by
  refine (vvalid_iff _).2 ⟨vecL_srt f 64, fun x hx => ?_⟩
  obtain ⟨k, h1, h2, rfl⟩ := vecL_mem hx
  have := h (k + 1)
  exact (valid_iff _).2 ⟨by simp only; omega, by simp only; omega, by simp only; omega, by simp only; omega⟩

/-! ### The context of dots in order -/
/-- How far a replica's dots go without a gap, the list gone through once. -/
def runL (r : Int) (n : Nat) (l : List Dot) : Nat := l.foldl (fun n d => if d.r = r ∧ d.c = ((n + 1 : Nat) : Int) then n + 1 else n) n
theorem runL_cons (r : Int) (n : Nat) (d : Dot) (l : List Dot) : runL r n (d :: l) = runL r (if d.r = r ∧ d.c = ((n + 1 : Nat) : Int) then n + 1 else n) l := rfl
theorem runL_snoc {r : Int} {l : List Dot} {i : Nat} {d : Dot} (hx : l[i]? = some d) : runL r 0 (l.take (i + 1)) = if d.r = r ∧ d.c = ((runL r 0 (l.take i) + 1 : Nat) : Int) then runL r 0 (l.take i) + 1 else runL r 0 (l.take i) := by
  have : l.take (i + 1) = l.take i ++ [d] := by rw [List.take_add_one, hx]; rfl
  rw [this]
  unfold runL
  rw [List.foldl_append]
  rfl
theorem runL_up (r : Int) : ∀ (l : List Dot) (n : Nat), n ≤ runL r n l ∧ ∀ k : Nat, n < k → k ≤ runL r n l → (⟨r, (k : Int)⟩ : Dot) ∈ l
  | [], n => ⟨Nat.le_refl _, fun k h1 h2 => by simp only [runL, List.foldl_nil] at h2; omega⟩
  | d :: l, n => by
    rw [runL_cons]
    by_cases hd : d.r = r ∧ d.c = ((n + 1 : Nat) : Int)
    · rw [if_pos hd]
      obtain ⟨h1, h2⟩ := runL_up r l (n + 1)
      refine ⟨by omega, fun k h3 h4 => ?_⟩
      by_cases hk : k = n + 1
      · subst hk
        have : d = ⟨r, ((n + 1 : Nat) : Int)⟩ := by
          obtain ⟨dr, dc⟩ := d
          simp only at hd
          rw [hd.1, hd.2]
        rw [← this]
        exact List.mem_cons_self
      · exact List.mem_cons_of_mem _ (h2 k (by omega) h4)
    · rw [if_neg hd]
      obtain ⟨h1, h2⟩ := runL_up r l n
      exact ⟨h1, fun k h3 h4 => List.mem_cons_of_mem _ (h2 k h3 h4)⟩
theorem before_same {a b : Dot} (h : a.before b = true) (e : a.r = b.r) : a.c < b.c := by
  simp only [Dot.before, Bool.or_eq_true, Bool.and_eq_true, decide_eq_true_eq] at h
  omega
theorem runL_stop (r : Int) : ∀ (l : List Dot) (n : Nat), Srt l → (∀ d ∈ l, d.r = r → (n : Int) < d.c) → (⟨r, ((runL r n l + 1 : Nat) : Int)⟩ : Dot) ∉ l
  | [], n, _, _ => by simp
  | d :: l, n, hs, hn => by
    obtain ⟨h1, h2⟩ := srt_cons.1 hs
    rw [runL_cons]
    by_cases hd : d.r = r ∧ d.c = ((n + 1 : Nat) : Int)
    · rw [if_pos hd]
      have hn' : ∀ x ∈ l, x.r = r → ((n + 1 : Nat) : Int) < x.c := fun x hx e => by
        have := before_same (h1 x hx) (by rw [hd.1, e])
        omega
      have ih := runL_stop r l (n + 1) h2 hn'
      intro hm
      rcases List.mem_cons.1 hm with hm | hm
      · have h3 := (runL_up r l (n + 1)).1
        rw [← hm] at hd
        simp only at hd
        omega
      · exact ih hm
    · rw [if_neg hd]
      have ih := runL_stop r l n h2 fun x hx e => hn x (List.mem_cons_of_mem _ hx) e
      intro hm
      rcases List.mem_cons.1 hm with hm | hm
      · have hdr : d.r = r := by rw [← hm]
        have hgt := hn d List.mem_cons_self hdr
        obtain ⟨h3, h4⟩ := runL_up r l n
        by_cases hrun : runL r n l = n
        · rw [hrun] at hm
          exact hd ⟨hdr, by rw [← hm]⟩
        · have := h4 (n + 1) (by omega) (by omega)
          have h5 := before_same (h1 _ this) (by rw [hdr])
          have hdc : d.c = ((runL r n l + 1 : Nat) : Int) := by rw [← hm]
          simp only at h5
          omega
      · exact ih hm
/-- The reference's context. -/
def ctxV (l : List Dot) : List Dot := vecL (fun r => runL (r : Int) 0 l) 64
def ctxL (l : List Dot) : DCx := ⟨ctxV l, l.filter fun d => decide (vget (ctxV l) d.r < d.c)⟩
theorem ctxV_get (l : List Dot) {r : Int} (h : 1 ≤ r ∧ r ≤ 64) : vget (ctxV l) r = (runL r 0 l : Int) := by
  have e : r = ((r.toNat - 1 + 1 : Nat) : Int) := by omega
  rw [e]
  unfold ctxV
  rw [vecL_get, if_pos (by omega)]
theorem runL_le {l : List Dot} (hv : l.all Dot.valid = true) (r : Int) : runL r 0 l ≤ 4294967295 := by
  by_cases h0 : runL r 0 l = 0
  · omega
  · have := (runL_up r l 0).2 (runL r 0 l) (by omega) (Nat.le_refl _)
    have := (valid_iff _).1 (chas_all hv _ this)
    simp only at this
    omega
theorem ctxL_eq {l : List Dot} (hs : Srt l) (hv : l.all Dot.valid = true) : ctxL l = addC ⟨[], []⟩ l := by
  have h0 : cvalid ⟨[], []⟩ = true := rfl
  have hval := chas_all hv
  have hvv : vvalid (ctxV l) = true := vecL_valid fun k => runL_le hv _
  have hisC : isC (ctxL l) = true := by
    refine (isC_iff _).2 ⟨(cvalid_iff _).2 ⟨hvv, hs.filter _, fun d hd => hval d (List.mem_filter.1 hd).1⟩, fun d hd => ?_⟩
    obtain ⟨hd1, hd2⟩ := List.mem_filter.1 hd
    simp only [decide_eq_true_eq] at hd2
    have hb := (valid_iff d).1 (hval d hd1)
    show vget (ctxV l) d.r + 1 < d.c
    rw [ctxV_get l ⟨hb.1, hb.2.1⟩] at hd2 ⊢
    have hst := runL_stop d.r l 0 hs fun x hx _ => by have := (valid_iff x).1 (hval x hx); omega
    rcases Int.lt_or_eq_of_le (show (runL d.r 0 l : Int) + 1 ≤ d.c by omega) with h | h
    · exact h
    · exfalso
      refine hst ?_
      have : (⟨d.r, ((runL d.r 0 l + 1 : Nat) : Int)⟩ : Dot) = d := by
        obtain ⟨dr, dc⟩ := d
        simp only at h ⊢
        rw [← h]
        simp
      rw [this]
      exact hd1
  refine isC_ext hisC (add_isC h0 hv) fun d => ?_
  rw [add_has h0 hv]
  have he : chas ⟨[], []⟩ d = false := by
    unfold chas
    cases hd : d.valid
    · rfl
    · have := (valid_iff d).1 hd
      have h1 : ¬ d.c ≤ vget (⟨[], []⟩ : DCx).v d.r := by show ¬ d.c ≤ 0; omega
      rw [decide_eq_false h1]
      simp
  rw [he, Bool.false_or]
  unfold chas
  cases hd : d.valid
  · rfl
  · have hb := (valid_iff d).1 hd
    rw [Bool.true_and, Bool.true_and, Bool.eq_iff_iff]
    simp only [Bool.or_eq_true, decide_eq_true_eq]
    show d.c ≤ vget (ctxV l) d.r ∨ d ∈ l.filter _ ↔ d ∈ l
    rw [List.mem_filter, decide_eq_true_eq]
    constructor
    · rintro (h | h)
      · rw [ctxV_get l ⟨hb.1, hb.2.1⟩] at h
        have := (runL_up d.r l 0).2 d.c.toNat (by omega) (by omega)
        have e : (⟨d.r, (d.c.toNat : Int)⟩ : Dot) = d := by
          obtain ⟨dr, dc⟩ := d
          simp only at hb ⊢
          congr 1
          omega
        rwa [e] at this
      · exact h.1
    · intro h
      by_cases hc : d.c ≤ vget (ctxV l) d.r
      · exact .inl hc
      · exact .inr ⟨h, by omega⟩

/-! ### Two contexts together -/
/-- What a union's vector says. -/
structure UniV (a b : DCx) (f : Nat → Nat) : Prop where
  low : ∀ k : Nat, 1 ≤ k → k ≤ 64 → vget a.v (k : Int) ≤ (f k : Int) ∧ vget b.v (k : Int) ≤ (f k : Int)
  fill : ∀ k j : Nat, 1 ≤ k → k ≤ 64 → 1 ≤ j → j ≤ f k → jhas a ⟨(k : Int), (j : Int)⟩ = true ∨ jhas b ⟨(k : Int), (j : Int)⟩ = true
  stop : ∀ k : Nat, 1 ≤ k → k ≤ 64 → jhas a ⟨(k : Int), ((f k + 1 : Nat) : Int)⟩ = false ∧ jhas b ⟨(k : Int), ((f k + 1 : Nat) : Int)⟩ = false
  high : ∀ k, f k ≤ 4294967295
def uniP (f : Nat → Nat) (a b : DCx) : DCx := ⟨vecL f 64, setL ((a.c ++ b.c).filter fun d => decide (vget (vecL f 64) d.r < d.c))⟩
theorem uniP_eq {a b : DCx} {f : Nat → Nat} (ha : isC a = true) (hb : isC b = true) (h : UniV a b f) : uniP f a b = uniC a b := by
  have ca := ((isC_iff a).1 ha).1
  have cb := ((isC_iff b).1 hb).1
  obtain ⟨va, sa, wa⟩ := (cvalid_iff a).1 ca
  obtain ⟨vb, sb, wb⟩ := (cvalid_iff b).1 cb
  have hget : ∀ r : Int, 1 ≤ r ∧ r ≤ 64 → vget (vecL f 64) r = (f r.toNat : Int) := fun r hr => by
    have e : r = ((r.toNat - 1 + 1 : Nat) : Int) := by omega
    rw [e, vecL_get, if_pos (by omega)]
    congr 2
  have hmem : ∀ d, d ∈ (uniP f a b).c ↔ (d ∈ a.c ∨ d ∈ b.c) ∧ vget (vecL f 64) d.r < d.c := fun d => by
    unfold uniP
    simp only [setL_mem, List.mem_filter, List.mem_append, decide_eq_true_eq]
  have hval : ∀ d, d ∈ a.c ∨ d ∈ b.c → d.valid = true := fun d hd => hd.elim (wa d) (wb d)
  have hjc : ∀ d : Dot, d ∈ a.c ∨ d ∈ b.c → jhas a d = true ∨ jhas b d = true := fun d hd => by
    unfold jhas
    rcases hd with hd | hd
    · left; rw [decide_eq_true hd, Bool.or_true]
    · right; rw [decide_eq_true hd, Bool.or_true]
  have hisC : isC (uniP f a b) = true := by
    refine (isC_iff _).2 ⟨(cvalid_iff _).2 ⟨vecL_valid h.high, setL_srt _, fun d hd => hval d ((hmem d).1 hd).1⟩, fun d hd => ?_⟩
    obtain ⟨hd1, hd2⟩ := (hmem d).1 hd
    have hb' := (valid_iff d).1 (hval d hd1)
    show vget (vecL f 64) d.r + 1 < d.c
    rw [hget d.r ⟨hb'.1, hb'.2.1⟩] at hd2 ⊢
    rcases Int.lt_or_eq_of_le (show (f d.r.toNat : Int) + 1 ≤ d.c by omega) with q | q
    · exact q
    · exfalso
      obtain ⟨s1, s2⟩ := h.stop d.r.toNat (by omega) (by omega)
      have e : (⟨((d.r.toNat : Nat) : Int), ((f d.r.toNat + 1 : Nat) : Int)⟩ : Dot) = d := by
        obtain ⟨dr, dc⟩ := d
        simp only at hb' q ⊢
        congr 1 <;> omega
      rw [e] at s1 s2
      rcases hjc d hd1 with t | t
      · rw [s1] at t; cases t
      · rw [s2] at t; cases t
  refine isC_ext hisC (uni_isC ca cb) fun d => ?_
  rw [uni_has ca cb]
  unfold chas
  cases hd : d.valid
  · rfl
  · have hb' := (valid_iff d).1 hd
    rw [Bool.true_and, Bool.true_and, Bool.true_and, Bool.eq_iff_iff]
    simp only [Bool.or_eq_true, decide_eq_true_eq]
    rw [hmem]
    show d.c ≤ vget (vecL f 64) d.r ∨ _ ↔ _
    rw [hget d.r ⟨hb'.1, hb'.2.1⟩]
    obtain ⟨l1, l2⟩ := h.low d.r.toNat (by omega) (by omega)
    have er : ((d.r.toNat : Nat) : Int) = d.r := by omega
    rw [er] at l1 l2
    constructor
    · rintro (q | ⟨q, _⟩)
      · have := h.fill d.r.toNat d.c.toNat (by omega) (by omega) (by omega) (by omega)
        have e : (⟨((d.r.toNat : Nat) : Int), ((d.c.toNat : Nat) : Int)⟩ : Dot) = d := by
          obtain ⟨dr, dc⟩ := d
          simp only at hb' ⊢
          congr 1 <;> omega
        rw [e] at this
        unfold jhas at this
        simpa only [Bool.or_eq_true, decide_eq_true_eq] using this
      · rcases q with q | q
        · exact .inl (.inr q)
        · exact .inr (.inr q)
    · have key : ∀ q : d ∈ a.c ∨ d ∈ b.c, d.c ≤ (f d.r.toNat : Int) ∨ (d ∈ a.c ∨ d ∈ b.c) ∧ (f d.r.toNat : Int) < d.c := fun q => by
        by_cases hc : d.c ≤ (f d.r.toNat : Int)
        · exact .inl hc
        · exact .inr ⟨q, by omega⟩
      rintro ((q | q) | (q | q))
      · exact .inl (by omega)
      · exact key (.inl q)
      · exact .inl (by omega)
      · exact key (.inr q)
/-- The cloud, dot by dot. -/
def cloudS (v : List Dot) (cl : List Dot) (d : Dot) : List Dot := if jhas ⟨v, cl⟩ d = true then cl else insD d cl
theorem cloudS_eq (v cl : List Dot) (d : Dot) : cloudS v cl d = if vget v d.r < d.c then withL cl d else cl := by
  unfold cloudS jhas withL
  by_cases h : d.c ≤ vget v d.r
  · rw [decide_eq_true h, Bool.true_or, if_pos rfl, if_neg (by omega)]
  · rw [decide_eq_false h, Bool.false_or, if_pos (show vget v d.r < d.c by omega)]
    simp only [decide_eq_true_eq]
theorem cloud_fold (v : List Dot) : ∀ (l cl : List Dot), l.foldl (cloudS v) cl = (l.filter fun d => decide (vget v d.r < d.c)).foldl withL cl
  | [], cl => rfl
  | d :: l, cl => by
    rw [List.foldl_cons, cloud_fold v l, cloudS_eq, List.filter_cons]
    by_cases h : vget v d.r < d.c
    · rw [if_pos h, if_pos (decide_eq_true h), List.foldl_cons]
    · rw [if_neg h, if_neg (by simpa using h)]

/-! ### Digests -/
structure DDg where
  all : DCx
  gone : DCx
  deriving DecidableEq
def dgV (d : DDg) : Bool := isC d.all && (isC d.gone && jwithin d.gone d.all)
def lackD (d : DDg) (n : Nd) : Bool := !jhas d.all n.d || (decide (n.x = 0) && !jhas d.gone n.d)
def diffD (s : List Nd) (d : DDg) : List Nd := s.filter (lackD d)
end Go.AM
end
/-
  Contexts as the reference of layer 14 looks at them. Own work of this project; in part printed by a program of it.
-/
section
set_option maxRecDepth 100000
set_option maxHeartbeats 8000000
namespace Go.AM
open Go Go.Proofs

variable {s t u : St}
noncomputable def R_JLast : Con := runFn (tb []) a55
theorem s_JLast : SoundAt Tryz.prog 55 R_JLast := run_sound (tb_sound (l := []) (by simp)) mixed Tryz.func55 k55 c55
theorem n_JLast : noNxtC a55.body = true := by kernel_rfl
theorem w_JLast {s : St} {v : AV} {l : List Dot} (hr : read dotC s v = some l) (hl : l.length ≤ lim) (q : Int) : ∀ env : Env, elen env = a55.ntmps → (∀ i x_, [v, .int .i64 q][i]? = some x_ → E env i = x_) → awp (tb []) a55.body (fun x e t => (∀ i, x ≠ .exit i) ∧ aresults e t a55.results = some (.int .i64 (vget l q)) ∧ Keep s t) env s := by
  intro env hlen ha
  have h0 : E env 0 = _ := ha 0 _ rfl
  have h1 : E env 1 = _ := ha 1 _ rfl
  have hlen : elen env = _ := hlen
  simp only [a55] at hlen
  unfold a55
  try dsimp only [oO, oG]
  have hL := lenV_read hr
  simp (config := {contextual := true, maxDischargeDepth := 12}) only [tb_at, h0, h1, hlen, hL, ↓bD, bU, forall_const, bS, implies_true, isNx, eq_self, ↓wp_cond, ↓wp_loop, ↓reduceIte, reduceCtorEq, Nat.reduceEqDiff, Nat.reduceLT, Nat.reduceAdd, Nat.reduceMul, bT, ↓sg_bsl, ↓st_callf, bX, ap_mkfn, ae_callvV, callvV_fn, List.cons_append, List.nil_append, boxV_i]
  obtain ⟨I, hI⟩ : ∃ I : Nat → Env → St → Prop, ∀ n e t, I n e t = (t = s ∧ ∃ i : Nat, n + i = l.length ∧ elen e = 24 ∧ E e 0 = v ∧ E e 1 = .int .i64 q ∧ E e 5 = .int .i64 (i : Int) ∧ ∀ k y, k < i → l[k]? = some y → y.r ≠ q) := ⟨fun n e t => (t = s ∧ ∃ i : Nat, n + i = l.length ∧ elen e = 24 ∧ E e 0 = v ∧ E e 1 = .int .i64 q ∧ E e 5 = .int .i64 (i : Int) ∧ ∀ k y, k < i → l[k]? = some y → y.r ≠ q), fun _ _ _ => rfl⟩
  refine lwp_inv I (n := l.length) ?_ ?_
  · rw [hI]
    exact ⟨rfl, 0, by omega, (by simp only [bE, Nat.reduceEqDiff, bN, Nat.reduceLT, hlen]; try rfl), (by simp only [bE, Nat.reduceEqDiff, bN, Nat.reduceLT, hlen, h0]; try rfl), (by simp only [bE, Nat.reduceEqDiff, bN, Nat.reduceLT, hlen, h1]; try rfl), (by simp only [bE, Nat.reduceEqDiff, bN, Nat.reduceLT, hlen]; try rfl), fun k y hk => by omega⟩
  intro n e t hi
  rw [hI] at hi
  obtain ⟨hK, i, hni, he, e0, e1, e5, hpre⟩ := hi
  subst hK
  by_cases hlt : i < l.length
  · obtain ⟨x, hx⟩ := getsome hlt
    have hw2 := wrap_add1 (n := i) (by unfold lim at hl; omega)
    obtain ⟨a1, a2, a3, a4⟩ := dot_lods hr (.refl _) hx
    have i1 := dot_idx hr hx .i64
    by_cases hp : x.r = q
    · have hz := eq_true hp
      have hS := vget_hit hx hp hpre
      simp (config := {contextual := true, maxDischargeDepth := 12}) only [tb_at, he, e0, e1, e5, hL, hlt, hw2, a1, a2, a3, i1, hz, hS, ↓bD, bU, forall_const, bS, implies_true, isNx, eq_self, ↓wp_cond, ↓wp_loop, ↓reduceIte, reduceCtorEq, Nat.reduceEqDiff, Nat.reduceLT, Nat.reduceAdd, Nat.reduceMul, bT, ↓sg_bsl, ↓st_callf, bX, ap_mkfn, ae_callvV, callvV_fn, List.cons_append, List.nil_append, boxV_i]
      all_goals first | exact .refl _ | skip
    · have hz := eq_false hp
      simp (config := {contextual := true, maxDischargeDepth := 12}) only [tb_at, he, e0, e1, e5, hL, hlt, hw2, a1, a2, a3, i1, hz, ↓bD, bU, forall_const, bS, implies_true, isNx, eq_self, ↓wp_cond, ↓wp_loop, ↓reduceIte, reduceCtorEq, Nat.reduceEqDiff, Nat.reduceLT, Nat.reduceAdd, Nat.reduceMul, bT, ↓sg_bsl, ↓st_callf, bX, ap_mkfn, ae_callvV, callvV_fn, List.cons_append, List.nil_append, boxV_i]
      refine ⟨n - 1, by omega, ?_⟩
      rw [hI]
      exact ⟨rfl, i + 1, by omega, (by simp only [bE, Nat.reduceEqDiff, bN, Nat.reduceLT, he, e0, e1, e5]; try rfl), (by simp only [bE, Nat.reduceEqDiff, bN, Nat.reduceLT, he, e0, e1, e5]; try rfl), (by simp only [bE, Nat.reduceEqDiff, bN, Nat.reduceLT, he, e0, e1, e5]; try rfl), (by simp only [bE, Nat.reduceEqDiff, bN, Nat.reduceLT, he, e0, e1, e5]; try rfl), pre_next (P := fun k y => y.r ≠ q) hx hpre hp⟩
  · obtain rfl : i = l.length := by omega
    have hS : vget l q = 0 := vget_none fun x hx => by
      obtain ⟨k, hk⟩ := List.getElem?_of_mem hx
      exact hpre k x (getlt hk) hk
    simp (config := {contextual := true, maxDischargeDepth := 12}) only [tb_at, he, e0, e1, e5, hL, hlt, hS, ↓bD, bU, forall_const, bS, implies_true, isNx, eq_self, ↓wp_cond, ↓wp_loop, ↓reduceIte, reduceCtorEq, Nat.reduceEqDiff, Nat.reduceLT, Nat.reduceAdd, Nat.reduceMul, bT, ↓sg_bsl, ↓st_callf, bX, ap_mkfn, ae_callvV, callvV_fn, List.cons_append, List.nil_append, boxV_i]
    all_goals first | exact .refl _ | skip
theorem q_JLast (cl : Bool) {s : St} {v : AV} {l : List Dot} (hr : read dotC s v = some l) (hl : l.length ≤ lim) (q : Int) : acall R_JLast cl [v, .int .i64 q] s = some (.int .i64 (vget l q), s) := run_same n_JLast (by simp [a55]) rfl (w_JLast (s := lowd s) (read_low' hr) hl q)
noncomputable def R_JSameD : Con := runFn (tb []) a67
theorem s_JSameD : SoundAt Tryz.prog 67 R_JSameD := run_sound (tb_sound (l := []) (by simp)) mixed Tryz.func67 k67 c67
theorem n_JSameD : noNxtC a67.body = true := by kernel_rfl
theorem w_JSameD {s : St} {v : AV} {l : List Dot} (hr : read dotC s v = some l) (hl : l.length ≤ lim) {w : AV} {m : List Dot} (hrw : read dotC s w = some m) (hm : m.length ≤ lim) : ∀ env : Env, elen env = a67.ntmps → (∀ i x_, [v, w][i]? = some x_ → E env i = x_) → awp (tb []) a67.body (fun x e t => (∀ i, x ≠ .exit i) ∧ aresults e t a67.results = some (.bool (decide (l = m))) ∧ Keep s t) env s := by
  intro env hlen ha
  have h0 : E env 0 = _ := ha 0 _ rfl
  have h1 : E env 1 = _ := ha 1 _ rfl
  have hlen : elen env = _ := hlen
  simp only [a67] at hlen
  unfold a67
  try dsimp only [oO, oG]
  have hL := lenV_read hr
  have hM := lenV_read hrw
  by_cases hlm : l.length = m.length
  · have hz : ((l.length : Int) = (m.length : Int)) = True := eq_true (by omega)
    simp (config := {contextual := true, maxDischargeDepth := 12}) only [tb_at, h0, h1, hlen, hL, hM, hz, ↓bD, bU, forall_const, bS, implies_true, isNx, eq_self, ↓wp_cond, ↓wp_loop, ↓reduceIte, reduceCtorEq, Nat.reduceEqDiff, Nat.reduceLT, Nat.reduceAdd, Nat.reduceMul, bT, ↓sg_bsl, ↓st_callf, bX, ap_mkfn, ae_callvV, callvV_fn, List.cons_append, List.nil_append, boxV_i]
    obtain ⟨I, hI⟩ : ∃ I : Nat → Env → St → Prop, ∀ n e t, I n e t = (t = s ∧ ∃ i : Nat, n + i = l.length ∧ elen e = 26 ∧ E e 0 = v ∧ E e 1 = w ∧ E e 5 = .int .i64 (i : Int) ∧ ∀ k y, k < i → l[k]? = some y → m[k]? = some y) := ⟨fun n e t => (t = s ∧ ∃ i : Nat, n + i = l.length ∧ elen e = 26 ∧ E e 0 = v ∧ E e 1 = w ∧ E e 5 = .int .i64 (i : Int) ∧ ∀ k y, k < i → l[k]? = some y → m[k]? = some y), fun _ _ _ => rfl⟩
    refine lwp_inv I (n := l.length) ?_ ?_
    · rw [hI]
      exact ⟨rfl, 0, by omega, (by simp only [bE, Nat.reduceEqDiff, bN, Nat.reduceLT, hlen]; try rfl), (by simp only [bE, Nat.reduceEqDiff, bN, Nat.reduceLT, hlen, h0]; try rfl), (by simp only [bE, Nat.reduceEqDiff, bN, Nat.reduceLT, hlen, h1]; try rfl), (by simp only [bE, Nat.reduceEqDiff, bN, Nat.reduceLT, hlen]; try rfl), fun k y hk => by omega⟩
    intro n e t hi
    rw [hI] at hi
    obtain ⟨hK, i, hni, he, e0, e1, e5, hpre⟩ := hi
    subst hK
    by_cases hlt : i < l.length
    · obtain ⟨x, hx⟩ := getsome hlt
      obtain ⟨y, hy⟩ := getsome (l := m) (i := i) (by omega)
      have hw2 := wrap_add1 (n := i) (by unfold lim at hl; omega)
      obtain ⟨a1, a2, a3, a4⟩ := dot_lods hr (.refl _) hx
      have i1 := dot_idx hr hx .i64
      obtain ⟨b1, b2, b3, b4⟩ := dot_lods hrw (.refl _) hy
      have i2 := dot_idx hrw hy .i64
      by_cases hp : x = y
      · have hz := eq_true hp
        simp (config := {contextual := true, maxDischargeDepth := 12}) only [tb_at, he, e0, e1, e5, hL, hM, hlt, hw2, a1, i1, b1, i2, hz, reserve0, ↓bD, bU, forall_const, bS, implies_true, isNx, eq_self, ↓wp_cond, ↓wp_loop, ↓reduceIte, reduceCtorEq, Nat.reduceEqDiff, Nat.reduceLT, Nat.reduceAdd, Nat.reduceMul, bT, ↓sg_bsl, ↓st_callf, bX, ap_mkfn, ae_callvV, callvV_fn, List.cons_append, List.nil_append, boxV_i]
        refine ⟨n - 1, by omega, ?_⟩
        rw [hI]
        exact ⟨rfl, i + 1, by omega, (by simp only [bE, Nat.reduceEqDiff, bN, Nat.reduceLT, he, e0, e1, e5]; try rfl), (by simp only [bE, Nat.reduceEqDiff, bN, Nat.reduceLT, he, e0, e1, e5]; try rfl), (by simp only [bE, Nat.reduceEqDiff, bN, Nat.reduceLT, he, e0, e1, e5]; try rfl), (by simp only [bE, Nat.reduceEqDiff, bN, Nat.reduceLT, he, e0, e1, e5]; try rfl), pre_next (P := fun k y => m[k]? = some y) hx hpre (by rw [hp]; exact hy)⟩
      · have hz := eq_false hp
        have hS : decide (l = m) = false := decide_eq_false (ne_at hx hy hp)
        simp (config := {contextual := true, maxDischargeDepth := 12}) only [tb_at, he, e0, e1, e5, hL, hM, hlt, hw2, a1, i1, b1, i2, hz, hS, reserve0, ↓bD, bU, forall_const, bS, implies_true, isNx, eq_self, ↓wp_cond, ↓wp_loop, ↓reduceIte, reduceCtorEq, Nat.reduceEqDiff, Nat.reduceLT, Nat.reduceAdd, Nat.reduceMul, bT, ↓sg_bsl, ↓st_callf, bX, ap_mkfn, ae_callvV, callvV_fn, List.cons_append, List.nil_append, boxV_i]
        all_goals first | exact .refl _ | skip
    · obtain rfl : i = l.length := by omega
      have hS : decide (l = m) = true := decide_eq_true (eq_of_at hlm fun k x y hx hy => by
        have := hpre k x (getlt hx) hx
        rw [hy] at this
        exact (Option.some.inj this).symm)
      simp (config := {contextual := true, maxDischargeDepth := 12}) only [tb_at, he, e0, e1, e5, hL, hM, hlt, hS, ↓bD, bU, forall_const, bS, implies_true, isNx, eq_self, ↓wp_cond, ↓wp_loop, ↓reduceIte, reduceCtorEq, Nat.reduceEqDiff, Nat.reduceLT, Nat.reduceAdd, Nat.reduceMul, bT, ↓sg_bsl, ↓st_callf, bX, ap_mkfn, ae_callvV, callvV_fn, List.cons_append, List.nil_append, boxV_i]
      all_goals first | exact .refl _ | skip
  · have hz : ((l.length : Int) = (m.length : Int)) = False := eq_false (by omega)
    have hS : decide (l = m) = false := decide_eq_false fun h => hlm (by rw [h])
    simp (config := {contextual := true, maxDischargeDepth := 12}) only [tb_at, h0, h1, hlen, hL, hM, hz, hS, ↓bD, bU, forall_const, bS, implies_true, isNx, eq_self, ↓wp_cond, ↓wp_loop, ↓reduceIte, reduceCtorEq, Nat.reduceEqDiff, Nat.reduceLT, Nat.reduceAdd, Nat.reduceMul, bT, ↓sg_bsl, ↓st_callf, bX, ap_mkfn, ae_callvV, callvV_fn, List.cons_append, List.nil_append, boxV_i]
    all_goals first | exact .refl _ | skip
theorem q_JSameD (cl : Bool) {s : St} {v : AV} {l : List Dot} (hr : read dotC s v = some l) (hl : l.length ≤ lim) {w : AV} {m : List Dot} (hrw : read dotC s w = some m) (hm : m.length ≤ lim) : acall R_JSameD cl [v, w] s = some (.bool (decide (l = m)), s) := run_same n_JSameD (by simp [a67]) rfl (w_JSameD (s := lowd s) (read_low' hr) hl (read_low' hrw) hm)
noncomputable def R_JSameC : Con := runFn (tb [(67, R_JSameD)]) a47
theorem s_JSameC : SoundAt Tryz.prog 47 R_JSameC := run_sound (tb_sound (l := [(67, R_JSameD)]) (by simpa using s_JSameD)) mixed Tryz.func47 k47 c47
theorem n_JSameC : noNxtC a47.body = true := by kernel_rfl
theorem w_JSameC {s : St} {v w : AV} {X : DCx} (hv : read dotC s v = some X.v) (hw : read dotC s w = some X.c) (hlv : X.v.length ≤ lim) (hlw : X.c.length ≤ lim) {v' w' : AV} {Y : DCx} (kv : read dotC s v' = some Y.v) (kw : read dotC s w' = some Y.c) (klv : Y.v.length ≤ lim) (klw : Y.c.length ≤ lim) : ∀ env : Env, elen env = a47.ntmps → (∀ i x_, [.agg [v, w], .agg [v', w']][i]? = some x_ → E env i = x_) → awp (tb [(67, R_JSameD)]) a47.body (fun x e t => (∀ i, x ≠ .exit i) ∧ aresults e t a47.results = some (.bool (decide (X = Y))) ∧ Keep s t) env s := by
  intro env hlen ha
  have h0 : E env 0 = _ := ha 0 _ rfl
  have h1 : E env 1 = _ := ha 1 _ rfl
  have hlen : elen env = _ := hlen
  simp only [a47] at hlen
  unfold a47
  try dsimp only [oO, oG]
  have hbx := boxV_2 (read_oneD hv).2 (read_oneD hw).2
  have hby := boxV_2 (read_oneD kv).2 (read_oneD kw).2
  have hK2 : Keep s ((s.push (.row [v, w] true)).push (.row [v', w'] true)) := ((Keep.refl s).push _).push _
  obtain ⟨c1, c2, c3, c4⟩ := box_ctx s v w ((Keep.refl _).push (.row [v', w'] true))
  obtain ⟨d1, d2, d3, d4⟩ := box_ctx (s.push (.row [v, w] true)) v' w' (.refl _)
  have q1 := q_JSameD false (hK2.read hv) hlv (hK2.read kv) klv
  have q2 := q_JSameD false (hK2.read hw) hlw (hK2.read kw) klw
  have hS : (decide (X.v = Y.v) && decide (X.c = Y.c)) = decide (X = Y) := by
    obtain ⟨xv, xc⟩ := X
    obtain ⟨yv, yc⟩ := Y
    rw [Bool.eq_iff_iff]
    simp
  simp (config := {contextual := true, maxDischargeDepth := 12}) only [tb_at, h0, h1, hlen, hbx, hby, c1, c2, c3, c4, d1, d2, d3, d4, q1, q2, hS, ↓bD, bU, forall_const, bS, implies_true, isNx, eq_self, ↓wp_cond, ↓wp_loop, ↓reduceIte, reduceCtorEq, Nat.reduceEqDiff, Nat.reduceLT, Nat.reduceAdd, Nat.reduceMul, bT, ↓sg_bsl, ↓st_callf, bX, ap_mkfn, ae_callvV, callvV_fn, List.cons_append, List.nil_append, boxV_i, boxV_dot, sto_dot]
  all_goals exact hK2
theorem q_JSameC (cl : Bool) {s : St} {v w : AV} {X : DCx} (hv : read dotC s v = some X.v) (hw : read dotC s w = some X.c) (hlv : X.v.length ≤ lim) (hlw : X.c.length ≤ lim) {v' w' : AV} {Y : DCx} (kv : read dotC s v' = some Y.v) (kw : read dotC s w' = some Y.c) (klv : Y.v.length ≤ lim) (klw : Y.c.length ≤ lim) : acall R_JSameC cl [.agg [v, w], .agg [v', w']] s = some (.bool (decide (X = Y)), s) := run_same n_JSameC (by simp [a47]) rfl (w_JSameC (s := lowd s) (read_low' hv) (read_low' hw) hlv hlw (read_low' kv) (read_low' kw) klv klw)
noncomputable def R_JDots : Con := runFn (tb []) a35
theorem s_JDots : SoundAt Tryz.prog 35 R_JDots := run_sound (tb_sound (l := []) (by simp)) mixed Tryz.func35 k35 c35
theorem n_JDots : noNxtC a35.body = true := by kernel_rfl
theorem w_JDots {s : St} {vl : AV} {l : List Nd} (hr : read ndC s vl = some l) (hl : l.length ≤ 1000) (b : Bool) : ∀ env : Env, elen env = a35.ntmps → (∀ i x_, [vl, .bool b][i]? = some x_ → E env i = x_) → awp (tb []) a35.body (fun x e t => (∀ i, x ≠ .exit i) ∧ Keep s t ∧ ∃ r, aresults e t a35.results = some r ∧ Own dotC s t r (dotsR l b)) env s := by
  intro env hlen ha
  have h0 : E env 0 = _ := ha 0 _ rfl
  have h1 : E env 1 = _ := ha 1 _ rfl
  have hlen : elen env = _ := hlen
  simp only [a35] at hlen
  unfold a35
  try dsimp only [oO, oG]
  have hL := lenV_read hr
  simp (config := {contextual := true, maxDischargeDepth := 12}) only [tb_at, h0, h1, hlen, hL, ↓bD, bU, forall_const, bS, implies_true, isNx, eq_self, ↓wp_cond, ↓wp_loop, ↓reduceIte, reduceCtorEq, Nat.reduceEqDiff, Nat.reduceLT, Nat.reduceAdd, Nat.reduceMul, bT, ↓sg_bsl, ↓st_callf, bX, List.cons_append, List.nil_append, ↓st_appf, bY, slcV_nils0N, slcV_sl0N, bslV_0N, bin_shr1, bsl_nd, q_known]
  obtain ⟨I, hI⟩ : ∃ I : Nat → Env → St → Prop, ∀ n e t, I n e t = (Keep s t ∧ ∃ i : Nat, n + i = l.length ∧ elen e = 32 ∧ E e 0 = vl ∧ E e 1 = .bool b ∧ E e 6 = .int .i64 (i : Int) ∧ Own dotC s t (E e 5) (dotsR (l.take i) b)) := ⟨fun n e t => (Keep s t ∧ ∃ i : Nat, n + i = l.length ∧ elen e = 32 ∧ E e 0 = vl ∧ E e 1 = .bool b ∧ E e 6 = .int .i64 (i : Int) ∧ Own dotC s t (E e 5) (dotsR (l.take i) b)), fun _ _ _ => rfl⟩
  refine lwp_inv I (n := l.length) ?_ ?_
  · rw [hI]
    exact ⟨.refl s, 0, by omega, (by simp only [bE, Nat.reduceEqDiff, bN, Nat.reduceLT, hlen]; try rfl), (by simp only [bE, Nat.reduceEqDiff, bN, Nat.reduceLT, hlen, h0]; try rfl), (by simp only [bE, Nat.reduceEqDiff, bN, Nat.reduceLT, hlen, h1]; try rfl), (by simp only [bE, Nat.reduceEqDiff, bN, Nat.reduceLT, hlen]; try rfl), by simp only [bE, Nat.reduceEqDiff, bN, Nat.reduceLT, hlen]; exact .nil _ _ _⟩
  clear h0 h1 hlen
  intro n e t hi
  rw [hI] at hi
  obtain ⟨hK, i, hni, he, e0, e1, e6, hO⟩ := hi
  by_cases hlt : i < l.length
  · obtain ⟨x, hx⟩ := getsome hlt
    have hw2 := wrap_add1 (n := i) (by omega)
    obtain ⟨a1, a2, a3, a5, a6, a4⟩ := nd_lods hr hK hx
    have i1 := nd_idx hr hx .i64
    have hsn := dotsR_snoc (b := b) hx
    cases b
    · rw [if_pos (by simp)] at hsn
      obtain ⟨u1, t1, ap, hK', hO'⟩ := appV_one (C := dotC) hK hO x.d 16 (by have := dotsR_len (l.take i) false; rw [List.length_take] at this; unfold roomBytes; omega)
      have ap : appV (t.push (.row (Dot.av x.d) true)) 2 16 (E e 5) (.sl t.next 0 1 (some 1) 2) = some (u1, t1) := ap
      simp (config := {contextual := true, maxDischargeDepth := 12}) only [tb_at, he, e0, e1, e6, hL, hlt, hw2, a2, a4, a6, i1, ap, notV_bool, Bool.not_false, ↓bD, bU, forall_const, bS, implies_true, isNx, eq_self, ↓wp_cond, ↓wp_loop, ↓reduceIte, reduceCtorEq, Nat.reduceEqDiff, Nat.reduceLT, Nat.reduceAdd, Nat.reduceMul, bT, ↓sg_bsl, ↓st_callf, bX, List.cons_append, List.nil_append, ↓st_appf, bY, slcV_nils0N, slcV_sl0N, bslV_0N, bin_shr1, bsl_nd, q_known]
      refine ⟨n - 1, by omega, ?_⟩
      rw [hI]
      exact ⟨hK', i + 1, by omega, (by simp only [bE, Nat.reduceEqDiff, bN, Nat.reduceLT, he, e0, e1, e6]; try rfl), (by simp only [bE, Nat.reduceEqDiff, bN, Nat.reduceLT, he, e0, e1, e6]; try rfl), (by simp only [bE, Nat.reduceEqDiff, bN, Nat.reduceLT, he, e0, e1, e6]; try rfl), (by simp only [bE, Nat.reduceEqDiff, bN, Nat.reduceLT, he, e0, e1, e6]; try rfl), by simp only [bE, Nat.reduceEqDiff, bN, Nat.reduceLT, he]; rw [hsn]; exact hO'⟩
    · by_cases hx0 : x.x = 0
      · have hz := eq_true hx0
        rw [if_pos (by simp [hx0])] at hsn
        obtain ⟨u1, t1, ap, hK', hO'⟩ := appV_one (C := dotC) hK hO x.d 16 (by have := dotsR_len (l.take i) true; rw [List.length_take] at this; unfold roomBytes; omega)
        have ap : appV (t.push (.row (Dot.av x.d) true)) 2 16 (E e 5) (.sl t.next 0 1 (some 1) 2) = some (u1, t1) := ap
        simp (config := {contextual := true, maxDischargeDepth := 12}) only [tb_at, he, e0, e1, e6, hL, hlt, hw2, a2, a4, a6, i1, ap, notV_bool, Bool.not_true, hz, ↓bD, bU, forall_const, bS, implies_true, isNx, eq_self, ↓wp_cond, ↓wp_loop, ↓reduceIte, reduceCtorEq, Nat.reduceEqDiff, Nat.reduceLT, Nat.reduceAdd, Nat.reduceMul, bT, ↓sg_bsl, ↓st_callf, bX, List.cons_append, List.nil_append, ↓st_appf, bY, slcV_nils0N, slcV_sl0N, bslV_0N, bin_shr1, bsl_nd, q_known]
        refine ⟨n - 1, by omega, ?_⟩
        rw [hI]
        exact ⟨hK', i + 1, by omega, (by simp only [bE, Nat.reduceEqDiff, bN, Nat.reduceLT, he, e0, e1, e6]; try rfl), (by simp only [bE, Nat.reduceEqDiff, bN, Nat.reduceLT, he, e0, e1, e6]; try rfl), (by simp only [bE, Nat.reduceEqDiff, bN, Nat.reduceLT, he, e0, e1, e6]; try rfl), (by simp only [bE, Nat.reduceEqDiff, bN, Nat.reduceLT, he, e0, e1, e6]; try rfl), by simp only [bE, Nat.reduceEqDiff, bN, Nat.reduceLT, he]; rw [hsn]; exact hO'⟩
      · have hz := eq_false hx0
        rw [if_neg (by simp [hx0]), List.append_nil] at hsn
        simp (config := {contextual := true, maxDischargeDepth := 12}) only [tb_at, he, e0, e1, e6, hL, hlt, hw2, a2, a4, a6, i1, notV_bool, Bool.not_true, hz, ↓bD, bU, forall_const, bS, implies_true, isNx, eq_self, ↓wp_cond, ↓wp_loop, ↓reduceIte, reduceCtorEq, Nat.reduceEqDiff, Nat.reduceLT, Nat.reduceAdd, Nat.reduceMul, bT, ↓sg_bsl, ↓st_callf, bX, List.cons_append, List.nil_append, ↓st_appf, bY, slcV_nils0N, slcV_sl0N, bslV_0N, bin_shr1, bsl_nd, q_known]
        refine ⟨n - 1, by omega, ?_⟩
        rw [hI]
        exact ⟨hK, i + 1, by omega, (by simp only [bE, Nat.reduceEqDiff, bN, Nat.reduceLT, he, e0, e1, e6]; try rfl), (by simp only [bE, Nat.reduceEqDiff, bN, Nat.reduceLT, he, e0, e1, e6]; try rfl), (by simp only [bE, Nat.reduceEqDiff, bN, Nat.reduceLT, he, e0, e1, e6]; try rfl), (by simp only [bE, Nat.reduceEqDiff, bN, Nat.reduceLT, he, e0, e1, e6]; try rfl), by simp only [bE, Nat.reduceEqDiff, bN, Nat.reduceLT, he]; rw [hsn]; exact hO⟩
  · obtain rfl : i = l.length := by omega
    rw [List.take_length] at hO
    simp (config := {contextual := true, maxDischargeDepth := 12}) only [tb_at, he, e0, e1, e6, hL, hlt, ↓bD, bU, forall_const, bS, implies_true, isNx, eq_self, ↓wp_cond, ↓wp_loop, ↓reduceIte, reduceCtorEq, Nat.reduceEqDiff, Nat.reduceLT, Nat.reduceAdd, Nat.reduceMul, bT, ↓sg_bsl, ↓st_callf, bX, List.cons_append, List.nil_append, ↓st_appf, bY, slcV_nils0N, slcV_sl0N, bslV_0N, bin_shr1, bsl_nd, q_known]
    first | exact ⟨hK, _, rfl, hO⟩ | exact ⟨_, rfl, hO⟩
theorem q_JDots {s : St} {vl : AV} {l : List Nd} (hr : read ndC s vl = some l) (hl : l.length ≤ 1000) (b : Bool) : ∃ v t, acall R_JDots false [vl, .bool b] s = some (v, t) ∧ Own dotC s t v (dotsR l b) ∧ Keep s t := run_fresh n_JDots (by simp [a35]) (fun v => v) (fun _ _ _ _ _ => rfl) (w_JDots (s := lowd s) (read_low' hr) hl b)
noncomputable def R_JHas : Con := runFn (tb [(55, R_JLast)]) a40
theorem s_JHas : SoundAt Tryz.prog 40 R_JHas := run_sound (tb_sound (l := [(55, R_JLast)]) (by simpa using s_JLast)) mixed Tryz.func40 k40 c40
theorem n_JHas : noNxtC a40.body = true := by kernel_rfl
theorem w_JHas {s : St} {v w : AV} {X : DCx} (hv : read dotC s v = some X.v) (hw : read dotC s w = some X.c) (hlv : X.v.length ≤ lim) (hlw : X.c.length ≤ lim) (d : Dot) : ∀ env : Env, elen env = a40.ntmps → (∀ i x_, [.agg [v, w], .agg (Dot.av d)][i]? = some x_ → E env i = x_) → awp (tb [(55, R_JLast)]) a40.body (fun x e t => (∀ i, x ≠ .exit i) ∧ aresults e t a40.results = some (.bool (jhas X d)) ∧ Keep s t) env s := by
  intro env hlen ha
  have h0 : E env 0 = _ := ha 0 _ rfl
  have h1 : E env 1 = _ := ha 1 _ rfl
  have hlen : elen env = _ := hlen
  simp only [a40] at hlen
  unfold a40
  try dsimp only [oO, oG]
  have hbx := boxV_2 (read_oneD hv).2 (read_oneD hw).2
  have hK2 : Keep s ((s.push (.row [v, w] true)).push (.row (Dot.av d) true)) := ((Keep.refl s).push _).push _
  have hK12 : Keep (s.push (.row [v, w] true)) ((s.push (.row [v, w] true)).push (.row (Dot.av d) true)) := (Keep.refl _).push _
  have hLc := lenV_read hw
  obtain ⟨c1, c2, c3, c4⟩ := box_ctx s v w hK12
  obtain ⟨b1, b2, b3, b4⟩ := box_dot (s.push (.row [v, w] true)) d (.refl _)
  have q1 := q_JLast true (hK2.read hv) hlv d.r
  by_cases hle : d.c ≤ vget X.v d.r
  · have hz := eq_true hle
    have hS : jhas X d = true := by unfold jhas; rw [decide_eq_true hle, Bool.true_or]
    rw [hS]
    simp (config := {contextual := true, maxDischargeDepth := 12}) only [tb_at, h0, h1, hlen, hbx, c1, c2, c3, c4, b1, b2, b3, b4, q1, hz, ↓bD, bU, forall_const, bS, implies_true, isNx, eq_self, ↓wp_cond, ↓wp_loop, ↓reduceIte, reduceCtorEq, Nat.reduceEqDiff, Nat.reduceLT, Nat.reduceAdd, Nat.reduceMul, bT, ↓sg_bsl, ↓st_callf, bX, List.cons_append, List.nil_append, ↓st_appf, bY, slcV_nils0N, slcV_sl0N, bslV_0N, bin_shr1, bsl_nd]
    all_goals first | exact hK2 | skip
  have hz := eq_false hle
  simp (config := {contextual := true, maxDischargeDepth := 12}) only [tb_at, h0, h1, hlen, hbx, c1, c2, c3, c4, b1, b2, b3, b4, q1, hz, ↓bD, bU, forall_const, bS, implies_true, isNx, eq_self, ↓wp_cond, ↓wp_loop, ↓reduceIte, reduceCtorEq, Nat.reduceEqDiff, Nat.reduceLT, Nat.reduceAdd, Nat.reduceMul, bT, ↓sg_bsl, ↓st_callf, bX, List.cons_append, List.nil_append, ↓st_appf, bY, slcV_nils0N, slcV_sl0N, bslV_0N, bin_shr1, bsl_nd]
  obtain ⟨I, hI⟩ : ∃ I : Nat → Env → St → Prop, ∀ n e t, I n e t = (Keep ((s.push (.row [v, w] true)).push (.row (Dot.av d) true)) t ∧ ∃ i : Nat, n + i = X.c.length ∧ elen e = 28 ∧ E e 2 = .ptr s.next 0 ∧ E e 3 = .ptr (s.push (.row [v, w] true)).next 0 ∧ E e 5 = .int .i64 (i : Int) ∧ ∀ k y, k < i → X.c[k]? = some y → y ≠ d) := ⟨fun n e t => (Keep ((s.push (.row [v, w] true)).push (.row (Dot.av d) true)) t ∧ ∃ i : Nat, n + i = X.c.length ∧ elen e = 28 ∧ E e 2 = .ptr s.next 0 ∧ E e 3 = .ptr (s.push (.row [v, w] true)).next 0 ∧ E e 5 = .int .i64 (i : Int) ∧ ∀ k y, k < i → X.c[k]? = some y → y ≠ d), fun _ _ _ => rfl⟩
  refine lwp_inv I (n := X.c.length) ?_ ?_
  · rw [hI]
    exact ⟨.refl _, 0, by omega, (by simp only [bE, Nat.reduceEqDiff, bN, Nat.reduceLT, hlen]; try rfl), (by simp only [bE, Nat.reduceEqDiff, bN, Nat.reduceLT, hlen]; try rfl), (by simp only [bE, Nat.reduceEqDiff, bN, Nat.reduceLT, hlen]; try rfl), (by simp only [bE, Nat.reduceEqDiff, bN, Nat.reduceLT, hlen]; try rfl), fun k y hk => by omega⟩
  clear h0 h1 hlen q1
  intro n e t hi
  rw [hI] at hi
  obtain ⟨hK, i, hni, he, e2, e3, e5, hpre⟩ := hi
  have hKt := hK2.trans hK
  obtain ⟨c1, c2, c3, c4⟩ := box_ctx s v w (hK12.trans hK)
  obtain ⟨b1, b2, b3, b4⟩ := box_dot (s.push (.row [v, w] true)) d hK
  by_cases hlt : i < X.c.length
  · obtain ⟨x, hx⟩ := getsome hlt
    have hw2 := wrap_add1 (n := i) (by unfold lim at hlw; omega)
    obtain ⟨a1, a2, a3, a4⟩ := dot_lods hw hKt hx
    have i1 := dot_idx hw hx .i64
    by_cases hp : x = d
    · have hzz := eq_true hp
      have hS : jhas X d = true := by unfold jhas; rw [decide_eq_true (show d ∈ X.c by rw [← hp]; exact mem_at hx), Bool.or_true]
      rw [hS]
      simp (config := {contextual := true, maxDischargeDepth := 12}) only [tb_at, he, e2, e3, e5, hLc, hlt, a1, a4, i1, b1, b4, c3, c4, hzz, ↓bD, bU, forall_const, bS, implies_true, isNx, eq_self, ↓wp_cond, ↓wp_loop, ↓reduceIte, reduceCtorEq, Nat.reduceEqDiff, Nat.reduceLT, Nat.reduceAdd, Nat.reduceMul, bT, ↓sg_bsl, ↓st_callf, bX, List.cons_append, List.nil_append, ↓st_appf, bY, slcV_nils0N, slcV_sl0N, bslV_0N, bin_shr1, bsl_nd]
      all_goals first | exact hKt | skip
    · have hzz := eq_false hp
      simp (config := {contextual := true, maxDischargeDepth := 12}) only [tb_at, he, e2, e3, e5, hLc, hlt, hw2, a1, a4, i1, b1, b4, c3, c4, hzz, ↓bD, bU, forall_const, bS, implies_true, isNx, eq_self, ↓wp_cond, ↓wp_loop, ↓reduceIte, reduceCtorEq, Nat.reduceEqDiff, Nat.reduceLT, Nat.reduceAdd, Nat.reduceMul, bT, ↓sg_bsl, ↓st_callf, bX, List.cons_append, List.nil_append, ↓st_appf, bY, slcV_nils0N, slcV_sl0N, bslV_0N, bin_shr1, bsl_nd]
      refine ⟨n - 1, by omega, ?_⟩
      rw [hI]
      exact ⟨hK, i + 1, by omega, (by simp only [bE, Nat.reduceEqDiff, bN, Nat.reduceLT, he, e2, e3, e5]; try rfl), (by simp only [bE, Nat.reduceEqDiff, bN, Nat.reduceLT, he, e2, e3, e5]; try rfl), (by simp only [bE, Nat.reduceEqDiff, bN, Nat.reduceLT, he, e2, e3, e5]; try rfl), (by simp only [bE, Nat.reduceEqDiff, bN, Nat.reduceLT, he, e2, e3, e5]; try rfl), pre_next (P := fun k y => y ≠ d) hx hpre hp⟩
  · obtain rfl : i = X.c.length := by omega
    have hS : jhas X d = false := by
      unfold jhas
      rw [decide_eq_false hle, Bool.false_or]
      refine decide_eq_false fun h => ?_
      obtain ⟨k, hk⟩ := List.getElem?_of_mem h
      exact hpre k d (getlt hk) hk rfl
    rw [hS]
    simp (config := {contextual := true, maxDischargeDepth := 12}) only [tb_at, he, e2, e3, e5, hLc, hlt, c3, c4, ↓bD, bU, forall_const, bS, implies_true, isNx, eq_self, ↓wp_cond, ↓wp_loop, ↓reduceIte, reduceCtorEq, Nat.reduceEqDiff, Nat.reduceLT, Nat.reduceAdd, Nat.reduceMul, bT, ↓sg_bsl, ↓st_callf, bX, List.cons_append, List.nil_append, ↓st_appf, bY, slcV_nils0N, slcV_sl0N, bslV_0N, bin_shr1, bsl_nd]
    all_goals first | exact hKt | skip
theorem q_JHas (cl : Bool) {s : St} {v w : AV} {X : DCx} (hv : read dotC s v = some X.v) (hw : read dotC s w = some X.c) (hlv : X.v.length ≤ lim) (hlw : X.c.length ≤ lim) (d : Dot) : acall R_JHas cl [.agg [v, w], .agg (Dot.av d)] s = some (.bool (jhas X d), s) := run_same n_JHas (by simp [a40]) rfl (w_JHas (s := lowd s) (read_low' hv) (read_low' hw) hlv hlw d)

end Go.AM
end
/-
  Contexts as the reference of layer 14 makes them. Own work of this project; in part printed by a program of it.
-/
section
set_option maxRecDepth 100000
set_option maxHeartbeats 8000000
namespace Go.AM
open Go Go.Proofs

variable {s t u : St}

/-- A context that is being made: the result's box, its own box, its two lists. -/
structure CB (s t : St) (rb b : Nat) (vv cc : AV) (V C : List Dot) : Prop where
  keep : Keep s t
  rbox : t.get rb = some (.row [.nils, .nils] true)
  obox : t.get b = some (.row [vv, cc] true)
  vec : Own dotC s t vv V
  cld : Own dotC s t cc C
  vdis : ∀ id ∈ vids vv, id ≠ b ∧ id ≠ rb ∧ id ∉ vids cc
  cdis : ∀ id ∈ vids cc, id ≠ b ∧ id ≠ rb
  rge : s.next ≤ rb
  bge : s.next ≤ b
  ne : rb ≠ b
theorem CB.start (s : St) : CB s ((s.push (.row [.nils, .nils] true)).push (.row [.nils, .nils] true)) s.next (s.next + 1) .nils .nils [] [] :=
  ⟨((Keep.refl s).push _).push _, get_push_some _ (St.get_push_new s _), St.get_push_new (s.push (.row [.nils, .nils] true)) _, .nil _ _ _, .nil _ _ _, by simp [vids], by simp [vids], Nat.le_refl _, by omega, by omega⟩
theorem CB.low {rb b : Nat} {vv cc : AV} {V C : List Dot} (h : CB s t rb b vv cc V C) (x : List AV) : CB s (t.lowed.push (.row x true)) rb b vv cc V C :=
  ⟨h.keep.lowed.push _, get_push_some _ h.rbox, get_push_some _ h.obox, h.vec.mono fun _ _ k => get_push_some _ k, h.cld.mono fun _ _ k => get_push_some _ k, h.vdis, h.cdis, h.rge, h.bge, h.ne⟩
theorem CB.lowed {rb b : Nat} {vv cc : AV} {V C : List Dot} (h : CB s t rb b vv cc V C) : CB s t.lowed rb b vv cc V C :=
  ⟨h.keep.lowed, h.rbox, h.obox, h.vec.mono fun _ _ k => k, h.cld.mono fun _ _ k => k, h.vdis, h.cdis, h.rge, h.bge, h.ne⟩
theorem CB.appc {rb b : Nat} {vv cc : AV} {V C : List Dot} (h : CB s t rb b vv cc V C) (x : Dot) (hb : C.length + 1 ≤ 4000000) : ∃ cc' t', appV (t.push (.row (Dot.av x) true)) 2 16 cc (.sl t.next 0 1 (some 1) 2) = some (cc', t') ∧ sto t' 1 (.ptr b 1) cc' = some (.und, t'.put b (.row [vv, cc'] true)) ∧ ltN b t' ∧ CB s (t'.put b (.row [vv, cc'] true)) rb b vv cc' V (C ++ [x]) := by
  obtain ⟨t', h1, h2, h3, h4⟩ := app1D h.cld x hb
  have hob : t'.get b = some (.row [vv, cc] true) := h3.blk h.obox fun q => (h.cdis _ q).1 rfl
  have hrb : t'.get rb = some (.row [.nils, .nils] true) := h3.blk h.rbox fun q => (h.cdis _ q).2 rfl
  have hK : Keep s t' := h.keep.chgn h3 (own_vids h.cld)
  have hlb' := St.get_lt hob
  have hlo := St.get_lt h.obox
  have hlr := St.get_lt h.rbox
  refine ⟨_, t', h1, (row2_sto hob rfl rfl).2, hlb', ⟨hK.put _ h.bge hlb', ?_, St.get_put_same hob, ?_, .inr ⟨t.next + 1, by simp; rfl, by simp, ?_, ?_⟩, fun id hid => ⟨(h.vdis id hid).1, (h.vdis id hid).2.1, ?_⟩, fun id hid => ?_, h.rge, h.bge, h.ne⟩⟩
  · rw [St.get_put_ne _ _ hlb' h.ne]; exact hrb
  · exact (h.vec.keep h3 fun id hid => (h.vdis id hid).2.2).keep ((Chg.refl [b] t').put _ (.inl (by simp)) hlb') fun id hid => by
      have := (h.vdis id hid).1
      simpa using this
  · have := h.keep.next
    omega
  · rw [St.get_put_ne _ _ hlb' (by omega)]; exact h2
  · have := own_vidl h.vec id hid
    simp [vids]
    omega
  · simp [vids] at hid
    omega
theorem CB.appv {rb b : Nat} {vv cc : AV} {V C : List Dot} (h : CB s t rb b vv cc V C) (x : Dot) (hb : V.length + 1 ≤ 4000000) : ∃ vv' t', appV (t.push (.row (Dot.av x) true)) 2 16 vv (.sl t.next 0 1 (some 1) 2) = some (vv', t') ∧ sto t' 1 (.ptr b 0) vv' = some (.und, t'.put b (.row [vv', cc] true)) ∧ ltN b t' ∧ CB s (t'.put b (.row [vv', cc] true)) rb b vv' cc (V ++ [x]) C := by
  obtain ⟨t', h1, h2, h3, h4⟩ := app1D h.vec x hb
  have hob : t'.get b = some (.row [vv, cc] true) := h3.blk h.obox fun q => (h.vdis _ q).1 rfl
  have hrb : t'.get rb = some (.row [.nils, .nils] true) := h3.blk h.rbox fun q => (h.vdis _ q).2.1 rfl
  have hK : Keep s t' := h.keep.chgn h3 (own_vids h.vec)
  have hlb' := St.get_lt hob
  have hlo := St.get_lt h.obox
  have hlr := St.get_lt h.rbox
  refine ⟨_, t', h1, (row2_sto hob rfl rfl).1, hlb', ⟨hK.put _ h.bge hlb', ?_, St.get_put_same hob, .inr ⟨t.next + 1, by simp; rfl, by simp, ?_, ?_⟩, ?_, fun id hid => ?_, h.cdis, h.rge, h.bge, h.ne⟩⟩
  · rw [St.get_put_ne _ _ hlb' h.ne]; exact hrb
  · have := h.keep.next
    omega
  · rw [St.get_put_ne _ _ hlb' (by omega)]; exact h2
  · exact (h.cld.keep h3 fun id hid q => (h.vdis id q).2.2 hid).keep ((Chg.refl [b] t').put _ (.inl (by simp)) hlb') fun id hid => by
      have := (h.cdis id hid).1
      simpa using this
  · simp [vids] at hid
    refine ⟨by omega, by omega, fun q => ?_⟩
    have := own_vidl h.cld id q
    omega
/-- Another cloud, made beside. -/
theorem CB.setc {rb b : Nat} {vv cc : AV} {V C : List Dot} (h : CB s t rb b vv cc V C) {cc' : AV} {C' : List Dot} (hO : Own dotC t u cc' C') (hK : Keep t u) : sto u 1 (.ptr b 1) cc' = some (.und, u.put b (.row [vv, cc'] true)) ∧ ltN b u ∧ CB s (u.put b (.row [vv, cc'] true)) rb b vv cc' V C' := by
  have hob := hK.blk h.obox
  have hlb := St.get_lt hob
  have hlo := St.get_lt h.obox
  have hlr := St.get_lt h.rbox
  have hone := read_oneD hO.read
  have hge := own_vids hO
  refine ⟨(row2_sto hob hone.1 hone.2).2, hlb, ⟨(h.keep.trans hK).put _ h.bge hlb, ?_, St.get_put_same hob, ?_, ?_, fun id hid => ⟨(h.vdis id hid).1, (h.vdis id hid).2.1, fun q => ?_⟩, fun id hid => ?_, h.rge, h.bge, h.ne⟩⟩
  · rw [St.get_put_ne _ _ hlb h.ne]; exact hK.blk h.rbox
  · exact (h.vec.mono fun _ _ k => hK.blk k).keep ((Chg.refl [b] u).put _ (.inl (by simp)) hlb) fun id hid => by
      have := (h.vdis id hid).1
      simpa using this
  · refine (Own.from (s0 := s) hO h.keep.next).keep ((Chg.refl [b] u).put _ (.inl (by simp)) hlb) fun id hid => ?_
    have := hge id hid
    simp
    omega
  · have h1 := hge id q
    have h2 := own_vidl h.vec id hid
    omega
  · have := hge id hid
    omega
theorem CB.done {rb b : Nat} {vv cc : AV} {V C : List Dot} (h : CB s t rb b vv cc V C) : lod t 2 (.ptr b 0) = some (.agg [vv, cc]) ∧ sto t 2 (.ptr rb 0) (.agg [vv, cc]) = some (.und, t.put rb (.row [vv, cc] true)) ∧ ltN rb t ∧ lod (t.put rb (.row [vv, cc] true)) 2 (.ptr rb 0) = some (.agg [vv, cc]) ∧ CR (t.put rb (.row [vv, cc] true)) vv cc ⟨V, C⟩ ∧ Keep s (t.put rb (.row [vv, cc] true)) := by
  have hlr := St.get_lt h.rbox
  have hC : Chg [rb] t (t.put rb (.row [vv, cc] true)) := (Chg.refl _ _).put _ (.inl (by simp)) hlr
  refine ⟨lod_row2 h.obox, sto_row2 h.rbox (read_oneD h.vec.read).2 (read_oneD h.cld.read).2, hlr, lod_row2 (St.get_put_same h.rbox), ⟨(h.vec.keep hC fun id hid => ?_).read, (h.cld.keep hC fun id hid => ?_).read⟩, h.keep.put _ h.rge hlr⟩
  · have := (h.vdis id hid).2.1
    simpa using this
  · have := (h.cdis id hid).2
    simpa using this
theorem fctx_snoc {v l : List Dot} {i : Nat} {d : Dot} (hx : l[i]? = some d) : (l.take (i + 1)).filter (fun d => decide (vget v d.r < d.c)) = (l.take i).filter (fun d => decide (vget v d.r < d.c)) ++ (if vget v d.r < d.c then [d] else []) := by
  rw [take_snoc hx, List.filter_append]
  congr 1
  by_cases h : vget v d.r < d.c
  · rw [if_pos h]; simp [h]
  · rw [if_neg h]; simp [h]
theorem runL_len (r : Int) (l : List Dot) : ∀ n, runL r n l ≤ n + l.length := by
  induction l with
  | nil => intro n; exact Nat.le_refl _
  | cons d l ih =>
    intro n
    rw [runL_cons]
    have := ih (if d.r = r ∧ d.c = ((n + 1 : Nat) : Int) then n + 1 else n)
    simp only [List.length_cons]
    split at this <;> rename_i h <;> first | (rw [if_pos h]; omega) | (rw [if_neg h]; omega)
noncomputable def R_JCtx : Con := runFn (tb [(55, R_JLast)]) a34
theorem s_JCtx : SoundAt Tryz.prog 34 R_JCtx := run_sound (tb_sound (l := [(55, R_JLast)]) (by simpa using s_JLast)) mixed Tryz.func34 k34 c34
theorem n_JCtx : noNxtC a34.body = true := by kernel_rfl
theorem w_JCtx {s : St} {v : AV} {l : List Dot} (hr : read dotC s v = some l) (hl : l.length ≤ 1000) : ∀ env : Env, elen env = a34.ntmps → (∀ i x_, [v][i]? = some x_ → E env i = x_) → awp (tb [(55, R_JLast)]) a34.body (fun x e t => (∀ i, x ≠ .exit i) ∧ ∃ r, aresults e t a34.results = some r ∧ (∃ vv cc, r = .agg [vv, cc] ∧ CR t vv cc (ctxL l)) ∧ Keep s t) env s := by
  intro env hlen ha
  have h0 : E env 0 = _ := ha 0 _ rfl
  have hlen : elen env = _ := hlen
  simp only [a34] at hlen
  unfold a34
  try dsimp only [oO, oG]
  have hL := lenV_read hr
  simp (config := {contextual := true, maxDischargeDepth := 12}) only [tb_at, h0, hlen, hL, ↓bD, bU, forall_const, bS, implies_true, isNx, eq_self, ↓wp_cond, ↓wp_loop, ↓reduceIte, reduceCtorEq, Nat.reduceEqDiff, Nat.reduceLT, Nat.reduceAdd, Nat.reduceMul, bT, ↓sg_bsl, ↓st_callf, bX, List.cons_append, List.nil_append, ↓st_appf, bY, slcV_nils0N, slcV_sl0N, bslV_0N, bin_shr1, bsl_nd]
  obtain ⟨I, hI⟩ : ∃ I : Nat → Env → St → Prop, ∀ n e t, I n e t = (True ∧ ∃ (i : Nat) (vv : AV), n + i = 64 ∧ elen e = 77 ∧ E e 0 = v ∧ E e 2 = .ptr s.next 0 ∧ E e 3 = .ptr (s.next + 1) 0 ∧ E e 4 = .int .i64 ((i + 1 : Nat) : Int) ∧ CB s t s.next (s.next + 1) vv .nils (vecL (fun r => runL (r : Int) 0 l) i) []) := ⟨fun n e t => (True ∧ ∃ (i : Nat) (vv : AV), n + i = 64 ∧ elen e = 77 ∧ E e 0 = v ∧ E e 2 = .ptr s.next 0 ∧ E e 3 = .ptr (s.next + 1) 0 ∧ E e 4 = .int .i64 ((i + 1 : Nat) : Int) ∧ CB s t s.next (s.next + 1) vv .nils (vecL (fun r => runL (r : Int) 0 l) i) []), fun _ _ _ => rfl⟩
  refine lwp_inv I (n := 64) ?_ ?_
  · rw [hI]
    exact ⟨trivial, 0, .nils, by omega, (by simp only [bE, Nat.reduceEqDiff, bN, Nat.reduceLT, hlen]; try rfl), (by simp only [bE, Nat.reduceEqDiff, bN, Nat.reduceLT, hlen, h0]; try rfl), (by simp only [bE, Nat.reduceEqDiff, bN, Nat.reduceLT, hlen]; try rfl), (by simp only [bE, Nat.reduceEqDiff, bN, Nat.reduceLT, hlen]; try rfl), (by simp only [bE, Nat.reduceEqDiff, bN, Nat.reduceLT, hlen]; try rfl), CB.start s⟩
  clear h0 hlen
  intro n e t hi
  rw [hI] at hi
  obtain ⟨hK, i, vv, hni, he, e0, e2, e3, e4, hJ⟩ := hi
  by_cases hlt : i < 64
  · have hle := eq_true (show ((i + 1 : Nat) : Int) ≤ 64 by omega)
    have hw4 := wrap_add1 (n := i + 1) (by omega)
    simp (config := {contextual := true, maxDischargeDepth := 12}) only [tb_at, he, e0, e2, e3, e4, hle, hL, ↓bD, bU, forall_const, bS, implies_true, isNx, eq_self, ↓wp_cond, ↓wp_loop, ↓reduceIte, reduceCtorEq, Nat.reduceEqDiff, Nat.reduceLT, Nat.reduceAdd, Nat.reduceMul, bT, ↓sg_bsl, ↓st_callf, bX, List.cons_append, List.nil_append, ↓st_appf, bY, slcV_nils0N, slcV_sl0N, bslV_0N, bin_shr1, bsl_nd]
    obtain ⟨i0, hi0⟩ : ∃ i0, i0 = i := ⟨_, rfl⟩
    obtain ⟨t0, ht0⟩ : ∃ t0, t0 = t := ⟨_, rfl⟩
    rw [← hi0] at e4 hni hlt hw4 hle hJ
    rw [← ht0] at hJ
    obtain ⟨I2, hI2⟩ : ∃ I : Nat → Env → St → Prop, ∀ n e t, I n e t = (t = t0 ∧ ∃ i : Nat, n + i = l.length ∧ elen e = 77 ∧ E e 0 = v ∧ E e 2 = .ptr s.next 0 ∧ E e 3 = .ptr (s.next + 1) 0 ∧ E e 4 = .int .i64 ((i0 + 1 : Nat) : Int) ∧ E e 5 = .int .i64 ((runL ((i0 + 1 : Nat) : Int) 0 (l.take i) : Nat) : Int) ∧ E e 6 = .int .i64 (i : Int)) := ⟨fun n e t => (t = t0 ∧ ∃ i : Nat, n + i = l.length ∧ elen e = 77 ∧ E e 0 = v ∧ E e 2 = .ptr s.next 0 ∧ E e 3 = .ptr (s.next + 1) 0 ∧ E e 4 = .int .i64 ((i0 + 1 : Nat) : Int) ∧ E e 5 = .int .i64 ((runL ((i0 + 1 : Nat) : Int) 0 (l.take i) : Nat) : Int) ∧ E e 6 = .int .i64 (i : Int)), fun _ _ _ => rfl⟩
    refine lwp_inv I2 (n := l.length) ?_ ?_
    · rw [hI2]
      exact ⟨ht0.symm, 0, by omega, (by simp only [bE, Nat.reduceEqDiff, bN, Nat.reduceLT, he]; try rfl), (by simp only [bE, Nat.reduceEqDiff, bN, Nat.reduceLT, he, e0]; try rfl), (by simp only [bE, Nat.reduceEqDiff, bN, Nat.reduceLT, he, e2]; try rfl), (by simp only [bE, Nat.reduceEqDiff, bN, Nat.reduceLT, he, e3]; try rfl), (by simp only [bE, Nat.reduceEqDiff, bN, Nat.reduceLT, he, e4]; try rfl), (by simp only [bE, Nat.reduceEqDiff, bN, Nat.reduceLT, he]; try rfl), (by simp only [bE, Nat.reduceEqDiff, bN, Nat.reduceLT, he]; try rfl)⟩
    clear he e0 e2 e3 e4
    intro n2 e t hi
    rw [hI2] at hi
    obtain ⟨hK, i, hni2, he, e0, e2, e3, e4, e5, e6⟩ := hi
    subst hK
    by_cases hlt2 : i < l.length
    · obtain ⟨x, hx⟩ := getsome hlt2
      have hw2 := wrap_add1 (n := i) (by omega)
      obtain ⟨a1, a2, a3, a4⟩ := dot_lods hr hJ.keep hx
      have i1 := dot_idx hr hx .i64
      have hrl := runL_len ((i0 + 1 : Nat) : Int) (l.take i) 0
      rw [List.length_take] at hrl
      have hw5 := wrap_add1 (n := runL ((i0 + 1 : Nat) : Int) 0 (l.take i)) (by omega)
      have hsn := runL_snoc (r := ((i0 + 1 : Nat) : Int)) hx
      by_cases h1 : x.r = ((i0 + 1 : Nat) : Int)
      · have z1 := eq_true h1
        by_cases h2 : x.c = ((runL ((i0 + 1 : Nat) : Int) 0 (l.take i) + 1 : Nat) : Int)
        · have z2 := eq_true h2
          rw [if_pos ⟨h1, h2⟩] at hsn
          simp (config := {contextual := true, maxDischargeDepth := 12}) only [tb_at, he, e0, e2, e3, e4, e5, e6, hL, hlt2, hw2, hw5, a1, a2, a3, a4, i1, z1, z2, ↓bD, bU, forall_const, bS, implies_true, isNx, eq_self, ↓wp_cond, ↓wp_loop, ↓reduceIte, reduceCtorEq, Nat.reduceEqDiff, Nat.reduceLT, Nat.reduceAdd, Nat.reduceMul, bT, ↓sg_bsl, ↓st_callf, bX, List.cons_append, List.nil_append, ↓st_appf, bY, slcV_nils0N, slcV_sl0N, bslV_0N, bin_shr1, bsl_nd]
          refine ⟨n2 - 1, by omega, ?_⟩
          rw [hI2]
          exact ⟨rfl, i + 1, by omega, (by simp only [bE, Nat.reduceEqDiff, bN, Nat.reduceLT, he, e0, e2, e3, e4]; try rfl), (by simp only [bE, Nat.reduceEqDiff, bN, Nat.reduceLT, he, e0, e2, e3, e4]; try rfl), (by simp only [bE, Nat.reduceEqDiff, bN, Nat.reduceLT, he, e0, e2, e3, e4]; try rfl), (by simp only [bE, Nat.reduceEqDiff, bN, Nat.reduceLT, he, e0, e2, e3, e4]; try rfl), (by simp only [bE, Nat.reduceEqDiff, bN, Nat.reduceLT, he, e0, e2, e3, e4]; try rfl), by rw [hsn]; simp only [bE, Nat.reduceEqDiff, bN, Nat.reduceLT, he, e5]; try rfl, (by simp only [bE, Nat.reduceEqDiff, bN, Nat.reduceLT, he]; try rfl)⟩
        · have z2 := eq_false h2
          rw [if_neg (fun q => h2 q.2)] at hsn
          simp (config := {contextual := true, maxDischargeDepth := 12}) only [tb_at, he, e0, e2, e3, e4, e5, e6, hL, hlt2, hw2, hw5, a1, a2, a3, a4, i1, z1, z2, ↓bD, bU, forall_const, bS, implies_true, isNx, eq_self, ↓wp_cond, ↓wp_loop, ↓reduceIte, reduceCtorEq, Nat.reduceEqDiff, Nat.reduceLT, Nat.reduceAdd, Nat.reduceMul, bT, ↓sg_bsl, ↓st_callf, bX, List.cons_append, List.nil_append, ↓st_appf, bY, slcV_nils0N, slcV_sl0N, bslV_0N, bin_shr1, bsl_nd]
          refine ⟨n2 - 1, by omega, ?_⟩
          rw [hI2]
          exact ⟨rfl, i + 1, by omega, (by simp only [bE, Nat.reduceEqDiff, bN, Nat.reduceLT, he, e0, e2, e3, e4]; try rfl), (by simp only [bE, Nat.reduceEqDiff, bN, Nat.reduceLT, he, e0, e2, e3, e4]; try rfl), (by simp only [bE, Nat.reduceEqDiff, bN, Nat.reduceLT, he, e0, e2, e3, e4]; try rfl), (by simp only [bE, Nat.reduceEqDiff, bN, Nat.reduceLT, he, e0, e2, e3, e4]; try rfl), (by simp only [bE, Nat.reduceEqDiff, bN, Nat.reduceLT, he, e0, e2, e3, e4]; try rfl), by rw [hsn]; simp only [bE, Nat.reduceEqDiff, bN, Nat.reduceLT, he, e5]; try rfl, (by simp only [bE, Nat.reduceEqDiff, bN, Nat.reduceLT, he]; try rfl)⟩
      · have z1 := eq_false h1
        rw [if_neg (fun q => h1 q.1)] at hsn
        simp (config := {contextual := true, maxDischargeDepth := 12}) only [tb_at, he, e0, e2, e3, e4, e5, e6, hL, hlt2, hw2, hw5, a1, a2, a3, a4, i1, z1, ↓bD, bU, forall_const, bS, implies_true, isNx, eq_self, ↓wp_cond, ↓wp_loop, ↓reduceIte, reduceCtorEq, Nat.reduceEqDiff, Nat.reduceLT, Nat.reduceAdd, Nat.reduceMul, bT, ↓sg_bsl, ↓st_callf, bX, List.cons_append, List.nil_append, ↓st_appf, bY, slcV_nils0N, slcV_sl0N, bslV_0N, bin_shr1, bsl_nd]
        refine ⟨n2 - 1, by omega, ?_⟩
        rw [hI2]
        exact ⟨rfl, i + 1, by omega, (by simp only [bE, Nat.reduceEqDiff, bN, Nat.reduceLT, he, e0, e2, e3, e4]; try rfl), (by simp only [bE, Nat.reduceEqDiff, bN, Nat.reduceLT, he, e0, e2, e3, e4]; try rfl), (by simp only [bE, Nat.reduceEqDiff, bN, Nat.reduceLT, he, e0, e2, e3, e4]; try rfl), (by simp only [bE, Nat.reduceEqDiff, bN, Nat.reduceLT, he, e0, e2, e3, e4]; try rfl), (by simp only [bE, Nat.reduceEqDiff, bN, Nat.reduceLT, he, e0, e2, e3, e4]; try rfl), by rw [hsn]; simp only [bE, Nat.reduceEqDiff, bN, Nat.reduceLT, he, e5]; try rfl, (by simp only [bE, Nat.reduceEqDiff, bN, Nat.reduceLT, he]; try rfl)⟩
    · obtain rfl : i = l.length := by omega
      rw [List.take_length] at e5
      have hv1 := vecL_succ (fun r => runL (r : Int) 0 l) i0
      have hvl := vecL_len (fun r => runL (r : Int) 0 l) i0
      by_cases hpos : 0 < runL ((i0 + 1 : Nat) : Int) 0 l
      · have z1 := eq_true (show (0 : Int) < ((runL ((i0 + 1 : Nat) : Int) 0 l : Nat) : Int) by omega)
        rw [if_pos hpos] at hv1
        obtain ⟨o0, o1, olt⟩ := row2_lod hJ.obox
        obtain ⟨vv', t', hap, hsto, hbt, hJ'⟩ := hJ.appv ⟨((i0 + 1 : Nat) : Int), ((runL ((i0 + 1 : Nat) : Int) 0 l : Nat) : Int)⟩ (by omega)
        rw [← hv1] at hJ'
        simp (config := {contextual := true, maxDischargeDepth := 12}) only [tb_at, he, e0, e2, e3, e4, e5, e6, hL, hlt2, z1, o0, o1, olt, hap, hsto, hbt, hw4, ↓bD, bU, forall_const, bS, implies_true, isNx, eq_self, ↓wp_cond, ↓wp_loop, ↓reduceIte, reduceCtorEq, Nat.reduceEqDiff, Nat.reduceLT, Nat.reduceAdd, Nat.reduceMul, bT, ↓sg_bsl, ↓st_callf, bX, List.cons_append, List.nil_append, ↓st_appf, bY, slcV_nils0N, slcV_sl0N, bslV_0N, bin_shr1, bsl_nd]
        refine ⟨n - 1, by omega, ?_⟩
        rw [hI]
        exact ⟨trivial, i0 + 1, vv', by omega, (by simp only [bE, Nat.reduceEqDiff, bN, Nat.reduceLT, he, e0, e2, e3]; try rfl), (by simp only [bE, Nat.reduceEqDiff, bN, Nat.reduceLT, he, e0, e2, e3]; try rfl), (by simp only [bE, Nat.reduceEqDiff, bN, Nat.reduceLT, he, e0, e2, e3]; try rfl), (by simp only [bE, Nat.reduceEqDiff, bN, Nat.reduceLT, he, e0, e2, e3]; try rfl), (by simp only [bE, Nat.reduceEqDiff, bN, Nat.reduceLT, he, e0, e2, e3]; try rfl), hJ'⟩
      · have z1 := eq_false (show ¬ (0 : Int) < ((runL ((i0 + 1 : Nat) : Int) 0 l : Nat) : Int) by omega)
        rw [if_neg hpos, List.append_nil] at hv1
        rw [← hv1] at hJ
        simp (config := {contextual := true, maxDischargeDepth := 12}) only [tb_at, he, e0, e2, e3, e4, e5, e6, hL, hlt2, z1, hw4, ↓bD, bU, forall_const, bS, implies_true, isNx, eq_self, ↓wp_cond, ↓wp_loop, ↓reduceIte, reduceCtorEq, Nat.reduceEqDiff, Nat.reduceLT, Nat.reduceAdd, Nat.reduceMul, bT, ↓sg_bsl, ↓st_callf, bX, List.cons_append, List.nil_append, ↓st_appf, bY, slcV_nils0N, slcV_sl0N, bslV_0N, bin_shr1, bsl_nd]
        refine ⟨n - 1, by omega, ?_⟩
        rw [hI]
        exact ⟨trivial, i0 + 1, vv, by omega, (by simp only [bE, Nat.reduceEqDiff, bN, Nat.reduceLT, he, e0, e2, e3]; try rfl), (by simp only [bE, Nat.reduceEqDiff, bN, Nat.reduceLT, he, e0, e2, e3]; try rfl), (by simp only [bE, Nat.reduceEqDiff, bN, Nat.reduceLT, he, e0, e2, e3]; try rfl), (by simp only [bE, Nat.reduceEqDiff, bN, Nat.reduceLT, he, e0, e2, e3]; try rfl), (by simp only [bE, Nat.reduceEqDiff, bN, Nat.reduceLT, he, e0, e2, e3]; try rfl), hJ⟩
  · obtain rfl : i = 64 := by omega
    have hle := eq_false (show ¬ ((64 + 1 : Nat) : Int) ≤ 64 by omega)
    simp (config := {contextual := true, maxDischargeDepth := 12}) only [tb_at, he, e0, e2, e3, e4, hle, hL, ↓bD, bU, forall_const, bS, implies_true, isNx, eq_self, ↓wp_cond, ↓wp_loop, ↓reduceIte, reduceCtorEq, Nat.reduceEqDiff, Nat.reduceLT, Nat.reduceAdd, Nat.reduceMul, bT, ↓sg_bsl, ↓st_callf, bX, List.cons_append, List.nil_append, ↓st_appf, bY, slcV_nils0N, slcV_sl0N, bslV_0N, bin_shr1, bsl_nd]
    obtain ⟨I3, hI3⟩ : ∃ I : Nat → Env → St → Prop, ∀ n e t, I n e t = (True ∧ ∃ (i : Nat) (cc : AV), n + i = l.length ∧ elen e = 77 ∧ E e 0 = v ∧ E e 2 = .ptr s.next 0 ∧ E e 3 = .ptr (s.next + 1) 0 ∧ E e 7 = .int .i64 (i : Int) ∧ CB s t s.next (s.next + 1) vv cc (ctxV l) ((l.take i).filter fun d => decide (vget (ctxV l) d.r < d.c))) := ⟨fun n e t => (True ∧ ∃ (i : Nat) (cc : AV), n + i = l.length ∧ elen e = 77 ∧ E e 0 = v ∧ E e 2 = .ptr s.next 0 ∧ E e 3 = .ptr (s.next + 1) 0 ∧ E e 7 = .int .i64 (i : Int) ∧ CB s t s.next (s.next + 1) vv cc (ctxV l) ((l.take i).filter fun d => decide (vget (ctxV l) d.r < d.c))), fun _ _ _ => rfl⟩
    refine lwp_inv I3 (n := l.length) ?_ ?_
    · rw [hI3]
      exact ⟨trivial, 0, .nils, by omega, (by simp only [bE, Nat.reduceEqDiff, bN, Nat.reduceLT, he]; try rfl), (by simp only [bE, Nat.reduceEqDiff, bN, Nat.reduceLT, he, e0]; try rfl), (by simp only [bE, Nat.reduceEqDiff, bN, Nat.reduceLT, he, e2]; try rfl), (by simp only [bE, Nat.reduceEqDiff, bN, Nat.reduceLT, he, e3]; try rfl), (by simp only [bE, Nat.reduceEqDiff, bN, Nat.reduceLT, he]; try rfl), by rw [List.take_zero, List.filter_nil]; exact hJ⟩
    clear he e0 e2 e3 e4 hni
    clear hJ
    intro n e t hi
    rw [hI3] at hi
    obtain ⟨hK, i, cc, hni, he, e0, e2, e3, e7, hJ⟩ := hi
    have hvvl : (ctxV l).length ≤ 64 := vecL_len _ 64
    obtain ⟨o0, o1, olt⟩ := row2_lod hJ.obox
    by_cases hlt3 : i < l.length
    · obtain ⟨x, hx⟩ := getsome hlt3
      have hw2 := wrap_add1 (n := i) (by omega)
      obtain ⟨a1, a2, a3, a4⟩ := dot_lods hr hJ.keep hx
      have hKR := hJ.keep.trans (keep_reserve t 1)
      obtain ⟨r1, r2, r3, r4⟩ := dot_lods hr hKR hx
      obtain ⟨p0, p1, plt⟩ := row2_lod ((keep_reserve t 1).blk hJ.obox)
      have i1 := dot_idx hr hx .i64
      have q1 := q_JLast true hJ.vec.read (by unfold lim; omega) x.r
      have hsn := fctx_snoc (v := ctxV l) hx
      by_cases hgt : vget (ctxV l) x.r < x.c
      · have z1 := eq_true hgt
        rw [if_pos hgt] at hsn
        obtain ⟨cc', t', hap, hsto, hbt, hJ'⟩ := hJ.appc x (by have := List.length_filter_le (fun d => decide (vget (ctxV l) d.r < d.c)) (l.take i); rw [List.length_take] at this; omega)
        rw [← hsn] at hJ'
        simp (config := {contextual := true, maxDischargeDepth := 12}) only [tb_at, he, e0, e2, e3, e7, hL, hlt3, hw2, a2, a3, a4, r1, r4, i1, o0, o1, olt, p0, p1, plt, q1, z1, hap, hsto, hbt, ↓bD, bU, forall_const, bS, implies_true, isNx, eq_self, ↓wp_cond, ↓wp_loop, ↓reduceIte, reduceCtorEq, Nat.reduceEqDiff, Nat.reduceLT, Nat.reduceAdd, Nat.reduceMul, bT, ↓sg_bsl, ↓st_callf, bX, List.cons_append, List.nil_append, ↓st_appf, bY, slcV_nils0N, slcV_sl0N, bslV_0N, bin_shr1, bsl_nd]
        refine ⟨n - 1, by omega, ?_⟩
        rw [hI3]
        exact ⟨trivial, i + 1, cc', by omega, (by simp only [bE, Nat.reduceEqDiff, bN, Nat.reduceLT, he, e0, e2, e3, e7]; try rfl), (by simp only [bE, Nat.reduceEqDiff, bN, Nat.reduceLT, he, e0, e2, e3, e7]; try rfl), (by simp only [bE, Nat.reduceEqDiff, bN, Nat.reduceLT, he, e0, e2, e3, e7]; try rfl), (by simp only [bE, Nat.reduceEqDiff, bN, Nat.reduceLT, he, e0, e2, e3, e7]; try rfl), (by simp only [bE, Nat.reduceEqDiff, bN, Nat.reduceLT, he, e0, e2, e3, e7]; try rfl), hJ'⟩
      · have z1 := eq_false hgt
        rw [if_neg hgt, List.append_nil] at hsn
        rw [← hsn] at hJ
        simp (config := {contextual := true, maxDischargeDepth := 12}) only [tb_at, he, e0, e2, e3, e7, hL, hlt3, hw2, a2, a3, a4, i1, o0, o1, olt, q1, z1, ↓bD, bU, forall_const, bS, implies_true, isNx, eq_self, ↓wp_cond, ↓wp_loop, ↓reduceIte, reduceCtorEq, Nat.reduceEqDiff, Nat.reduceLT, Nat.reduceAdd, Nat.reduceMul, bT, ↓sg_bsl, ↓st_callf, bX, List.cons_append, List.nil_append, ↓st_appf, bY, slcV_nils0N, slcV_sl0N, bslV_0N, bin_shr1, bsl_nd]
        refine ⟨n - 1, by omega, ?_⟩
        rw [hI3]
        exact ⟨trivial, i + 1, cc, by omega, (by simp only [bE, Nat.reduceEqDiff, bN, Nat.reduceLT, he, e0, e2, e3, e7]; try rfl), (by simp only [bE, Nat.reduceEqDiff, bN, Nat.reduceLT, he, e0, e2, e3, e7]; try rfl), (by simp only [bE, Nat.reduceEqDiff, bN, Nat.reduceLT, he, e0, e2, e3, e7]; try rfl), (by simp only [bE, Nat.reduceEqDiff, bN, Nat.reduceLT, he, e0, e2, e3, e7]; try rfl), (by simp only [bE, Nat.reduceEqDiff, bN, Nat.reduceLT, he, e0, e2, e3, e7]; try rfl), hJ⟩
    · obtain rfl : i = l.length := by omega
      rw [List.take_length] at hJ
      obtain ⟨f1, f2, f3, f4, f5, f6⟩ := hJ.done
      simp (config := {contextual := true, maxDischargeDepth := 12}) only [tb_at, he, e0, e2, e3, e7, hL, hlt3, f1, f2, f3, f4, rc1, ↓bD, bU, forall_const, bS, implies_true, isNx, eq_self, ↓wp_cond, ↓wp_loop, ↓reduceIte, reduceCtorEq, Nat.reduceEqDiff, Nat.reduceLT, Nat.reduceAdd, Nat.reduceMul, bT, ↓sg_bsl, ↓st_callf, bX, List.cons_append, List.nil_append, ↓st_appf, bY, slcV_nils0N, slcV_sl0N, bslV_0N, bin_shr1, bsl_nd]
      exact ⟨_, rfl, ⟨vv, cc, rfl, f5⟩, f6⟩
theorem q_JCtx {s : St} {v : AV} {l : List Dot} (hr : read dotC s v = some l) (hl : l.length ≤ 1000) : ∃ vv cc t, acall R_JCtx false [v] s = some (.agg [vv, cc], t) ∧ CR t vv cc (ctxL l) ∧ Keep s t := by
  obtain ⟨r, t, h1, ⟨vv, cc, rfl, h2⟩, h3⟩ := run_any n_JCtx (args := [v]) (Q := fun r t => ∃ vv cc, r = .agg [vv, cc] ∧ CR t vv cc (ctxL l)) (by simp [a34]) (fun r t t' hg hn ⟨vv, cc, e, h⟩ => ⟨vv, cc, e, h.mono fun id b hb => by rw [hg]; exact hb⟩) (fun r t hgr hk ⟨vv, cc, e, h⟩ => ⟨vv, cc, e, by
    rw [e] at hgr
    exact h.ground (plain_ground (ground_agg hgr).1) (plain_ground (ground_agg hgr).2)⟩) (w_JCtx (s := lowd s) (read_low' hr) hl)
  exact ⟨vv, cc, t, h1, h2, h3⟩

end Go.AM
end
/-
  Plain laws of digests: the theorem of stage 16. Own work of this project.
-/
section
namespace Go.AM
open Go Go.Proofs

/-- The digest of a store. -/
def deadN (l : List Nd) : List Nd := l.filter fun n => decide (n.x = 0)
def dgOf (l : List Nd) : DDg := ⟨addC ⟨[], []⟩ (l.map Nd.d), addC ⟨[], []⟩ ((deadN l).map Nd.d)⟩
def dgMerge (a b : DDg) : DDg := ⟨uniC a.all b.all, uniC a.gone b.gone⟩
def dgWithin (a b : DDg) : Bool := jwithin a.all b.all && jwithin a.gone b.gone
theorem dots_ok {l m : List Nd} (h : storeL l = true) (k : ∀ x ∈ m, x ∈ l) : (m.map Nd.d).all Dot.valid = true := by
  rw [List.all_map, List.all_eq_true]
  intro x hx
  have := store_mem h (k x hx)
  simp only [Nd.valid, Bool.and_eq_true] at this
  exact this.1.1.1.1.1
theorem dots_srt {l : List Nd} (h : l.Pairwise ltP) : Srt (l.map Nd.d) := List.pairwise_map.2 (h.imp fun q => q)
theorem cv0 : cvalid ⟨[], []⟩ = true := rfl
theorem chas_nil (d : Dot) : chas ⟨[], []⟩ d = false := by
  unfold chas
  cases hd : d.valid
  · rfl
  · have := (valid_iff d).1 hd
    have h1 : ¬ d.c ≤ vget (⟨[], []⟩ : DCx).v d.r := by show ¬ d.c ≤ 0; omega
    rw [decide_eq_false h1]
    simp
theorem has_dots {l m : List Nd} (h : storeL l = true) (k : ∀ x ∈ m, x ∈ l) (d : Dot) : chas (addC ⟨[], []⟩ (m.map Nd.d)) d = true ↔ ∃ x ∈ m, x.d = d := by
  rw [add_has cv0 (dots_ok h k), chas_nil, Bool.false_or, Bool.and_eq_true, decide_eq_true_eq, List.mem_map]
  constructor
  · rintro ⟨_, q⟩; exact q
  · rintro ⟨x, hx, rfl⟩
    exact ⟨chas_all (dots_ok h k) _ (List.mem_map_of_mem hx), x, hx, rfl⟩
theorem dead_sub (l : List Nd) : ∀ x ∈ deadN l, x ∈ l := fun x hx => (List.mem_filter.1 hx).1
theorem dgOf_all {l : List Nd} (h : storeL l = true) (d : Dot) : chas (dgOf l).all d = true ↔ ∃ x ∈ l, x.d = d := has_dots h (fun _ q => q) d
theorem dgOf_gone {l : List Nd} (h : storeL l = true) (d : Dot) : chas (dgOf l).gone d = true ↔ ∃ x ∈ l, x.d = d ∧ x.x = 0 := by
  rw [show (dgOf l).gone = addC ⟨[], []⟩ ((deadN l).map Nd.d) from rfl, has_dots h (dead_sub l)]
  constructor
  · rintro ⟨x, hx, e⟩
    obtain ⟨h1, h2⟩ := List.mem_filter.1 hx
    exact ⟨x, h1, e, by simpa using h2⟩
  · rintro ⟨x, hx, e, e2⟩
    exact ⟨x, List.mem_filter.2 ⟨hx, by simpa using e2⟩, e⟩
theorem dgOf_C {l : List Nd} (h : storeL l = true) : isC (dgOf l).all = true ∧ isC (dgOf l).gone = true := ⟨add_isC cv0 (dots_ok h fun _ q => q), add_isC cv0 (dots_ok h (dead_sub l))⟩
theorem dgOf_valid {l : List Nd} (h : storeL l = true) : dgV (dgOf l) = true := by
  obtain ⟨h1, h2⟩ := dgOf_C h
  unfold dgV
  rw [h1, h2, Bool.true_and, Bool.true_and, jwithin_iff h2 h1]
  intro d hd
  obtain ⟨x, hx, e, _⟩ := (dgOf_gone h d).1 hd
  exact (dgOf_all h d).2 ⟨x, hx, e⟩
theorem nd_dval {n : Nd} (h : n.valid = true) : n.d.valid = true := by
  simp only [Nd.valid, Bool.and_eq_true] at h
  exact h.1.1.1.1.1
structure DHolds (a b : List Nd) : Prop where
  sj : storeL (refJ a b) = true
  sd : storeL (diffD a (dgOf b)) = true
  j1 : joinsP a b = (refJ a b, 0)
  j2 : joinsP b (diffD a (dgOf b)) = (refJ a b, 0)
  w1 : withinP (diffD a (dgOf b)) a = (true, 0)
  m : dgOf (refJ a b) = dgMerge (dgOf a) (dgOf b)
  w2 : withinP a b = (dgWithin (dgOf a) (dgOf b), 0)
end Go.AM
end
/-
  Digests as the reference of layer 16 looks at them. Own work of this project; in part printed by a program of it.
-/
section
set_option maxRecDepth 100000
set_option maxHeartbeats 8000000
namespace Go.AM
open Go Go.Proofs

variable {s t u : St}

theorem boxV_4 {a b c d : AV} (ha : a.one = true) (hb : b.one = true) (hc : c.one = true) (hd : d.one = true) : boxV 4 (.agg [a, b, c, d]) = some (fun id => .ptr id 0, .row [a, b, c, d] true) := by
  simp [boxV, AV.cells, ha, hb, hc, hd]
theorem row4_lods {id : Nat} {a b c d : AV} {own : Bool} (h : t.get id = some (.row [a, b, c, d] own)) : lod t 4 (.ptr id 0) = some (.agg [a, b, c, d]) ∧ lod t 2 (.ptr id 0) = some (.agg [a, b]) ∧ lod t 2 (.ptr id 2) = some (.agg [c, d]) ∧ lod1 t (.ptr id 0) = some a ∧ lod1 t (.ptr id 1) = some b ∧ lod1 t (.ptr id 2) = some c ∧ lod1 t (.ptr id 3) = some d ∧ ltN id t :=
  ⟨by simp [lod, h], by simp [lod, h], by simp [lod, h], by simp [lod1, h], by simp [lod1, h], by simp [lod1, h], by simp [lod1, h], St.get_lt h⟩
theorem box_dg (s : St) (a b c d : AV) (hK : Keep (s.push (.row [a, b, c, d] true)) t) : lod t 4 (.ptr s.next 0) = some (.agg [a, b, c, d]) ∧ lod t 2 (.ptr s.next 0) = some (.agg [a, b]) ∧ lod t 2 (.ptr s.next 2) = some (.agg [c, d]) ∧ lod1 t (.ptr s.next 0) = some a ∧ lod1 t (.ptr s.next 1) = some b ∧ lod1 t (.ptr s.next 2) = some c ∧ lod1 t (.ptr s.next 3) = some d ∧ ltN s.next t :=
  row4_lods (hK.blk (St.get_push_new s _))
structure DgR (t : St) (a b c d : AV) (D : DDg) : Prop where
  r1 : read dotC t a = some D.all.v
  r2 : read dotC t b = some D.all.c
  r3 : read dotC t c = some D.gone.v
  r4 : read dotC t d = some D.gone.c
theorem DgR.mono {a b c d : AV} {D : DDg} (h : DgR t a b c d D) (k : ∀ id b, t.get id = some b → u.get id = some b) : DgR u a b c d D := ⟨read_mono h.r1 k, read_mono h.r2 k, read_mono h.r3 k, read_mono h.r4 k⟩
theorem DgR.keep {a b c d : AV} {D : DDg} (h : DgR t a b c d D) (k : Keep t u) : DgR u a b c d D := h.mono fun _ _ => k.blk
theorem DgR.low {a b c d : AV} {D : DDg} (h : DgR s a b c d D) : DgR (lowd s) a b c d D := ⟨read_low' h.r1, read_low' h.r2, read_low' h.r3, read_low' h.r4⟩
theorem DgR.box {a b c d : AV} {D : DDg} (h : DgR t a b c d D) : boxV 4 (.agg [a, b, c, d]) = some (fun id => .ptr id 0, .row [a, b, c, d] true) := boxV_4 (read_oneD h.r1).2 (read_oneD h.r2).2 (read_oneD h.r3).2 (read_oneD h.r4).2
theorem DgR.nils : DgR t .nils .nils .nils .nils ⟨⟨[], []⟩, ⟨[], []⟩⟩ := ⟨rfl, rfl, rfl, rfl⟩
theorem DgR.ground {a b c d : AV} {D : DDg} (h : DgR t a b c d D) (h1 : a.ground = true) (h2 : b.ground = true) (h3 : c.ground = true) (h4 : d.ground = true) : DgR u a b c d D := by
  obtain ⟨rfl, e1⟩ := read_ground h.r1 h1
  obtain ⟨rfl, e2⟩ := read_ground h.r2 h2
  obtain ⟨rfl, e3⟩ := read_ground h.r3 h3
  obtain ⟨rfl, e4⟩ := read_ground h.r4 h4
  exact ⟨by rw [e1]; rfl, by rw [e2]; rfl, by rw [e3]; rfl, by rw [e4]; rfl⟩
theorem sto_dg {n : Nat} {s : St} (h : sameN n s) {a b c d : AV} {D : DDg} {u : St} (k : DgR u a b c d D) : sto (s.push (.row [.nils, .nils, .nils, .nils] true)) 4 (.ptr n 0) (.agg [a, b, c, d]) = some (.und, s.lowed.push (.row [a, b, c, d] true)) := by
  unfold sameN at h
  subst h
  simp [sto, St.get_push_new, push_put, AV.cells, (read_oneD k.r1).2, (read_oneD k.r2).2, (read_oneD k.r3).2, (read_oneD k.r4).2, setAt]
theorem sto_row4 {id : Nat} {x1 x2 x3 x4 a b c d : AV} (h : t.get id = some (.row [x1, x2, x3, x4] true)) {D : DDg} {u : St} (k : DgR u a b c d D) : sto t 4 (.ptr id 0) (.agg [a, b, c, d]) = some (.und, t.put id (.row [a, b, c, d] true)) := by
  simp [sto, h, AV.cells, (read_oneD k.r1).2, (read_oneD k.r2).2, (read_oneD k.r3).2, (read_oneD k.r4).2, setAt]
theorem fstep_q0 {a b : AV} (ha : a.one = true) (hb : b.one = true) (w x y z : AV) (K : List AV → Option (List AV)) : fstep [w, x, y, z] 0 2 (.agg [a, b]) K = K [a, b, y, z] := by
  simp [fstep, AV.cells, ha, hb, setAt]
theorem fstep_q2 {a b : AV} (ha : a.one = true) (hb : b.one = true) (w x y z : AV) (K : List AV → Option (List AV)) : fstep [w, x, y, z] 2 2 (.agg [a, b]) K = K [w, x, a, b] := by
  simp [fstep, AV.cells, ha, hb, setAt]
structure DgL (D : DDg) (n : Nat) : Prop where
  l1 : D.all.v.length ≤ n
  l2 : D.all.c.length ≤ n
  l3 : D.gone.v.length ≤ n
  l4 : D.gone.c.length ≤ n
theorem lim_1000 {n : Nat} (h : n ≤ 1000) : n ≤ lim := by unfold lim; omega
theorem lim_80 {n : Nat} (h : n ≤ 1000) : n ≤ 80000 := by omega
noncomputable def R_Rgw : Con := runFn (tb [(55, R_JLast), (40, R_JHas)]) a39
theorem s_Rgw : SoundAt Tryz.prog 39 R_Rgw := run_sound (tb_sound (l := [(55, R_JLast), (40, R_JHas)]) (by simpa using ⟨s_JLast, s_JHas⟩)) mixed Tryz.func39 k39 c39
theorem n_Rgw : noNxtC a39.body = true := by kernel_rfl

theorem wrapI {x : Int} (h1 : -4611686018427387904 ≤ x) (h2 : x < 4611686018427387904) : IntKind.i64.wrap x = x := by
  have e : (2 : Int) ^ IntKind.i64.bits = 18446744073709551616 := by decide
  have e3 : (2 : Int) ^ (IntKind.i64.bits - 1) = 9223372036854775808 := by decide
  have e2 : IntKind.i64.signed = true := rfl
  simp only [IntKind.wrap, e, e2, e3]
  simp
  omega
theorem jwithin_no_v {a b : DCx} {i : Nat} {x : Dot} (hx : a.v[i]? = some x) (h : ¬ x.c ≤ vget b.v x.r) : jwithin a b = false := by
  unfold jwithin
  rw [all_false hx (decide_eq_false h), Bool.false_and]
theorem jwithin_no_c {a b : DCx} {i : Nat} {x : Dot} (hx : a.c[i]? = some x) (h : jhas b x = false) : jwithin a b = false := by
  unfold jwithin
  rw [all_false hx h, Bool.and_false]
theorem jwithin_yes {a b : DCx} (h1 : ∀ k y, k < a.v.length → a.v[k]? = some y → y.c ≤ vget b.v y.r) (h2 : ∀ k y, k < a.c.length → a.c[k]? = some y → jhas b y = true) : jwithin a b = true := by
  unfold jwithin
  rw [all_at fun k y hk hy => decide_eq_true (h1 k y hk hy), all_at h2]
  rfl
theorem w_Rgw {s : St} {v w : AV} {X : DCx} (hv : read dotC s v = some X.v) (hw : read dotC s w = some X.c) (hlv : X.v.length ≤ lim) (hlw : X.c.length ≤ lim) {v' w' : AV} {Y : DCx} (kv : read dotC s v' = some Y.v) (kw : read dotC s w' = some Y.c) (klv : Y.v.length ≤ lim) (klw : Y.c.length ≤ lim) (hcx : isC X = true) (hcy : isC Y = true) : ∀ env : Env, elen env = a39.ntmps → (∀ i x_, [.agg [v, w], .agg [v', w']][i]? = some x_ → E env i = x_) → awp (tb [(55, R_JLast), (40, R_JHas)]) a39.body (fun x e t => (∀ i, x ≠ .exit i) ∧ aresults e t a39.results = some (.bool (jwithin X Y)) ∧ Keep s t) env s := by
  intro env hlen ha
  have h0 : E env 0 = _ := ha 0 _ rfl
  have h1 : E env 1 = _ := ha 1 _ rfl
  have hlen : elen env = _ := hlen
  simp only [a39] at hlen
  unfold a39
  try dsimp only [oO, oG]
  have hbx := boxV_2 (read_oneD hv).2 (read_oneD hw).2
  have hby := boxV_2 (read_oneD kv).2 (read_oneD kw).2
  have hK2 : Keep s ((s.push (.row [v, w] true)).push (.row [v', w'] true)) := ((Keep.refl s).push _).push _
  have hK12 : Keep (s.push (.row [v, w] true)) ((s.push (.row [v, w] true)).push (.row [v', w'] true)) := (Keep.refl _).push _
  have hLv := lenV_read hv
  have hLc := lenV_read hw
  have hLd := lenV_read kw
  have cx := ((isC_iff X).1 hcx).1
  have cy := ((isC_iff Y).1 hcy).1
  obtain ⟨vx, _, wx⟩ := (cvalid_iff X).1 cx
  have vy := ((cvalid_iff Y).1 cy).1
  have vxm := ((vvalid_iff X.v).1 vx).2
  simp (config := {contextual := true, maxDischargeDepth := 12}) only [tb_at, h0, h1, hlen, hbx, hby, ↓bD, bU, forall_const, bS, implies_true, isNx, eq_self, ↓wp_cond, ↓wp_loop, ↓reduceIte, reduceCtorEq, Nat.reduceEqDiff, Nat.reduceLT, Nat.reduceAdd, Nat.reduceMul, bT, ↓sg_bsl, ↓st_callf, bX, List.cons_append, List.nil_append, ↓st_appf, bY, slcV_nils0N, slcV_sl0N, bslV_0N, bin_shr1, bsl_nd]
  obtain ⟨I, hI⟩ : ∃ I : Nat → Env → St → Prop, ∀ n e t, I n e t = (Keep ((s.push (.row [v, w] true)).push (.row [v', w'] true)) t ∧ ∃ i : Nat, n + i = X.v.length ∧ elen e = 83 ∧ E e 2 = .ptr s.next 0 ∧ E e 3 = .ptr (s.push (.row [v, w] true)).next 0 ∧ E e 5 = .int .i64 (i : Int) ∧ ∀ k y, k < i → X.v[k]? = some y → y.c ≤ vget Y.v y.r) := ⟨fun n e t => (Keep ((s.push (.row [v, w] true)).push (.row [v', w'] true)) t ∧ ∃ i : Nat, n + i = X.v.length ∧ elen e = 83 ∧ E e 2 = .ptr s.next 0 ∧ E e 3 = .ptr (s.push (.row [v, w] true)).next 0 ∧ E e 5 = .int .i64 (i : Int) ∧ ∀ k y, k < i → X.v[k]? = some y → y.c ≤ vget Y.v y.r), fun _ _ _ => rfl⟩
  refine lwp_inv I (n := X.v.length) ?_ ?_
  · rw [hI]
    exact ⟨.refl _, 0, by omega, (by simp only [bE, Nat.reduceEqDiff, bN, Nat.reduceLT, hlen]; try rfl), (by simp only [bE, Nat.reduceEqDiff, bN, Nat.reduceLT, hlen]; try rfl), (by simp only [bE, Nat.reduceEqDiff, bN, Nat.reduceLT, hlen]; try rfl), (by simp only [bE, Nat.reduceEqDiff, bN, Nat.reduceLT, hlen]; try rfl), fun k y hk => by omega⟩
  clear h0 h1 hlen
  intro n e t hi
  rw [hI] at hi
  obtain ⟨hK, i, hni, he, e2, e3, e5, hpre⟩ := hi
  obtain ⟨c1, c2, c3, c4⟩ := box_ctx s v w (hK12.trans hK)
  obtain ⟨e1_, e2_, e3_, e4_⟩ := box_ctx (s.push (.row [v, w] true)) v' w' hK
  have hKt := hK2.trans hK
  by_cases hlt : i < X.v.length
  · obtain ⟨x, hx⟩ := getsome hlt
    have hw2 := wrap_add1 (n := i) (by unfold lim at hlv; omega)
    obtain ⟨a1, a2, a3, a4⟩ := dot_lods hv hKt hx
    have i1 := dot_idx hv hx .i64
    have q1 := q_JLast false (hKt.read kv) klv x.r
    have hxv := (valid_iff x).1 (vxm x (mem_at hx))
    have hnn := vget_nn vy x.r
    have hwv := wrap_vget vy x.r
    by_cases hle : x.c ≤ vget Y.v x.r
    · have z1 := eq_true hle
      simp (config := {contextual := true, maxDischargeDepth := 12}) only [tb_at, he, e2, e3, e5, hLv, hlt, hw2, a1, a2, a3, a4, i1, q1, z1, c1, c2, c3, c4, e1_, e2_, e3_, e4_, ↓bD, bU, forall_const, bS, implies_true, isNx, eq_self, ↓wp_cond, ↓wp_loop, ↓reduceIte, reduceCtorEq, Nat.reduceEqDiff, Nat.reduceLT, Nat.reduceAdd, Nat.reduceMul, bT, ↓sg_bsl, ↓st_callf, bX, List.cons_append, List.nil_append, ↓st_appf, bY, slcV_nils0N, slcV_sl0N, bslV_0N, bin_shr1, bsl_nd]
      refine ⟨n - 1, by omega, ?_⟩
      rw [hI]
      exact ⟨hK, i + 1, by omega, (by simp only [bE, Nat.reduceEqDiff, bN, Nat.reduceLT, he, e2, e3, e5]; try rfl), (by simp only [bE, Nat.reduceEqDiff, bN, Nat.reduceLT, he, e2, e3, e5]; try rfl), (by simp only [bE, Nat.reduceEqDiff, bN, Nat.reduceLT, he, e2, e3, e5]; try rfl), (by simp only [bE, Nat.reduceEqDiff, bN, Nat.reduceLT, he, e2, e3, e5]; try rfl), pre_next (P := fun k y => y.c ≤ vget Y.v y.r) hx hpre hle⟩
    · have z1 := eq_false hle
      have hws : IntKind.i64.wrap (x.c - vget Y.v x.r) = x.c - vget Y.v x.r := wrapI (by omega) (by omega)
      rw [jwithin_no_v hx hle]
      by_cases hbig : (Y.c.length : Int) < x.c - vget Y.v x.r
      · have z2 := eq_true hbig
        simp (config := {contextual := true, maxDischargeDepth := 12}) only [tb_at, he, e2, e3, e5, hLv, hLd, hlt, hw2, a1, a2, a3, a4, i1, q1, z1, z2, hws, c1, c2, c3, c4, e1_, e2_, e3_, e4_, ↓bD, bU, forall_const, bS, implies_true, isNx, eq_self, ↓wp_cond, ↓wp_loop, ↓reduceIte, reduceCtorEq, Nat.reduceEqDiff, Nat.reduceLT, Nat.reduceAdd, Nat.reduceMul, bT, ↓sg_bsl, ↓st_callf, bX, List.cons_append, List.nil_append, ↓st_appf, bY, slcV_nils0N, slcV_sl0N, bslV_0N, bin_shr1, bsl_nd]
        all_goals first | exact hKt | skip
      · have z2 := eq_false hbig
        simp (config := {contextual := true, maxDischargeDepth := 12}) only [tb_at, he, e2, e3, e5, hLv, hLd, hlt, hw2, a1, a2, a3, a4, i1, q1, z1, z2, hws, hwv, c1, c2, c3, c4, e1_, e2_, e3_, e4_, ↓bD, bU, forall_const, bS, implies_true, isNx, eq_self, ↓wp_cond, ↓wp_loop, ↓reduceIte, reduceCtorEq, Nat.reduceEqDiff, Nat.reduceLT, Nat.reduceAdd, Nat.reduceMul, bT, ↓sg_bsl, ↓st_callf, bX, List.cons_append, List.nil_append, ↓st_appf, bY, slcV_nils0N, slcV_sl0N, bslV_0N, bin_shr1, bsl_nd]
        obtain ⟨i0, hi0⟩ : ∃ i0, i0 = i := ⟨_, rfl⟩
        obtain ⟨t0, ht0⟩ : ∃ t0, t0 = t := ⟨_, rfl⟩
        rw [← hi0] at e5 i1 a1 a2 a3 hx
        rw [← ht0] at hK hKt a1 a2 a3 a4 c1 c2 c3 c4 e1_ e2_ e3_ e4_
        obtain ⟨I2, hI2⟩ : ∃ I : Nat → Env → St → Prop, ∀ n e t, I n e t = (t = t0 ∧ ∃ i : Nat, n + i = 0 ∧ elen e = 83 ∧ E e 2 = .ptr s.next 0 ∧ E e 3 = .ptr (s.push (.row [v, w] true)).next 0 ∧ E e 5 = .int .i64 (i0 : Int) ∧ E e 7 = .int .i64 (vget Y.v x.r + 1)) := ⟨fun n e t => (t = t0 ∧ ∃ i : Nat, n + i = 0 ∧ elen e = 83 ∧ E e 2 = .ptr s.next 0 ∧ E e 3 = .ptr (s.push (.row [v, w] true)).next 0 ∧ E e 5 = .int .i64 (i0 : Int) ∧ E e 7 = .int .i64 (vget Y.v x.r + 1)), fun _ _ _ => rfl⟩
        refine lwp_inv I2 (n := 0) ?_ ?_
        · rw [hI2]
          exact ⟨ht0.symm, 0, by omega, (by simp only [bE, Nat.reduceEqDiff, bN, Nat.reduceLT, he]; try rfl), (by simp only [bE, Nat.reduceEqDiff, bN, Nat.reduceLT, he, e2]; try rfl), (by simp only [bE, Nat.reduceEqDiff, bN, Nat.reduceLT, he, e3]; try rfl), (by simp only [bE, Nat.reduceEqDiff, bN, Nat.reduceLT, he, e5]; try rfl), (by simp only [bE, Nat.reduceEqDiff, bN, Nat.reduceLT, he]; try rfl)⟩
        clear he e2 e3 e5 hni
        intro n2 e t hi
        rw [hI2] at hi
        obtain ⟨hKe, j, hni, he, e2, e3, e5, e7⟩ := hi
        subst hKe
        have hkle := eq_true (show vget Y.v x.r + 1 ≤ x.c by omega)
        have q2 := q_JHas false (hKt.read kv) (hKt.read kw) klv klw ⟨x.r, vget Y.v x.r + 1⟩
        rw [jhas_next hcy] at q2
        simp (config := {contextual := true, maxDischargeDepth := 12}) only [tb_at, he, e2, e3, e5, e7, a1, a2, a3, a4, i1, q2, hkle, ap_build, fillP_nil, fillP_cons, notV_bool, Bool.not_false, c1, c2, c3, c4, e1_, e2_, e3_, e4_, ↓bD, bU, forall_const, bS, implies_true, isNx, eq_self, ↓wp_cond, ↓wp_loop, ↓reduceIte, reduceCtorEq, Nat.reduceEqDiff, Nat.reduceLT, Nat.reduceAdd, Nat.reduceMul, bT, ↓sg_bsl, ↓st_callf, bX, List.cons_append, List.nil_append, ↓st_appf, bY, slcV_nils0N, slcV_sl0N, bslV_0N, bin_shr1, bsl_nd]
        all_goals first | exact hKt | skip
  · obtain rfl : i = X.v.length := by omega
    simp (config := {contextual := true, maxDischargeDepth := 12}) only [tb_at, he, e2, e3, e5, hLv, hlt, c1, c2, c3, c4, e1_, e2_, e3_, e4_, ↓bD, bU, forall_const, bS, implies_true, isNx, eq_self, ↓wp_cond, ↓wp_loop, ↓reduceIte, reduceCtorEq, Nat.reduceEqDiff, Nat.reduceLT, Nat.reduceAdd, Nat.reduceMul, bT, ↓sg_bsl, ↓st_callf, bX, List.cons_append, List.nil_append, ↓st_appf, bY, slcV_nils0N, slcV_sl0N, bslV_0N, bin_shr1, bsl_nd]
    obtain ⟨I3, hI3⟩ : ∃ I : Nat → Env → St → Prop, ∀ n e t, I n e t = (Keep ((s.push (.row [v, w] true)).push (.row [v', w'] true)) t ∧ ∃ i : Nat, n + i = X.c.length ∧ elen e = 83 ∧ E e 2 = .ptr s.next 0 ∧ E e 3 = .ptr (s.push (.row [v, w] true)).next 0 ∧ E e 8 = .int .i64 (i : Int) ∧ ∀ k y, k < i → X.c[k]? = some y → jhas Y y = true) := ⟨fun n e t => (Keep ((s.push (.row [v, w] true)).push (.row [v', w'] true)) t ∧ ∃ i : Nat, n + i = X.c.length ∧ elen e = 83 ∧ E e 2 = .ptr s.next 0 ∧ E e 3 = .ptr (s.push (.row [v, w] true)).next 0 ∧ E e 8 = .int .i64 (i : Int) ∧ ∀ k y, k < i → X.c[k]? = some y → jhas Y y = true), fun _ _ _ => rfl⟩
    refine lwp_inv I3 (n := X.c.length) ?_ ?_
    · rw [hI3]
      exact ⟨hK, 0, by omega, (by simp only [bE, Nat.reduceEqDiff, bN, Nat.reduceLT, he]; try rfl), (by simp only [bE, Nat.reduceEqDiff, bN, Nat.reduceLT, he, e2]; try rfl), (by simp only [bE, Nat.reduceEqDiff, bN, Nat.reduceLT, he, e3]; try rfl), (by simp only [bE, Nat.reduceEqDiff, bN, Nat.reduceLT, he]; try rfl), fun k y hk => by omega⟩
    clear hni he e2 e3 e5
    clear hK hKt c1 c2 c3 c4 e1_ e2_ e3_ e4_
    intro n e t hi
    rw [hI3] at hi
    obtain ⟨hK, i, hni, he, e2, e3, e8, hpre2⟩ := hi
    obtain ⟨c1, c2, c3, c4⟩ := box_ctx s v w (hK12.trans hK)
    obtain ⟨e1_, e2_, e3_, e4_⟩ := box_ctx (s.push (.row [v, w] true)) v' w' hK
    have hKt := hK2.trans hK
    by_cases hlt : i < X.c.length
    · obtain ⟨x, hx⟩ := getsome hlt
      have hw2 := wrap_add1 (n := i) (by unfold lim at hlw; omega)
      obtain ⟨a1, a2, a3, a4⟩ := dot_lods hw hKt hx
      have i1 := dot_idx hw hx .i64
      have q2 := q_JHas false (hKt.read kv) (hKt.read kw) klv klw x
      cases hj : jhas Y x
      · rw [hj] at q2
        rw [jwithin_no_c hx hj]
        simp (config := {contextual := true, maxDischargeDepth := 12}) only [tb_at, he, e2, e3, e8, hLc, hlt, a1, a4, i1, q2, notV_bool, Bool.not_false, c1, c2, c3, c4, e1_, e2_, e3_, e4_, ↓bD, bU, forall_const, bS, implies_true, isNx, eq_self, ↓wp_cond, ↓wp_loop, ↓reduceIte, reduceCtorEq, Nat.reduceEqDiff, Nat.reduceLT, Nat.reduceAdd, Nat.reduceMul, bT, ↓sg_bsl, ↓st_callf, bX, List.cons_append, List.nil_append, ↓st_appf, bY, slcV_nils0N, slcV_sl0N, bslV_0N, bin_shr1, bsl_nd]
        all_goals first | exact hKt | skip
      · rw [hj] at q2
        simp (config := {contextual := true, maxDischargeDepth := 12}) only [tb_at, he, e2, e3, e8, hLc, hlt, hw2, a1, a4, i1, q2, notV_bool, Bool.not_true, c1, c2, c3, c4, e1_, e2_, e3_, e4_, ↓bD, bU, forall_const, bS, implies_true, isNx, eq_self, ↓wp_cond, ↓wp_loop, ↓reduceIte, reduceCtorEq, Nat.reduceEqDiff, Nat.reduceLT, Nat.reduceAdd, Nat.reduceMul, bT, ↓sg_bsl, ↓st_callf, bX, List.cons_append, List.nil_append, ↓st_appf, bY, slcV_nils0N, slcV_sl0N, bslV_0N, bin_shr1, bsl_nd]
        refine ⟨n - 1, by omega, ?_⟩
        rw [hI3]
        exact ⟨hK, i + 1, by omega, (by simp only [bE, Nat.reduceEqDiff, bN, Nat.reduceLT, he, e2, e3, e8]; try rfl), (by simp only [bE, Nat.reduceEqDiff, bN, Nat.reduceLT, he, e2, e3, e8]; try rfl), (by simp only [bE, Nat.reduceEqDiff, bN, Nat.reduceLT, he, e2, e3, e8]; try rfl), (by simp only [bE, Nat.reduceEqDiff, bN, Nat.reduceLT, he, e2, e3, e8]; try rfl), pre_next (P := fun k y => jhas Y y = true) hx hpre2 hj⟩
    · obtain rfl : i = X.c.length := by omega
      rw [jwithin_yes hpre hpre2]
      simp (config := {contextual := true, maxDischargeDepth := 12}) only [tb_at, he, e2, e3, e8, hLc, hlt, c1, c2, c3, c4, e1_, e2_, e3_, e4_, ↓bD, bU, forall_const, bS, implies_true, isNx, eq_self, ↓wp_cond, ↓wp_loop, ↓reduceIte, reduceCtorEq, Nat.reduceEqDiff, Nat.reduceLT, Nat.reduceAdd, Nat.reduceMul, bT, ↓sg_bsl, ↓st_callf, bX, List.cons_append, List.nil_append, ↓st_appf, bY, slcV_nils0N, slcV_sl0N, bslV_0N, bin_shr1, bsl_nd]
      all_goals first | exact hKt | skip
theorem q_Rgw (cl : Bool) {s : St} {v w : AV} {X : DCx} (hv : read dotC s v = some X.v) (hw : read dotC s w = some X.c) (hlv : X.v.length ≤ lim) (hlw : X.c.length ≤ lim) {v' w' : AV} {Y : DCx} (kv : read dotC s v' = some Y.v) (kw : read dotC s w' = some Y.c) (klv : Y.v.length ≤ lim) (klw : Y.c.length ≤ lim) (hcx : isC X = true) (hcy : isC Y = true) : acall R_Rgw cl [.agg [v, w], .agg [v', w']] s = some (.bool (jwithin X Y), s) := run_same n_Rgw (by simp [a39]) rfl (w_Rgw (s := lowd s) (read_low' hv) (read_low' hw) hlv hlw (read_low' kv) (read_low' kw) klv klw hcx hcy)
theorem dg_dec (D G : DDg) : (decide (D.all = G.all) && decide (D.gone = G.gone)) = decide (D = G) := by
  rw [Bool.eq_iff_iff]
  simp only [Bool.and_eq_true, decide_eq_true_eq]
  constructor
  · rintro ⟨h1, h2⟩
    cases D; cases G; simp only at h1 h2; rw [h1, h2]
  · rintro rfl; exact ⟨rfl, rfl⟩
noncomputable def R_RgSame : Con := runFn (tb [(47, R_JSameC)]) a26
theorem s_RgSame : SoundAt Tryz.prog 26 R_RgSame := run_sound (tb_sound (l := [(47, R_JSameC)]) (by simpa using s_JSameC)) mixed Tryz.func26 k26 c26
theorem n_RgSame : noNxtC a26.body = true := by kernel_rfl
theorem w_RgSame {s : St} {a1 b1 c1 d1 : AV} {D : DDg} (hD : DgR s a1 b1 c1 d1 D) (hDl : DgL D 1000) {a2 b2 c2 d2 : AV} {G : DDg} (hG : DgR s a2 b2 c2 d2 G) (hGl : DgL G 1000) : ∀ env : Env, elen env = a26.ntmps → (∀ i x_, [.agg [a1, b1, c1, d1], .agg [a2, b2, c2, d2]][i]? = some x_ → E env i = x_) → awp (tb [(47, R_JSameC)]) a26.body (fun x e t => (∀ i, x ≠ .exit i) ∧ aresults e t a26.results = some (.bool (decide (D = G))) ∧ Keep s t) env s := by
  intro env hlen ha
  have h0 : E env 0 = _ := ha 0 _ rfl
  have h1 : E env 1 = _ := ha 1 _ rfl
  have hlen : elen env = _ := hlen
  simp only [a26] at hlen
  unfold a26
  try dsimp only [oO, oG]
  have hbx := hD.box
  have hby := hG.box
  have hK2 : Keep s ((s.push (.row [a1, b1, c1, d1] true)).push (.row [a2, b2, c2, d2] true)) := ((Keep.refl s).push _).push _
  have hK12 : Keep (s.push (.row [a1, b1, c1, d1] true)) ((s.push (.row [a1, b1, c1, d1] true)).push (.row [a2, b2, c2, d2] true)) := (Keep.refl _).push _
  obtain ⟨p1, p2, p3, p4, p5, p6, p7, p8⟩ := box_dg s a1 b1 c1 d1 hK12
  obtain ⟨r1, r2, r3, r4, r5, r6, r7, r8⟩ := box_dg (s.push (.row [a1, b1, c1, d1] true)) a2 b2 c2 d2 (.refl _)
  have q1 := q_JSameC false (hK2.read hD.r1) (hK2.read hD.r2) (lim_1000 hDl.l1) (lim_1000 hDl.l2) (hK2.read hG.r1) (hK2.read hG.r2) (lim_1000 hGl.l1) (lim_1000 hGl.l2)
  have q2 := q_JSameC false (hK2.read hD.r3) (hK2.read hD.r4) (lim_1000 hDl.l3) (lim_1000 hDl.l4) (hK2.read hG.r3) (hK2.read hG.r4) (lim_1000 hGl.l3) (lim_1000 hGl.l4)
  rw [← dg_dec]
  simp (config := {contextual := true, maxDischargeDepth := 12}) only [tb_at, h0, h1, hlen, q1, q2, hbx, hby, p1, p2, p3, p4, p5, p6, p7, p8, r1, r2, r3, r4, r5, r6, r7, r8, ↓bD, bU, forall_const, bS, implies_true, isNx, eq_self, ↓wp_cond, ↓wp_loop, ↓reduceIte, reduceCtorEq, Nat.reduceEqDiff, Nat.reduceLT, Nat.reduceAdd, Nat.reduceMul, bT, ↓sg_bsl, ↓st_callf, bX, List.cons_append, List.nil_append, ↓st_appf, bY, slcV_nils0N, slcV_sl0N, bslV_0N, bin_shr1, bsl_nd]
  all_goals first | exact hK2 | skip
theorem q_RgSame (cl : Bool) {s : St} {a1 b1 c1 d1 : AV} {D : DDg} (hD : DgR s a1 b1 c1 d1 D) (hDl : DgL D 1000) {a2 b2 c2 d2 : AV} {G : DDg} (hG : DgR s a2 b2 c2 d2 G) (hGl : DgL G 1000) : acall R_RgSame cl [.agg [a1, b1, c1, d1], .agg [a2, b2, c2, d2]] s = some (.bool (decide (D = G)), s) := run_same n_RgSame (by simp [a26]) rfl (w_RgSame (s := lowd s) hD.low hDl hG.low hGl)
noncomputable def R_RgWithin : Con := runFn (tb [(39, R_Rgw)]) a22
theorem s_RgWithin : SoundAt Tryz.prog 22 R_RgWithin := run_sound (tb_sound (l := [(39, R_Rgw)]) (by simpa using s_Rgw)) mixed Tryz.func22 k22 c22
theorem n_RgWithin : noNxtC a22.body = true := by kernel_rfl

theorem dgV_parts {D : DDg} (h : dgV D = true) : isC D.all = true ∧ isC D.gone = true ∧ jwithin D.gone D.all = true := by
  unfold dgV at h
  simpa only [Bool.and_eq_true] using h
theorem w_RgWithin {s : St} {a1 b1 c1 d1 : AV} {D : DDg} (hD : DgR s a1 b1 c1 d1 D) (hDl : DgL D 1000) {a2 b2 c2 d2 : AV} {G : DDg} (hG : DgR s a2 b2 c2 d2 G) (hGl : DgL G 1000) (hvD : dgV D = true) (hvG : dgV G = true) : ∀ env : Env, elen env = a22.ntmps → (∀ i x_, [.agg [a1, b1, c1, d1], .agg [a2, b2, c2, d2]][i]? = some x_ → E env i = x_) → awp (tb [(39, R_Rgw)]) a22.body (fun x e t => (∀ i, x ≠ .exit i) ∧ aresults e t a22.results = some (.bool (dgWithin D G)) ∧ Keep s t) env s := by
  intro env hlen ha
  have h0 : E env 0 = _ := ha 0 _ rfl
  have h1 : E env 1 = _ := ha 1 _ rfl
  have hlen : elen env = _ := hlen
  simp only [a22] at hlen
  unfold a22
  try dsimp only [oO, oG]
  have hbx := hD.box
  have hby := hG.box
  have hK2 : Keep s ((s.push (.row [a1, b1, c1, d1] true)).push (.row [a2, b2, c2, d2] true)) := ((Keep.refl s).push _).push _
  have hK12 : Keep (s.push (.row [a1, b1, c1, d1] true)) ((s.push (.row [a1, b1, c1, d1] true)).push (.row [a2, b2, c2, d2] true)) := (Keep.refl _).push _
  obtain ⟨p1, p2, p3, p4, p5, p6, p7, p8⟩ := box_dg s a1 b1 c1 d1 hK12
  obtain ⟨r1, r2, r3, r4, r5, r6, r7, r8⟩ := box_dg (s.push (.row [a1, b1, c1, d1] true)) a2 b2 c2 d2 (.refl _)
  obtain ⟨x1, x2, _⟩ := dgV_parts hvD
  obtain ⟨y1, y2, _⟩ := dgV_parts hvG
  have q1 := q_Rgw false (hK2.read hD.r1) (hK2.read hD.r2) (lim_1000 hDl.l1) (lim_1000 hDl.l2) (hK2.read hG.r1) (hK2.read hG.r2) (lim_1000 hGl.l1) (lim_1000 hGl.l2) x1 y1
  have q2 := q_Rgw false (hK2.read hD.r3) (hK2.read hD.r4) (lim_1000 hDl.l3) (lim_1000 hDl.l4) (hK2.read hG.r3) (hK2.read hG.r4) (lim_1000 hGl.l3) (lim_1000 hGl.l4) x2 y2
  unfold dgWithin
  simp (config := {contextual := true, maxDischargeDepth := 12}) only [tb_at, h0, h1, hlen, q1, q2, hbx, hby, p1, p2, p3, p4, p5, p6, p7, p8, r1, r2, r3, r4, r5, r6, r7, r8, ↓bD, bU, forall_const, bS, implies_true, isNx, eq_self, ↓wp_cond, ↓wp_loop, ↓reduceIte, reduceCtorEq, Nat.reduceEqDiff, Nat.reduceLT, Nat.reduceAdd, Nat.reduceMul, bT, ↓sg_bsl, ↓st_callf, bX, List.cons_append, List.nil_append, ↓st_appf, bY, slcV_nils0N, slcV_sl0N, bslV_0N, bin_shr1, bsl_nd]
  all_goals first | exact hK2 | skip
theorem q_RgWithin (cl : Bool) {s : St} {a1 b1 c1 d1 : AV} {D : DDg} (hD : DgR s a1 b1 c1 d1 D) (hDl : DgL D 1000) {a2 b2 c2 d2 : AV} {G : DDg} (hG : DgR s a2 b2 c2 d2 G) (hGl : DgL G 1000) (hvD : dgV D = true) (hvG : dgV G = true) : acall R_RgWithin cl [.agg [a1, b1, c1, d1], .agg [a2, b2, c2, d2]] s = some (.bool (dgWithin D G), s) := run_same n_RgWithin (by simp [a22]) rfl (w_RgWithin (s := lowd s) hD.low hDl hG.low hGl hvD hvG)

theorem diff_snoc {l : List Nd} {D : DDg} {i : Nat} {x : Nd} (hx : l[i]? = some x) : diffD (l.take (i + 1)) D = diffD (l.take i) D ++ (if lackD D x = true then [x] else []) := by
  rw [take_snoc hx]
  unfold diffD
  rw [List.filter_append]
  congr 1
  by_cases h : lackD D x = true
  · rw [if_pos h]; simp [h]
  · rw [if_neg h]; simp [h]
theorem diff_len (l : List Nd) (D : DDg) : (diffD l D).length ≤ l.length := List.length_filter_le _ _
noncomputable def R_RgDiff : Con := runFn (tb [(40, R_JHas)]) a17
theorem s_RgDiff : SoundAt Tryz.prog 17 R_RgDiff := run_sound (tb_sound (l := [(40, R_JHas)]) (by simpa using s_JHas)) mixed Tryz.func17 k17 c17
theorem n_RgDiff : noNxtC a17.body = true := by kernel_rfl
theorem w_RgDiff {s : St} {vl : AV} {l : List Nd} (hr : read ndC s vl = some l) (hl : l.length ≤ 1000) {a1 b1 c1 d1 : AV} {D : DDg} (hD : DgR s a1 b1 c1 d1 D) (hDl : DgL D 1000) : ∀ env : Env, elen env = a17.ntmps → (∀ i x_, [vl, .agg [a1, b1, c1, d1]][i]? = some x_ → E env i = x_) → awp (tb [(40, R_JHas)]) a17.body (fun x e t => (∀ i, x ≠ .exit i) ∧ Keep s t ∧ ∃ r, aresults e t a17.results = some r ∧ Own ndC s t r (diffD l D)) env s := by
  intro env hlen ha
  have h0 : E env 0 = _ := ha 0 _ rfl
  have h1 : E env 1 = _ := ha 1 _ rfl
  have hlen : elen env = _ := hlen
  simp only [a17] at hlen
  unfold a17
  try dsimp only [oO, oG]
  have hbx := hD.box
  have hK1 : Keep s (s.push (.row [a1, b1, c1, d1] true)) := (Keep.refl s).push _
  obtain ⟨p1, p2, p3, p4, p5, p6, p7, p8⟩ := box_dg s a1 b1 c1 d1 (.refl _)
  have hL := lenV_read hr
  simp (config := {contextual := true, maxDischargeDepth := 12}) only [tb_at, h0, h1, hlen, hbx, hL, ↓bD, bU, forall_const, bS, implies_true, isNx, eq_self, ↓wp_cond, ↓wp_loop, ↓reduceIte, reduceCtorEq, Nat.reduceEqDiff, Nat.reduceLT, Nat.reduceAdd, Nat.reduceMul, bT, ↓sg_bsl, ↓st_callf, bX, List.cons_append, List.nil_append, ↓st_appf, bY, slcV_nils0N, slcV_sl0N, bslV_0N, bin_shr1, bsl_nd]
  obtain ⟨I, hI⟩ : ∃ I : Nat → Env → St → Prop, ∀ n e t, I n e t = (Keep (s.push (.row [a1, b1, c1, d1] true)) t ∧ ∃ i : Nat, n + i = l.length ∧ elen e = 49 ∧ E e 0 = vl ∧ E e 3 = .ptr s.next 0 ∧ E e 6 = .int .i64 (i : Int) ∧ Own ndC (s.push (.row [a1, b1, c1, d1] true)) t (E e 5) (diffD (l.take i) D)) := ⟨fun n e t => (Keep (s.push (.row [a1, b1, c1, d1] true)) t ∧ ∃ i : Nat, n + i = l.length ∧ elen e = 49 ∧ E e 0 = vl ∧ E e 3 = .ptr s.next 0 ∧ E e 6 = .int .i64 (i : Int) ∧ Own ndC (s.push (.row [a1, b1, c1, d1] true)) t (E e 5) (diffD (l.take i) D)), fun _ _ _ => rfl⟩
  refine lwp_inv I (n := l.length) ?_ ?_
  · rw [hI]
    exact ⟨.refl _, 0, by omega, (by simp only [bE, Nat.reduceEqDiff, bN, Nat.reduceLT, hlen]; try rfl), (by simp only [bE, Nat.reduceEqDiff, bN, Nat.reduceLT, hlen, h0]; try rfl), (by simp only [bE, Nat.reduceEqDiff, bN, Nat.reduceLT, hlen]; try rfl), (by simp only [bE, Nat.reduceEqDiff, bN, Nat.reduceLT, hlen]; try rfl), by simp only [bE, Nat.reduceEqDiff, bN, Nat.reduceLT, hlen]; exact .nil _ _ _⟩
  clear h0 h1 hlen p1 p2 p3 p4 p5 p6 p7 p8
  intro n e t hi
  rw [hI] at hi
  obtain ⟨hK, i, hni, he, e0, e3, e6, hO⟩ := hi
  have hKt := hK1.trans hK
  obtain ⟨p1, p2, p3, p4, p5, p6, p7, p8⟩ := box_dg s a1 b1 c1 d1 hK
  by_cases hlt : i < l.length
  · obtain ⟨x, hx⟩ := getsome hlt
    have hw2 := wrap_add1 (n := i) (by omega)
    obtain ⟨a1_, a2_, a3_, a5_, a6_, a4_⟩ := nd_lods hr hKt hx
    have i1 := nd_idx hr hx .i64
    have hsn := diff_snoc (D := D) hx
    have q1 := q_JHas false (hKt.read hD.r1) (hKt.read hD.r2) (lim_1000 hDl.l1) (lim_1000 hDl.l2) x.d
    have q2 := q_JHas false (hKt.read hD.r3) (hKt.read hD.r4) (lim_1000 hDl.l3) (lim_1000 hDl.l4) x.d
    have hb : ((diffD (l.take i) D).length + 1) * 48 ≤ roomBytes := by have := diff_len (l.take i) D; rw [List.length_take] at this; unfold roomBytes; omega
    obtain ⟨u1, t1, ap, hKx, hO'⟩ := appV_one (C := ndC) hK hO x 48 hb
    have ap : appV (t.push (.row (Nd.av x) true)) 6 48 (E e 5) (.sl t.next 0 1 (some 1) 6) = some (u1, t1) := ap
    cases hj : jhas D.all x.d
    · rw [hj] at q1
      have hlk : lackD D x = true := by unfold lackD; rw [hj]; rfl
      rw [if_pos hlk] at hsn
      simp (config := {contextual := true, maxDischargeDepth := 12}) only [tb_at, he, e0, e3, e6, hL, hlt, hw2, a1_, a2_, a4_, i1, p1, p2, p3, p8, q1, ap, notV_bool, Bool.not_true, Bool.not_false, ↓bD, bU, forall_const, bS, implies_true, isNx, eq_self, ↓wp_cond, ↓wp_loop, ↓reduceIte, reduceCtorEq, Nat.reduceEqDiff, Nat.reduceLT, Nat.reduceAdd, Nat.reduceMul, bT, ↓sg_bsl, ↓st_callf, bX, List.cons_append, List.nil_append, ↓st_appf, bY, slcV_nils0N, slcV_sl0N, bslV_0N, bin_shr1, bsl_nd]
      refine ⟨n - 1, by omega, ?_⟩
      rw [hI]
      exact ⟨hKx, i + 1, by omega, (by simp only [bE, Nat.reduceEqDiff, bN, Nat.reduceLT, he, e0, e3, e6]; try rfl), (by simp only [bE, Nat.reduceEqDiff, bN, Nat.reduceLT, he, e0, e3, e6]; try rfl), (by simp only [bE, Nat.reduceEqDiff, bN, Nat.reduceLT, he, e0, e3, e6]; try rfl), (by simp only [bE, Nat.reduceEqDiff, bN, Nat.reduceLT, he, e0, e3, e6]; try rfl), by simp only [bE, Nat.reduceEqDiff, bN, Nat.reduceLT, he]; rw [hsn]; exact hO'⟩
    · rw [hj] at q1
      by_cases hx0 : x.x = 0
      · have z0 := eq_true hx0
        cases hj2 : jhas D.gone x.d
        · rw [hj2] at q2
          have hlk : lackD D x = true := by unfold lackD; rw [hj, hj2, decide_eq_true hx0]; rfl
          rw [if_pos hlk] at hsn
          simp (config := {contextual := true, maxDischargeDepth := 12}) only [tb_at, he, e0, e3, e6, hL, hlt, hw2, a1_, a2_, a6_, a4_, i1, p1, p2, p3, p8, q1, q2, z0, ap, notV_bool, Bool.not_true, Bool.not_false, ↓bD, bU, forall_const, bS, implies_true, isNx, eq_self, ↓wp_cond, ↓wp_loop, ↓reduceIte, reduceCtorEq, Nat.reduceEqDiff, Nat.reduceLT, Nat.reduceAdd, Nat.reduceMul, bT, ↓sg_bsl, ↓st_callf, bX, List.cons_append, List.nil_append, ↓st_appf, bY, slcV_nils0N, slcV_sl0N, bslV_0N, bin_shr1, bsl_nd]
          refine ⟨n - 1, by omega, ?_⟩
          rw [hI]
          exact ⟨hKx, i + 1, by omega, (by simp only [bE, Nat.reduceEqDiff, bN, Nat.reduceLT, he, e0, e3, e6]; try rfl), (by simp only [bE, Nat.reduceEqDiff, bN, Nat.reduceLT, he, e0, e3, e6]; try rfl), (by simp only [bE, Nat.reduceEqDiff, bN, Nat.reduceLT, he, e0, e3, e6]; try rfl), (by simp only [bE, Nat.reduceEqDiff, bN, Nat.reduceLT, he, e0, e3, e6]; try rfl), by simp only [bE, Nat.reduceEqDiff, bN, Nat.reduceLT, he]; rw [hsn]; exact hO'⟩
        · rw [hj2] at q2
          have hlk : ¬ lackD D x = true := by unfold lackD; rw [hj, hj2]; simp
          rw [if_neg hlk, List.append_nil] at hsn
          simp (config := {contextual := true, maxDischargeDepth := 12}) only [tb_at, he, e0, e3, e6, hL, hlt, hw2, a1_, a2_, a6_, a4_, i1, p1, p2, p3, p8, q1, q2, z0, notV_bool, Bool.not_true, Bool.not_false, ↓bD, bU, forall_const, bS, implies_true, isNx, eq_self, ↓wp_cond, ↓wp_loop, ↓reduceIte, reduceCtorEq, Nat.reduceEqDiff, Nat.reduceLT, Nat.reduceAdd, Nat.reduceMul, bT, ↓sg_bsl, ↓st_callf, bX, List.cons_append, List.nil_append, ↓st_appf, bY, slcV_nils0N, slcV_sl0N, bslV_0N, bin_shr1, bsl_nd]
          refine ⟨n - 1, by omega, ?_⟩
          rw [hI]
          exact ⟨hK, i + 1, by omega, (by simp only [bE, Nat.reduceEqDiff, bN, Nat.reduceLT, he, e0, e3, e6]; try rfl), (by simp only [bE, Nat.reduceEqDiff, bN, Nat.reduceLT, he, e0, e3, e6]; try rfl), (by simp only [bE, Nat.reduceEqDiff, bN, Nat.reduceLT, he, e0, e3, e6]; try rfl), (by simp only [bE, Nat.reduceEqDiff, bN, Nat.reduceLT, he, e0, e3, e6]; try rfl), by simp only [bE, Nat.reduceEqDiff, bN, Nat.reduceLT, he]; rw [hsn]; exact hO⟩
      · have z0 := eq_false hx0
        have hlk : ¬ lackD D x = true := by unfold lackD; rw [hj, decide_eq_false hx0]; simp
        rw [if_neg hlk, List.append_nil] at hsn
        simp (config := {contextual := true, maxDischargeDepth := 12}) only [tb_at, he, e0, e3, e6, hL, hlt, hw2, a1_, a2_, a6_, a4_, i1, p1, p2, p3, p8, q1, z0, notV_bool, Bool.not_true, Bool.not_false, ↓bD, bU, forall_const, bS, implies_true, isNx, eq_self, ↓wp_cond, ↓wp_loop, ↓reduceIte, reduceCtorEq, Nat.reduceEqDiff, Nat.reduceLT, Nat.reduceAdd, Nat.reduceMul, bT, ↓sg_bsl, ↓st_callf, bX, List.cons_append, List.nil_append, ↓st_appf, bY, slcV_nils0N, slcV_sl0N, bslV_0N, bin_shr1, bsl_nd]
        refine ⟨n - 1, by omega, ?_⟩
        rw [hI]
        exact ⟨hK, i + 1, by omega, (by simp only [bE, Nat.reduceEqDiff, bN, Nat.reduceLT, he, e0, e3, e6]; try rfl), (by simp only [bE, Nat.reduceEqDiff, bN, Nat.reduceLT, he, e0, e3, e6]; try rfl), (by simp only [bE, Nat.reduceEqDiff, bN, Nat.reduceLT, he, e0, e3, e6]; try rfl), (by simp only [bE, Nat.reduceEqDiff, bN, Nat.reduceLT, he, e0, e3, e6]; try rfl), by simp only [bE, Nat.reduceEqDiff, bN, Nat.reduceLT, he]; rw [hsn]; exact hO⟩
  · obtain rfl : i = l.length := by omega
    rw [List.take_length] at hO
    simp (config := {contextual := true, maxDischargeDepth := 12}) only [tb_at, he, e0, e3, e6, hL, hlt, ↓bD, bU, forall_const, bS, implies_true, isNx, eq_self, ↓wp_cond, ↓wp_loop, ↓reduceIte, reduceCtorEq, Nat.reduceEqDiff, Nat.reduceLT, Nat.reduceAdd, Nat.reduceMul, bT, ↓sg_bsl, ↓st_callf, bX, List.cons_append, List.nil_append, ↓st_appf, bY, slcV_nils0N, slcV_sl0N, bslV_0N, bin_shr1, bsl_nd]
    first | exact ⟨hKt, _, rfl, hO.from (by simp)⟩ | exact ⟨_, rfl, hO.from (by simp)⟩
theorem q_RgDiff {s : St} {vl : AV} {l : List Nd} (hr : read ndC s vl = some l) (hl : l.length ≤ 1000) {a1 b1 c1 d1 : AV} {D : DDg} (hD : DgR s a1 b1 c1 d1 D) (hDl : DgL D 1000) : ∃ v t, acall R_RgDiff false [vl, .agg [a1, b1, c1, d1]] s = some (v, t) ∧ Own ndC s t v (diffD l D) ∧ Keep s t := run_fresh n_RgDiff (by simp [a17]) (fun v => v) (fun _ _ _ _ _ => rfl) (w_RgDiff (s := lowd s) (read_low' hr) hl hD.low hDl)

end Go.AM
end
/-
  Digests: the package; the reference and its Of. Own work of this project; in part printed by a program of it.
-/
section
set_option maxRecDepth 100000
set_option maxHeartbeats 8000000
namespace Go.AM
open Go Go.Proofs

variable {s t u : St}

theorem q_JValidD (cl : Bool) {v : AV} {l : List Nd} {s : St} (h : read ndC s v = some l) (hl : l.length ≤ lim) : acall (conL ndC fValid) cl [v] s = some (.bool (storeL l), s) := conL_call (fun _ => rfl) h hl cl
theorem win_eq {a b : DCx} (ha : isC a = true) (hb : isC b = true) : decide (uniC a b = compC b) = jwithin a b := by
  rw [Bool.eq_iff_iff, decide_eq_true_eq, jwithin_iff ha hb]
  exact sub_iff ((isC_iff a).1 ha).1 ((isC_iff b).1 hb).1
theorem isC_cvalid {x : DCx} (h : isC x = true) : cvalid x = true := ((isC_iff x).1 h).1
theorem dgV_false_a {D : DDg} (h : isC D.all = false) : dgV D = false := by unfold dgV; rw [h]; rfl
theorem dgV_false_g {D : DDg} (h : isC D.gone = false) : dgV D = false := by unfold dgV; rw [h]; cases isC D.all <;> rfl
theorem isC_of_cvalid {x : DCx} (h : cvalid x = false) : isC x = false := by unfold isC; rw [h]; rfl
noncomputable def R_DgValid : Con := runFn (tb [(36, R_CWithin), (37, R_IsC)]) a12
theorem s_DgValid : SoundAt Tryz.prog 12 R_DgValid := run_sound (tb_sound (l := [(36, R_CWithin), (37, R_IsC)]) (by simpa using ⟨s_CWithin, s_IsC⟩)) mixed Tryz.func12 k12 c12
theorem n_DgValid : noNxtC a12.body = true := by kernel_rfl
theorem w_DgValid {s : St} {a1 b1 c1 d1 : AV} {D : DDg} (hD : DgR s a1 b1 c1 d1 D) (hDl : DgL D 1000) : ∀ env : Env, elen env = a12.ntmps → (∀ i x_, [.agg [a1, b1, c1, d1]][i]? = some x_ → E env i = x_) → awp (tb [(36, R_CWithin), (37, R_IsC)]) a12.body (fun x e t => (∀ i, x ≠ .exit i) ∧ aresults e t a12.results = some (.bool (dgV D)) ∧ Keep s t) env s := by
  intro env hlen ha
  have h0 : E env 0 = _ := ha 0 _ rfl
  have hlen : elen env = _ := hlen
  simp only [a12] at hlen
  unfold a12
  try dsimp only [oO, oG]
  have hbx := hD.box
  have hK1 : Keep s (s.push (.row [a1, b1, c1, d1] true)) := (Keep.refl s).push _
  obtain ⟨p1, p2, p3, p4, p5, p6, p7, p8⟩ := box_dg s a1 b1 c1 d1 (.refl _)
  have q2 := q_IsC false (hK1.read hD.r1) (hK1.read hD.r2) (lim_1000 hDl.l1) (lim_1000 hDl.l2)
  have q3 := q_IsC false (hK1.read hD.r3) (hK1.read hD.r4) (lim_1000 hDl.l3) (lim_1000 hDl.l4)
  have n20 : ((2 : Int) = 0) = False := eq_false (by decide)
  have n00 : ((0 : Int) = 0) = True := eq_true rfl
  cases hc : cvalid D.gone && cvalid D.all
  · have q1 := q_CWithin_bad false (hK1.read hD.r3) (hK1.read hD.r4) (lim_80 hDl.l3) (lim_80 hDl.l4) (hK1.read hD.r1) (hK1.read hD.r2) (lim_80 hDl.l1) (lim_80 hDl.l2) hc
    have hS : dgV D = false := by
      rw [Bool.and_eq_false_iff] at hc
      exact hc.elim (fun h => dgV_false_g (isC_of_cvalid h)) fun h => dgV_false_a (isC_of_cvalid h)
    rw [hS]
    cases h1 : isC D.all
    · rw [h1] at q2
      simp (config := {contextual := true, maxDischargeDepth := 12}) only [tb_at, h0, hlen, q1, q2, hbx, p1, p2, p3, p4, p5, p6, p7, p8, ↓bD, bU, forall_const, bS, implies_true, isNx, eq_self, ↓wp_cond, ↓wp_loop, ↓reduceIte, reduceCtorEq, Nat.reduceEqDiff, Nat.reduceLT, Nat.reduceAdd, Nat.reduceMul, bT, ↓sg_bsl, ↓st_callf, bX, List.cons_append, List.nil_append, ↓st_appf, bY, slcV_nils0N, slcV_sl0N, bslV_0N, bin_shr1, bsl_nd]
      all_goals first | exact hK1 | skip
    rw [h1] at q2
    cases h2 : isC D.gone
    · rw [h2] at q3
      simp (config := {contextual := true, maxDischargeDepth := 12}) only [tb_at, h0, hlen, q1, q2, q3, hbx, p1, p2, p3, p4, p5, p6, p7, p8, ↓bD, bU, forall_const, bS, implies_true, isNx, eq_self, ↓wp_cond, ↓wp_loop, ↓reduceIte, reduceCtorEq, Nat.reduceEqDiff, Nat.reduceLT, Nat.reduceAdd, Nat.reduceMul, bT, ↓sg_bsl, ↓st_callf, bX, List.cons_append, List.nil_append, ↓st_appf, bY, slcV_nils0N, slcV_sl0N, bslV_0N, bin_shr1, bsl_nd]
      all_goals first | exact hK1 | skip
    rw [h2] at q3
    simp (config := {contextual := true, maxDischargeDepth := 12}) only [tb_at, h0, hlen, q1, q2, q3, n20, decide_false, bin_eqE, hbx, p1, p2, p3, p4, p5, p6, p7, p8, ↓bD, bU, forall_const, bS, implies_true, isNx, eq_self, ↓wp_cond, ↓wp_loop, ↓reduceIte, reduceCtorEq, Nat.reduceEqDiff, Nat.reduceLT, Nat.reduceAdd, Nat.reduceMul, bT, ↓sg_bsl, ↓st_callf, bX, List.cons_append, List.nil_append, ↓st_appf, bY, slcV_nils0N, slcV_sl0N, bslV_0N, bin_shr1, bsl_nd]
    all_goals first | exact hK1 | skip
  rw [Bool.and_eq_true] at hc
  have q1 := q_CWithin false (hK1.read hD.r3) (hK1.read hD.r4) (lim_80 hDl.l3) (lim_80 hDl.l4) (hK1.read hD.r1) (hK1.read hD.r2) (lim_80 hDl.l1) (lim_80 hDl.l2) hc.1 hc.2
  cases h1 : isC D.all
  · rw [h1] at q2
    rw [dgV_false_a h1]
    simp (config := {contextual := true, maxDischargeDepth := 12}) only [tb_at, h0, hlen, q1, q2, hbx, p1, p2, p3, p4, p5, p6, p7, p8, ↓bD, bU, forall_const, bS, implies_true, isNx, eq_self, ↓wp_cond, ↓wp_loop, ↓reduceIte, reduceCtorEq, Nat.reduceEqDiff, Nat.reduceLT, Nat.reduceAdd, Nat.reduceMul, bT, ↓sg_bsl, ↓st_callf, bX, List.cons_append, List.nil_append, ↓st_appf, bY, slcV_nils0N, slcV_sl0N, bslV_0N, bin_shr1, bsl_nd]
    all_goals first | exact hK1 | skip
  rw [h1] at q2
  cases h2 : isC D.gone
  · rw [h2] at q3
    rw [dgV_false_g h2]
    simp (config := {contextual := true, maxDischargeDepth := 12}) only [tb_at, h0, hlen, q1, q2, q3, hbx, p1, p2, p3, p4, p5, p6, p7, p8, ↓bD, bU, forall_const, bS, implies_true, isNx, eq_self, ↓wp_cond, ↓wp_loop, ↓reduceIte, reduceCtorEq, Nat.reduceEqDiff, Nat.reduceLT, Nat.reduceAdd, Nat.reduceMul, bT, ↓sg_bsl, ↓st_callf, bX, List.cons_append, List.nil_append, ↓st_appf, bY, slcV_nils0N, slcV_sl0N, bslV_0N, bin_shr1, bsl_nd]
    all_goals first | exact hK1 | skip
  rw [h2] at q3
  rw [win_eq h2 h1] at q1
  have hS : dgV D = jwithin D.gone D.all := by unfold dgV; rw [h1, h2]; rfl
  rw [hS]
  simp (config := {contextual := true, maxDischargeDepth := 12}) only [tb_at, h0, hlen, q1, q2, q3, n00, decide_true, bin_eqE, hbx, p1, p2, p3, p4, p5, p6, p7, p8, ↓bD, bU, forall_const, bS, implies_true, isNx, eq_self, ↓wp_cond, ↓wp_loop, ↓reduceIte, reduceCtorEq, Nat.reduceEqDiff, Nat.reduceLT, Nat.reduceAdd, Nat.reduceMul, bT, ↓sg_bsl, ↓st_callf, bX, List.cons_append, List.nil_append, ↓st_appf, bY, slcV_nils0N, slcV_sl0N, bslV_0N, bin_shr1, bsl_nd]
  all_goals first | exact hK1 | skip
theorem q_DgValid (cl : Bool) {s : St} {a1 b1 c1 d1 : AV} {D : DDg} (hD : DgR s a1 b1 c1 d1 D) (hDl : DgL D 1000) : acall R_DgValid cl [.agg [a1, b1, c1, d1]] s = some (.bool (dgV D), s) := run_same n_DgValid (by simp [a12]) rfl (w_DgValid (s := lowd s) hD.low hDl)
noncomputable def R_DgLk1 : Con := runFn (tb [(64, R_CHas)]) a63
theorem s_DgLk1 : SoundAt Tryz.prog 63 R_DgLk1 := run_sound (tb_sound (l := [(64, R_CHas)]) (by simpa using s_CHas)) mixed Tryz.func63 k63 c63
theorem n_DgLk1 : noNxtC a63.body = true := by kernel_rfl
theorem w_DgLk1 {s : St} {a1 b1 c1 d1 : AV} {D : DDg} (hD : DgR s a1 b1 c1 d1 D) (hDl : DgL D 1000) {b : Nat} {own : Bool} (hg : s.get b = some (.row [a1, b1, c1, d1] own)) (n : Nd) (hn : n.d.valid = true) : ∀ env : Env, elen env = a63.ntmps → (∀ i x_, [.agg (Nd.av n), .ptr b 0][i]? = some x_ → E env i = x_) → awp (tb [(64, R_CHas)]) a63.body (fun x e t => (∀ i, x ≠ .exit i) ∧ aresults e t a63.results = some (.bool (lackD D n)) ∧ Keep s t) env s := by
  intro env hlen ha
  have h0 : E env 0 = _ := ha 0 _ rfl
  have h1 : E env 1 = _ := ha 1 _ rfl
  have hlen : elen env = _ := hlen
  simp only [a63] at hlen
  unfold a63
  try dsimp only [oO, oG]
  have hK1 : Keep s (s.push (.row (Nd.av n) true)) := (Keep.refl s).push _
  obtain ⟨p1, p2, p3, p4, p5, p6, p7, p8⟩ := row4_lods (hK1.blk hg)
  obtain ⟨bn1, bn2, bn3, bn4, bn5, bn6⟩ := box_nd s n (.refl _)
  have hbn : boxV 6 (.agg (Nd.av n)) = some (fun id => .ptr id 0, .row (Nd.av n) true) := by simp [boxV, AV.cells, AV.one, Nd.av]
  have q1 := q_CHas false (hK1.read hD.r1) (hK1.read hD.r2) (lim_1000 hDl.l1) (lim_1000 hDl.l2) n.d
  have q2 := q_CHas false (hK1.read hD.r3) (hK1.read hD.r4) (lim_1000 hDl.l3) (lim_1000 hDl.l4) n.d
  unfold lackD
  rw [jhas_chas hn, jhas_chas hn]
  simp (config := {contextual := true, maxDischargeDepth := 12}) only [tb_at, h0, h1, hlen, hbn, p1, p2, p3, p8, bn1, bn2, bn5, bn6, q1, q2, notV_bool, bin_eqE, ↓bD, bU, forall_const, bS, implies_true, isNx, eq_self, ↓wp_cond, ↓wp_loop, ↓reduceIte, reduceCtorEq, Nat.reduceEqDiff, Nat.reduceLT, Nat.reduceAdd, Nat.reduceMul, bT, ↓sg_bsl, ↓st_callf, bX, List.cons_append, List.nil_append, ↓st_appf, bY, slcV_nils0N, slcV_sl0N, bslV_0N, bin_shr1, bsl_nd]
  all_goals first | exact hK1 | skip
theorem q_DgLk1 (cl : Bool) {s : St} {a1 b1 c1 d1 : AV} {D : DDg} (hD : DgR s a1 b1 c1 d1 D) (hDl : DgL D 1000) {b : Nat} {own : Bool} (hg : s.get b = some (.row [a1, b1, c1, d1] own)) (n : Nd) (hn : n.d.valid = true) : acall R_DgLk1 cl [.agg (Nd.av n), .ptr b 0] s = some (.bool (lackD D n), s) := run_same n_DgLk1 (by simp [a63]) rfl (w_DgLk1 (s := lowd s) hD.low hDl hg n hn)
noncomputable def R_DgLks : Con := runFn (tb []) a42
theorem s_DgLks : SoundAt Tryz.prog 42 R_DgLks := run_sound (tb_sound (l := []) (by simp)) mixed Tryz.func42 k42 c42
theorem n_DgLks : noNxtC a42.body = true := by kernel_rfl
theorem w_DgLks {s : St} {a1 b1 c1 d1 : AV} {D : DDg} (hD : DgR s a1 b1 c1 d1 D) : ∀ env : Env, elen env = a42.ntmps → (∀ i x_, [.agg [a1, b1, c1, d1]][i]? = some x_ → E env i = x_) → awp (tb []) a42.body (fun x e t => (∀ i, x ≠ .exit i) ∧ ∃ r, aresults e t a42.results = some r ∧ (∃ b, r = .fn 63 [.ptr b 0] ∧ t.get b = some (.row [a1, b1, c1, d1] true) ∧ s.next ≤ b) ∧ Keep s t) env s := by
  intro env hlen ha
  have h0 : E env 0 = _ := ha 0 _ rfl
  have hlen : elen env = _ := hlen
  simp only [a42] at hlen
  unfold a42
  try dsimp only [oO, oG]
  have hbx := hD.box
  have hK1 : Keep s (s.push (.row [a1, b1, c1, d1] true)) := (Keep.refl s).push _
  obtain ⟨p1, p2, p3, p4, p5, p6, p7, p8⟩ := box_dg s a1 b1 c1 d1 (.refl _)
  simp (config := {contextual := true, maxDischargeDepth := 12}) only [tb_at, h0, hlen, hbx, p1, p2, p3, p4, p5, p6, p7, p8, ↓bD, bU, forall_const, bS, implies_true, isNx, eq_self, ↓wp_cond, ↓wp_loop, ↓reduceIte, reduceCtorEq, Nat.reduceEqDiff, Nat.reduceLT, Nat.reduceAdd, Nat.reduceMul, bT, ↓sg_bsl, ↓st_callf, bX, List.cons_append, List.nil_append, ↓st_appf, bY, slcV_nils0N, slcV_sl0N, bslV_0N, bin_shr1, bsl_nd]
  first | exact ⟨_, rfl, _, rfl, St.get_push_new s _, Nat.le_refl _⟩ | exact ⟨_, rfl, ⟨_, rfl, St.get_push_new s _, Nat.le_refl _⟩, hK1⟩ | skip
theorem q_DgLks {s : St} {a1 b1 c1 d1 : AV} {D : DDg} (hD : DgR s a1 b1 c1 d1 D) : ∃ b t, acall R_DgLks false [.agg [a1, b1, c1, d1]] s = some (.fn 63 [.ptr b 0], t) ∧ t.get b = some (.row [a1, b1, c1, d1] true) ∧ s.next ≤ b ∧ Keep s t := by
  obtain ⟨r, t, h1, ⟨b, rfl, h2, h4⟩, h3⟩ := run_any n_DgLks (args := [.agg [a1, b1, c1, d1]]) (Q := fun r t => ∃ b, r = .fn 63 [.ptr b 0] ∧ t.get b = some (.row [a1, b1, c1, d1] true) ∧ s.next ≤ b) (by simp [a42]) (fun r t t' hg hn ⟨b, e, h, h'⟩ => ⟨b, e, by rw [hg]; exact h, h'⟩) (fun r t hgr hk ⟨b, e, h, h'⟩ => by
    rw [e] at hgr
    simp [AV.ground, AV.plain] at hgr) (w_DgLks (s := lowd s) hD.low)
  exact ⟨b, t, h1, h2, h4, h3⟩

def diffP (l : List Nd) (D : DDg) : List Nd × Int := if storeL l = true ∧ dgV D = true then (diffD l D, 0) else ([], 2)
theorem diffP_ok {l : List Nd} {D : DDg} (h1 : storeL l = true) (h2 : dgV D = true) : diffP l D = (diffD l D, 0) := by unfold diffP; rw [if_pos ⟨h1, h2⟩]
theorem diffP_bad {l : List Nd} {D : DDg} (h : ¬ (storeL l = true ∧ dgV D = true)) : diffP l D = ([], 2) := by unfold diffP; rw [if_neg h]
theorem diffP_len (l : List Nd) (D : DDg) : (diffP l D).1.length ≤ l.length := by
  unfold diffP
  split
  · exact diff_len l D
  · simp
noncomputable def R_DgDiff : Con := runFn (tb [(41, conL ndC fValid), (12, R_DgValid), (42, R_DgLks), (63, R_DgLk1)]) a18
theorem s_DgDiff : SoundAt Tryz.prog 18 R_DgDiff := run_sound (tb_sound (l := [(41, conL ndC fValid), (12, R_DgValid), (42, R_DgLks), (63, R_DgLk1)]) (by simpa using ⟨s_JValid, s_DgValid, s_DgLks, s_DgLk1⟩)) mixed Tryz.func18 k18 c18
theorem n_DgDiff : noNxtC a18.body = true := by kernel_rfl
theorem w_DgDiff {s : St} {vl : AV} {l : List Nd} (hr : read ndC s vl = some l) (hl : l.length ≤ 1000) {a1 b1 c1 d1 : AV} {D : DDg} (hD : DgR s a1 b1 c1 d1 D) (hDl : DgL D 1000) : ∀ env : Env, elen env = a18.ntmps → (∀ i x_, [vl, .agg [a1, b1, c1, d1]][i]? = some x_ → E env i = x_) → awp (tb [(41, conL ndC fValid), (12, R_DgValid), (42, R_DgLks), (63, R_DgLk1)]) a18.body (fun x e t => (∀ i, x ≠ .exit i) ∧ Keep s t ∧ ∃ r, aresults e t a18.results = some (.tup [r, .int .i64 (diffP l D).2]) ∧ Own ndC s t r (diffP l D).1) env s := by
  intro env hlen ha
  have h0 : E env 0 = _ := ha 0 _ rfl
  have h1 : E env 1 = _ := ha 1 _ rfl
  have hlen : elen env = _ := hlen
  simp only [a18] at hlen
  unfold a18
  try dsimp only [oO, oG]
  have hbx := hD.box
  have hK1 : Keep s (s.push (.row [a1, b1, c1, d1] true)) := (Keep.refl s).push _
  obtain ⟨p1, p2, p3, p4, p5, p6, p7, p8⟩ := box_dg s a1 b1 c1 d1 (.refl _)
  have hL := lenV_read hr
  have q1 := q_JValidD false (hK1.read hr) (by unfold lim; omega)
  have q2 := q_DgValid false (hD.keep hK1) hDl
  cases h1s : storeL l
  · rw [h1s] at q1
    rw [diffP_bad (by rw [h1s]; simp)]
    simp (config := {contextual := true, maxDischargeDepth := 12}) only [tb_at, h0, h1, hlen, q1, notV_bool, Bool.not_false, hbx, p1, p2, p3, p4, p5, p6, p7, p8, ↓bD, bU, forall_const, bS, implies_true, isNx, eq_self, ↓wp_cond, ↓wp_loop, ↓reduceIte, reduceCtorEq, Nat.reduceEqDiff, Nat.reduceLT, Nat.reduceAdd, Nat.reduceMul, bT, ↓sg_bsl, ↓st_callf, bX, List.cons_append, List.nil_append, ↓st_appf, bY, slcV_nils0N, slcV_sl0N, bslV_0N, bin_shr1, bsl_nd]
    all_goals first | exact ⟨hK1, _, rfl, .nil _ _ _⟩ | exact ⟨_, rfl, .nil _ _ _⟩ | skip
  rw [h1s] at q1
  cases h2s : dgV D
  · rw [h2s] at q2
    rw [diffP_bad (by rw [h2s]; simp)]
    simp (config := {contextual := true, maxDischargeDepth := 12}) only [tb_at, h0, h1, hlen, q1, q2, notV_bool, Bool.not_false, Bool.not_true, hbx, p1, p2, p3, p4, p5, p6, p7, p8, ↓bD, bU, forall_const, bS, implies_true, isNx, eq_self, ↓wp_cond, ↓wp_loop, ↓reduceIte, reduceCtorEq, Nat.reduceEqDiff, Nat.reduceLT, Nat.reduceAdd, Nat.reduceMul, bT, ↓sg_bsl, ↓st_callf, bX, List.cons_append, List.nil_append, ↓st_appf, bY, slcV_nils0N, slcV_sl0N, bslV_0N, bin_shr1, bsl_nd]
    all_goals first | exact ⟨hK1, _, rfl, .nil _ _ _⟩ | exact ⟨_, rfl, .nil _ _ _⟩ | skip
  rw [h2s] at q2
  rw [diffP_ok h1s h2s]
  obtain ⟨b, tl, q3, hgb, hbs, hK3⟩ := q_DgLks (hD.keep hK1)
  have hKl := hK1.trans hK3
  simp (config := {contextual := true, maxDischargeDepth := 12}) only [tb_at, h0, h1, hlen, q1, q2, q3, hL, notV_bool, Bool.not_false, Bool.not_true, hbx, p1, p2, p3, p4, p5, p6, p7, p8, ↓bD, bU, forall_const, bS, implies_true, isNx, eq_self, ↓wp_cond, ↓wp_loop, ↓reduceIte, reduceCtorEq, Nat.reduceEqDiff, Nat.reduceLT, Nat.reduceAdd, Nat.reduceMul, bT, ↓sg_bsl, ↓st_callf, bX, List.cons_append, List.nil_append, ↓st_appf, bY, slcV_nils0N, slcV_sl0N, bslV_0N, bin_shr1, bsl_nd]
  obtain ⟨I, hI⟩ : ∃ I : Nat → Env → St → Prop, ∀ n e t, I n e t = (Keep tl t ∧ ∃ i : Nat, n + i = l.length ∧ elen e = 35 ∧ E e 6 = .fn 63 [.ptr b 0] ∧ E e 20 = vl ∧ E e 21 = .int .i64 (l.length : Int) ∧ E e 22 = .int .i64 (i : Int) ∧ Own ndC tl t (E e 7) (diffD (l.take i) D)) := ⟨fun n e t => (Keep tl t ∧ ∃ i : Nat, n + i = l.length ∧ elen e = 35 ∧ E e 6 = .fn 63 [.ptr b 0] ∧ E e 20 = vl ∧ E e 21 = .int .i64 (l.length : Int) ∧ E e 22 = .int .i64 (i : Int) ∧ Own ndC tl t (E e 7) (diffD (l.take i) D)), fun _ _ _ => rfl⟩
  refine lwp_inv I (n := l.length) ?_ ?_
  · rw [hI]
    exact ⟨.refl _, 0, by omega, (by simp only [bE, Nat.reduceEqDiff, bN, Nat.reduceLT, hlen]; try rfl), (by simp only [bE, Nat.reduceEqDiff, bN, Nat.reduceLT, hlen]; try rfl), (by simp only [bE, Nat.reduceEqDiff, bN, Nat.reduceLT, hlen, h0]; try rfl), (by simp only [bE, Nat.reduceEqDiff, bN, Nat.reduceLT, hlen, hL]; try rfl), (by simp only [bE, Nat.reduceEqDiff, bN, Nat.reduceLT, hlen]; try rfl), by simp only [bE, Nat.reduceEqDiff, bN, Nat.reduceLT, hlen]; exact .nil _ _ _⟩
  clear h0 h1 hlen q1 q2 q3
  intro n e t hi
  rw [hI] at hi
  obtain ⟨hK, i, hni, he, e6, e20, e21, e22, hO⟩ := hi
  have hKt := hKl.trans hK
  by_cases hlt : i < l.length
  · obtain ⟨x, hx⟩ := getsome hlt
    have hw2 := wrap_add1 (n := i) (by omega)
    obtain ⟨a1_, a2_, a3_, a5_, a6_, a4_⟩ := nd_lods hr hKt hx
    have i1 := nd_idx hr hx .i64
    have hsn := diff_snoc (D := D) hx
    have hKx : Keep t (t.lowed.push (.row (Nd.av x) true)) := (Keep.refl t).lowed.push _
    have hKtx := hKt.trans hKx
    obtain ⟨bn1, bn2, bn3, bn4, bn5, bn6⟩ := box_nd t.lowed x (.refl _)
    have q4 := q_DgLk1 false (s := t.lowed.push (.row (Nd.av x) true)) (hD.keep hKtx) hDl ((hK.trans hKx).blk hgb) x (nd_dval (store_mem h1s (mem_at hx)))
    cases hlk : lackD D x
    · rw [hlk] at q4
      rw [if_neg (by rw [hlk]; simp), List.append_nil] at hsn
      simp (config := {contextual := true, maxDischargeDepth := 12}) only [tb_at, he, e6, e20, e21, e22, hlt, hw2, a1_, a4_, i1, bn1, bn6, q4, ↓bD, bU, forall_const, bS, implies_true, isNx, eq_self, ↓wp_cond, ↓wp_loop, ↓reduceIte, reduceCtorEq, Nat.reduceEqDiff, Nat.reduceLT, Nat.reduceAdd, Nat.reduceMul, bT, ↓sg_bsl, ↓st_callf, bX, List.cons_append, List.nil_append, ↓st_appf, bY, slcV_nils0N, slcV_sl0N, bslV_0N, bin_shr1, bsl_nd]
      refine ⟨n - 1, by omega, ?_⟩
      rw [hI]
      exact ⟨hK.trans hKx, i + 1, by omega, (by simp only [bE, Nat.reduceEqDiff, bN, Nat.reduceLT, he, e6, e20, e21, e22]; try rfl), (by simp only [bE, Nat.reduceEqDiff, bN, Nat.reduceLT, he, e6, e20, e21, e22]; try rfl), (by simp only [bE, Nat.reduceEqDiff, bN, Nat.reduceLT, he, e6, e20, e21, e22]; try rfl), (by simp only [bE, Nat.reduceEqDiff, bN, Nat.reduceLT, he, e6, e20, e21, e22]; try rfl), (by simp only [bE, Nat.reduceEqDiff, bN, Nat.reduceLT, he, e6, e20, e21, e22]; try rfl), by simp only [bE, Nat.reduceEqDiff, bN, Nat.reduceLT, he]; rw [hsn]; exact hO.mono fun _ _ k => hKx.blk k⟩
    · rw [hlk] at q4
      rw [if_pos hlk] at hsn
      have hb : ((diffD (l.take i) D).length + 1) * 48 ≤ roomBytes := by have := diff_len (l.take i) D; rw [List.length_take] at this; unfold roomBytes; omega
      obtain ⟨u1, t1, ap, hK', hO'⟩ := appV_one (C := ndC) (hK.trans hKx) (hO.mono fun _ _ k => hKx.blk k) x 48 hb
      have ap : appV ((t.lowed.push (.row (Nd.av x) true)).push (.row (Nd.av x) true)) 6 48 (E e 7) (.sl (t.lowed.push (.row (Nd.av x) true)).next 0 1 (some 1) 6) = some (u1, t1) := ap
      obtain ⟨cn1, cn2, cn3, cn4, cn5, cn6⟩ := box_nd t.lowed x ((Keep.refl (t.lowed.push (.row (Nd.av x) true))).push (.row (Nd.av x) true))
      simp (config := {contextual := true, maxDischargeDepth := 12}) only [tb_at, he, e6, e20, e21, e22, hlt, hw2, a1_, a4_, i1, bn1, bn6, q4, ap, cn1, cn6, ↓bD, bU, forall_const, bS, implies_true, isNx, eq_self, ↓wp_cond, ↓wp_loop, ↓reduceIte, reduceCtorEq, Nat.reduceEqDiff, Nat.reduceLT, Nat.reduceAdd, Nat.reduceMul, bT, ↓sg_bsl, ↓st_callf, bX, List.cons_append, List.nil_append, ↓st_appf, bY, slcV_nils0N, slcV_sl0N, bslV_0N, bin_shr1, bsl_nd]
      refine ⟨n - 1, by omega, ?_⟩
      rw [hI]
      exact ⟨hK', i + 1, by omega, (by simp only [bE, Nat.reduceEqDiff, bN, Nat.reduceLT, he, e6, e20, e21, e22]; try rfl), (by simp only [bE, Nat.reduceEqDiff, bN, Nat.reduceLT, he, e6, e20, e21, e22]; try rfl), (by simp only [bE, Nat.reduceEqDiff, bN, Nat.reduceLT, he, e6, e20, e21, e22]; try rfl), (by simp only [bE, Nat.reduceEqDiff, bN, Nat.reduceLT, he, e6, e20, e21, e22]; try rfl), (by simp only [bE, Nat.reduceEqDiff, bN, Nat.reduceLT, he, e6, e20, e21, e22]; try rfl), by simp only [bE, Nat.reduceEqDiff, bN, Nat.reduceLT, he]; rw [hsn]; exact hO'⟩
  · obtain rfl : i = l.length := by omega
    rw [List.take_length] at hO
    simp (config := {contextual := true, maxDischargeDepth := 12}) only [tb_at, he, e6, e20, e21, e22, hlt, ↓bD, bU, forall_const, bS, implies_true, isNx, eq_self, ↓wp_cond, ↓wp_loop, ↓reduceIte, reduceCtorEq, Nat.reduceEqDiff, Nat.reduceLT, Nat.reduceAdd, Nat.reduceMul, bT, ↓sg_bsl, ↓st_callf, bX, List.cons_append, List.nil_append, ↓st_appf, bY, slcV_nils0N, slcV_sl0N, bslV_0N, bin_shr1, bsl_nd]
    first | exact ⟨hKt, _, rfl, hO.from hKl.next⟩ | exact ⟨_, rfl, hO.from hKl.next⟩ | exact ⟨hKt, _, ⟨rfl, rfl⟩, hO.from hKl.next⟩
theorem q_DgDiff {s : St} {vl : AV} {l : List Nd} (hr : read ndC s vl = some l) (hl : l.length ≤ 1000) {a1 b1 c1 d1 : AV} {D : DDg} (hD : DgR s a1 b1 c1 d1 D) (hDl : DgL D 1000) : ∃ v t, acall R_DgDiff false [vl, .agg [a1, b1, c1, d1]] s = some (.tup [v, .int .i64 (diffP l D).2], t) ∧ Own ndC s t v ((diffP l D).1) ∧ Keep s t := run_fresh n_DgDiff (by simp [a18]) (fun v => .tup [v, .int .i64 (diffP l D).2]) (fun _ _ _ _ _ => rfl) (w_DgDiff (s := lowd s) (read_low' hr) hl hD.low hDl)

theorem ground4 {a b c d : AV} (h : (AV.agg [a, b, c, d]).ground = true) : a.plain = true ∧ b.plain = true ∧ c.plain = true ∧ d.plain = true := by
  simpa [AV.ground, and_assoc] using h
theorem ground4t {a b c d e : AV} (h : (AV.tup [.agg [a, b, c, d], e]).ground = true) : a.plain = true ∧ b.plain = true ∧ c.plain = true ∧ d.plain = true := by
  simp [AV.ground, AV.plains, and_assoc] at h
  exact ⟨h.1, h.2.1, h.2.2.1, h.2.2.2.1⟩

theorem dgr_put {id : Nat} {n1 n2 n3 n4 x1 x2 x3 x4 : AV} {D : DDg} (h : t.get id = some (.row [.nils, .nils, .nils, .nils] true)) (hR : DgR t x1 x2 x3 x4 D) : DgR (t.put id (.row [n1, n2, n3, n4] true)) x1 x2 x3 x4 D := by
  have hlt := St.get_lt h
  have key : ∀ {v : AV} {l : List Dot}, read dotC t v = some l → read dotC (t.put id (.row [n1, n2, n3, n4] true)) v = some l := by
    intro v l hr
    cases v with
    | nils => exact hr
    | sl j off n cap z =>
      obtain ⟨rfl, hn, cs, own', hg, h1, h2, _⟩ := read_sl hr
      by_cases hj : j = id
      · subst hj
        rw [h] at hg
        injection hg with hg
        injection hg with hg _
        subst hg
        cases l with
        | nil =>
          simp at hn
          subst hn
          exact read_of (C := dotC) (n := 0) rfl (St.get_put_same h) (by simp at h1 ⊢; omega) (by simp [cells_nil])
        | cons d r =>
          exfalso
          have h22 : dotC.sz = 2 := rfl
          rw [h22] at h2 h1
          have hc : dotC.cells (d :: r) = .int .i64 d.r :: .int .i64 d.c :: dotC.cells r := by rw [cells_cons]; rfl
          rw [hc] at h2
          have hm : (AV.int .i64 d.r) ∈ [AV.nils, .nils, .nils, .nils] := by
            have : (AV.int .i64 d.r) ∈ (List.drop off [AV.nils, .nils, .nils, .nils]).take (n * 2) := by rw [h2]; simp
            exact List.mem_of_mem_drop (List.mem_of_mem_take this)
          simp at hm
      · exact read_of hn (by rw [St.get_put_ne _ _ hlt hj]; exact hg) h1 h2
    | _ => simp [AM.read] at hr
  exact ⟨key hR.r1, key hR.r2, key hR.r3, key hR.r4⟩
noncomputable def R_RgOf : Con := runFn (tb [(35, R_JDots), (34, R_JCtx)]) a11
theorem s_RgOf : SoundAt Tryz.prog 11 R_RgOf := run_sound (tb_sound (l := [(35, R_JDots), (34, R_JCtx)]) (by simpa using ⟨s_JDots, s_JCtx⟩)) mixed Tryz.func11 k11 c11
theorem n_RgOf : noNxtC a11.body = true := by kernel_rfl
theorem w_RgOf {s : St} {vl : AV} {l : List Nd} (hr : read ndC s vl = some l) (hl : l.length ≤ 500) (hst : storeL l = true) : ∀ env : Env, elen env = a11.ntmps → (∀ i x_, [vl][i]? = some x_ → E env i = x_) → awp (tb [(35, R_JDots), (34, R_JCtx)]) a11.body (fun x e t => (∀ i, x ≠ .exit i) ∧ ∃ r, aresults e t a11.results = some r ∧ (∃ x1 x2 x3 x4, r = .agg [x1, x2, x3, x4] ∧ DgR t x1 x2 x3 x4 (dgOf l)) ∧ Keep s t) env s := by
  intro env hlen ha
  have h0 : E env 0 = _ := ha 0 _ rfl
  have hlen : elen env = _ := hlen
  simp only [a11] at hlen
  unfold a11
  try dsimp only [oO, oG]
  have hK1 : Keep s (s.push (.row [.nils, .nils, .nils, .nils] true)) := (Keep.refl s).push _
  obtain ⟨u1, t1, q1, hO1, hK2⟩ := q_JDots (hK1.read hr) (by omega) false
  rw [dotsR_f] at hO1
  obtain ⟨x1, x2, t2, q2, hC2, hK3⟩ := q_JCtx hO1.read (by rw [List.length_map]; omega)
  obtain ⟨u3, t3, q3, hO3, hK4⟩ := q_JDots (((hK1.trans hK2).trans hK3).read hr) (by omega) true
  rw [dotsR_t] at hO3
  obtain ⟨x3, x4, t4, q4, hC4, hK5⟩ := q_JCtx hO3.read (by rw [List.length_map]; exact Nat.le_trans (List.length_filter_le _ _) (by omega))
  have hs := store_sorted hst
  rw [ctxL_eq (dots_srt hs) (dots_ok hst fun _ q => q)] at hC2
  rw [ctxL_eq (dots_srt (l := deadL l) (hs.filter _)) (dots_ok hst (dead_sub l))] at hC4
  have hC2' := hC2.keep (hK4.trans hK5)
  have hR : DgR t4 x1 x2 x3 x4 (dgOf l) := ⟨hC2'.1, hC2'.2, hC4.1, hC4.2⟩
  have hKr := (hK2.trans hK3).trans (hK4.trans hK5)
  have hbx := hKr.blk (St.get_push_new s (.row [.nils, .nils, .nils, .nils] true))
  have f0 := fstep_q0 (read_oneD hR.r1).2 (read_oneD hR.r2).2 .nils .nils .nils .nils
  have f2 := fstep_q2 (read_oneD hR.r3).2 (read_oneD hR.r4).2 x1 x2 .nils .nils
  have st4 := sto_row4 hbx hR
  have hlt := St.get_lt hbx
  obtain ⟨p1, p2, p3, p4, p5, p6, p7, p8⟩ := row4_lods (St.get_put_same (b := .row [x1, x2, x3, x4] true) hbx)
  simp (config := {contextual := true, maxDischargeDepth := 12}) only [tb_at, h0, hlen, q1, q2, q3, q4, ap_build, fillP_nil, fillP_cons, f0, f2, st4, hlt, p1, rc1, ↓bD, bU, forall_const, bS, implies_true, isNx, eq_self, ↓wp_cond, ↓wp_loop, ↓reduceIte, reduceCtorEq, Nat.reduceEqDiff, Nat.reduceLT, Nat.reduceAdd, Nat.reduceMul, bT, ↓sg_bsl, ↓st_callf, bX, List.cons_append, List.nil_append, ↓st_appf, bY, slcV_nils0N, slcV_sl0N, bslV_0N, bin_shr1, bsl_nd]
  exact ⟨_, rfl, ⟨x1, x2, x3, x4, rfl, dgr_put hbx hR⟩, (hK1.trans hKr).put _ (by simp) hlt⟩
theorem q_RgOf {s : St} {vl : AV} {l : List Nd} (hr : read ndC s vl = some l) (hl : l.length ≤ 500) (hst : storeL l = true) : ∃ x1 x2 x3 x4 t, acall R_RgOf false [vl] s = some (.agg [x1, x2, x3, x4], t) ∧ DgR t x1 x2 x3 x4 (dgOf l) ∧ Keep s t := by
  obtain ⟨r, t, h1, ⟨x1, x2, x3, x4, rfl, h2⟩, h3⟩ := run_any n_RgOf (args := [vl]) (Q := fun r t => ∃ x1 x2 x3 x4, r = .agg [x1, x2, x3, x4] ∧ DgR t x1 x2 x3 x4 (dgOf l)) (by simp [a11]) (fun r t t' hg hn ⟨x1, x2, x3, x4, e, h⟩ => ⟨x1, x2, x3, x4, e, h.mono fun id b hb => by rw [hg]; exact hb⟩) (fun r t hgr hk ⟨x1, x2, x3, x4, e, h⟩ => ⟨x1, x2, x3, x4, e, by
    rw [e] at hgr
    obtain ⟨g1, g2, g3, g4⟩ := ground4 hgr
    exact h.ground (plain_ground g1) (plain_ground g2) (plain_ground g3) (plain_ground g4)⟩) (w_RgOf (s := lowd s) (read_low' hr) hl hst)
  exact ⟨x1, x2, x3, x4, t, h1, h2, h3⟩

end Go.AM
end
/-
  Digests: Of, Within, Merge of the package. Own work of this project; in part printed by a program of it.
-/
section
set_option maxRecDepth 100000
set_option maxHeartbeats 8000000
namespace Go.AM
open Go Go.Proofs

variable {s t u : St}
def dwinP (D G : DDg) : Bool × Int := if dgV D = true ∧ dgV G = true then (dgWithin D G, 0) else (false, 2)
theorem dwinP_ok {D G : DDg} (h : dgV D = true) (k : dgV G = true) : dwinP D G = (dgWithin D G, 0) := by unfold dwinP; rw [if_pos ⟨h, k⟩]
theorem dwinP_bad {D G : DDg} (h : ¬ (dgV D = true ∧ dgV G = true)) : dwinP D G = (false, 2) := by unfold dwinP; rw [if_neg h]
noncomputable def R_DgWithin : Con := runFn (tb [(12, R_DgValid), (36, R_CWithin)]) a43
theorem s_DgWithin : SoundAt Tryz.prog 43 R_DgWithin := run_sound (tb_sound (l := [(12, R_DgValid), (36, R_CWithin)]) (by simpa using ⟨s_DgValid, s_CWithin⟩)) mixed Tryz.func43 k43 c43
theorem n_DgWithin : noNxtC a43.body = true := by kernel_rfl
theorem w_DgWithin {s : St} {a1 b1 c1 d1 : AV} {D : DDg} (hD : DgR s a1 b1 c1 d1 D) (hDl : DgL D 1000) {a2 b2 c2 d2 : AV} {G : DDg} (hG : DgR s a2 b2 c2 d2 G) (hGl : DgL G 1000) : ∀ env : Env, elen env = a43.ntmps → (∀ i x_, [.agg [a1, b1, c1, d1], .agg [a2, b2, c2, d2]][i]? = some x_ → E env i = x_) → awp (tb [(12, R_DgValid), (36, R_CWithin)]) a43.body (fun x e t => (∀ i, x ≠ .exit i) ∧ aresults e t a43.results = some (.tup [.bool (dwinP D G).1, .int .i64 (dwinP D G).2]) ∧ Keep s t) env s := by
  intro env hlen ha
  have h0 : E env 0 = _ := ha 0 _ rfl
  have h1 : E env 1 = _ := ha 1 _ rfl
  have hlen : elen env = _ := hlen
  simp only [a43] at hlen
  unfold a43
  try dsimp only [oO, oG]
  have hbx := hD.box
  have hby := hG.box
  have hK2 : Keep s ((s.push (.row [a1, b1, c1, d1] true)).push (.row [a2, b2, c2, d2] true)) := ((Keep.refl s).push _).push _
  have hK12 : Keep (s.push (.row [a1, b1, c1, d1] true)) ((s.push (.row [a1, b1, c1, d1] true)).push (.row [a2, b2, c2, d2] true)) := (Keep.refl _).push _
  obtain ⟨p1, p2, p3, p4, p5, p6, p7, p8⟩ := box_dg s a1 b1 c1 d1 hK12
  obtain ⟨r1, r2, r3, r4, r5, r6, r7, r8⟩ := box_dg (s.push (.row [a1, b1, c1, d1] true)) a2 b2 c2 d2 (.refl _)
  have v1 := q_DgValid false (hD.keep hK2) hDl
  have v2 := q_DgValid false (hG.keep hK2) hGl
  have n20 : ((2 : Int) = 0) = False := eq_false (by decide)
  have n00 : ((0 : Int) = 0) = True := eq_true rfl
  cases h1s : dgV D
  · rw [h1s] at v1
    rw [dwinP_bad (by rw [h1s]; simp)]
    simp (config := {contextual := true, maxDischargeDepth := 12}) only [tb_at, h0, h1, hlen, v1, notV_bool, Bool.not_false, hbx, hby, p1, p2, p3, p4, p5, p6, p7, p8, r1, r2, r3, r4, r5, r6, r7, r8, ↓bD, bU, forall_const, bS, implies_true, isNx, eq_self, ↓wp_cond, ↓wp_loop, ↓reduceIte, reduceCtorEq, Nat.reduceEqDiff, Nat.reduceLT, Nat.reduceAdd, Nat.reduceMul, bT, ↓sg_bsl, ↓st_callf, bX, List.cons_append, List.nil_append, ↓st_appf, bY, slcV_nils0N, slcV_sl0N, bslV_0N, bin_shr1, bsl_nd]
    all_goals first | exact hK2 | skip
  rw [h1s] at v1
  cases h2s : dgV G
  · rw [h2s] at v2
    rw [dwinP_bad (by rw [h2s]; simp)]
    simp (config := {contextual := true, maxDischargeDepth := 12}) only [tb_at, h0, h1, hlen, v1, v2, notV_bool, Bool.not_true, Bool.not_false, hbx, hby, p1, p2, p3, p4, p5, p6, p7, p8, r1, r2, r3, r4, r5, r6, r7, r8, ↓bD, bU, forall_const, bS, implies_true, isNx, eq_self, ↓wp_cond, ↓wp_loop, ↓reduceIte, reduceCtorEq, Nat.reduceEqDiff, Nat.reduceLT, Nat.reduceAdd, Nat.reduceMul, bT, ↓sg_bsl, ↓st_callf, bX, List.cons_append, List.nil_append, ↓st_appf, bY, slcV_nils0N, slcV_sl0N, bslV_0N, bin_shr1, bsl_nd]
    all_goals first | exact hK2 | skip
  rw [h2s] at v2
  rw [dwinP_ok h1s h2s]
  obtain ⟨x1, x2, _⟩ := dgV_parts h1s
  obtain ⟨y1, y2, _⟩ := dgV_parts h2s
  have w1 := q_CWithin false (hK2.read hD.r1) (hK2.read hD.r2) (lim_80 hDl.l1) (lim_80 hDl.l2) (hK2.read hG.r1) (hK2.read hG.r2) (lim_80 hGl.l1) (lim_80 hGl.l2) (isC_cvalid x1) (isC_cvalid y1)
  have w2 := q_CWithin false (hK2.read hD.r3) (hK2.read hD.r4) (lim_80 hDl.l3) (lim_80 hDl.l4) (hK2.read hG.r3) (hK2.read hG.r4) (lim_80 hGl.l3) (lim_80 hGl.l4) (isC_cvalid x2) (isC_cvalid y2)
  rw [win_eq x1 y1] at w1
  rw [win_eq x2 y2] at w2
  unfold dgWithin
  cases hj : jwithin D.all G.all
  · rw [hj] at w1
    simp (config := {contextual := true, maxDischargeDepth := 12}) only [tb_at, h0, h1, hlen, v1, v2, w1, n00, decide_true, notV_bool, bin_eqE, Bool.not_true, Bool.not_false, Bool.false_and, hbx, hby, p1, p2, p3, p4, p5, p6, p7, p8, r1, r2, r3, r4, r5, r6, r7, r8, ↓bD, bU, forall_const, bS, implies_true, isNx, eq_self, ↓wp_cond, ↓wp_loop, ↓reduceIte, reduceCtorEq, Nat.reduceEqDiff, Nat.reduceLT, Nat.reduceAdd, Nat.reduceMul, bT, ↓sg_bsl, ↓st_callf, bX, List.cons_append, List.nil_append, ↓st_appf, bY, slcV_nils0N, slcV_sl0N, bslV_0N, bin_shr1, bsl_nd]
    all_goals first | exact hK2 | skip
  · rw [hj] at w1
    simp (config := {contextual := true, maxDischargeDepth := 12}) only [tb_at, h0, h1, hlen, v1, v2, w1, w2, n00, decide_true, notV_bool, bin_eqE, Bool.not_true, Bool.not_false, Bool.true_and, hbx, hby, p1, p2, p3, p4, p5, p6, p7, p8, r1, r2, r3, r4, r5, r6, r7, r8, ↓bD, bU, forall_const, bS, implies_true, isNx, eq_self, ↓wp_cond, ↓wp_loop, ↓reduceIte, reduceCtorEq, Nat.reduceEqDiff, Nat.reduceLT, Nat.reduceAdd, Nat.reduceMul, bT, ↓sg_bsl, ↓st_callf, bX, List.cons_append, List.nil_append, ↓st_appf, bY, slcV_nils0N, slcV_sl0N, bslV_0N, bin_shr1, bsl_nd]
    all_goals first | exact hK2 | skip
theorem q_DgWithin (cl : Bool) {s : St} {a1 b1 c1 d1 : AV} {D : DDg} (hD : DgR s a1 b1 c1 d1 D) (hDl : DgL D 1000) {a2 b2 c2 d2 : AV} {G : DDg} (hG : DgR s a2 b2 c2 d2 G) (hGl : DgL G 1000) : acall R_DgWithin cl [.agg [a1, b1, c1, d1], .agg [a2, b2, c2, d2]] s = some (.tup [.bool (dwinP D G).1, .int .i64 (dwinP D G).2], s) := run_same n_DgWithin (by simp [a43]) rfl (w_DgWithin (s := lowd s) hD.low hDl hG.low hGl)

def dmerP (D G : DDg) : DDg × Int := if dgV D = true ∧ dgV G = true then (dgMerge D G, 0) else (⟨⟨[], []⟩, ⟨[], []⟩⟩, 2)
theorem dmerP_ok {D G : DDg} (h : dgV D = true) (k : dgV G = true) : dmerP D G = (dgMerge D G, 0) := by unfold dmerP; rw [if_pos ⟨h, k⟩]
theorem dmerP_bad {D G : DDg} (h : ¬ (dgV D = true ∧ dgV G = true)) : dmerP D G = (⟨⟨[], []⟩, ⟨[], []⟩⟩, 2) := by unfold dmerP; rw [if_neg h]
noncomputable def R_DgMerge : Con := runFn (tb [(12, R_DgValid), (56, R_CUnion)]) a44
theorem s_DgMerge : SoundAt Tryz.prog 44 R_DgMerge := run_sound (tb_sound (l := [(12, R_DgValid), (56, R_CUnion)]) (by simpa using ⟨s_DgValid, s_CUnion⟩)) mixed Tryz.func44 k44 c44
theorem n_DgMerge : noNxtC a44.body = true := by kernel_rfl
theorem w_DgMerge_bad {s : St} {a1 b1 c1 d1 : AV} {D : DDg} (hD : DgR s a1 b1 c1 d1 D) (hDl : DgL D 1000) {a2 b2 c2 d2 : AV} {G : DDg} (hG : DgR s a2 b2 c2 d2 G) (hGl : DgL G 1000) (hb : ¬ (dgV D = true ∧ dgV G = true)) : ∀ env : Env, elen env = a44.ntmps → (∀ i x_, [.agg [a1, b1, c1, d1], .agg [a2, b2, c2, d2]][i]? = some x_ → E env i = x_) → awp (tb [(12, R_DgValid), (56, R_CUnion)]) a44.body (fun x e t => (∀ i, x ≠ .exit i) ∧ aresults e t a44.results = some (.tup [.agg [.nils, .nils, .nils, .nils], .int .i64 2]) ∧ Keep s t) env s := by
  intro env hlen ha
  have h0 : E env 0 = _ := ha 0 _ rfl
  have h1 : E env 1 = _ := ha 1 _ rfl
  have hlen : elen env = _ := hlen
  simp only [a44] at hlen
  unfold a44
  try dsimp only [oO, oG]
  have hbx := hD.box
  have hby := hG.box
  have hK2 : Keep s (((s.push (.row [a1, b1, c1, d1] true)).push (.row [a2, b2, c2, d2] true)).push (.row [.nils, .nils, .nils, .nils] true)) := (((Keep.refl s).push _).push _).push _
  have hK12 : Keep (s.push (.row [a1, b1, c1, d1] true)) (((s.push (.row [a1, b1, c1, d1] true)).push (.row [a2, b2, c2, d2] true)).push (.row [.nils, .nils, .nils, .nils] true)) := ((Keep.refl _).push _).push _
  have hK22 : Keep ((s.push (.row [a1, b1, c1, d1] true)).push (.row [a2, b2, c2, d2] true)) (((s.push (.row [a1, b1, c1, d1] true)).push (.row [a2, b2, c2, d2] true)).push (.row [.nils, .nils, .nils, .nils] true)) := (Keep.refl _).push _
  obtain ⟨p1, p2, p3, p4, p5, p6, p7, p8⟩ := box_dg s a1 b1 c1 d1 hK12
  obtain ⟨r1, r2, r3, r4, r5, r6, r7, r8⟩ := box_dg (s.push (.row [a1, b1, c1, d1] true)) a2 b2 c2 d2 hK22
  have hb3 := St.get_push_new ((s.push (.row [a1, b1, c1, d1] true)).push (.row [a2, b2, c2, d2] true)) (.row [.nils, .nils, .nils, .nils] true)
  have v1 := q_DgValid false (hD.keep hK2) hDl
  have v2 := q_DgValid false (hG.keep hK2) hGl
  have st4 := sto_dg (show sameN ((s.push (.row [a1, b1, c1, d1] true)).push (.row [a2, b2, c2, d2] true)).next ((s.push (.row [a1, b1, c1, d1] true)).push (.row [a2, b2, c2, d2] true)) from rfl) (DgR.nils (t := s))
  obtain ⟨s1_, s2_, s3_, s4_, s5_, s6_, s7_, s8_⟩ := row4_lods (St.get_push_new ((s.push (.row [a1, b1, c1, d1] true)).push (.row [a2, b2, c2, d2] true)).lowed (.row [.nils, .nils, .nils, .nils] true))
  have s1_ : lod (((s.push (.row [a1, b1, c1, d1] true)).push (.row [a2, b2, c2, d2] true)).lowed.push (.row [.nils, .nils, .nils, .nils] true)) 4 (.ptr ((s.push (.row [a1, b1, c1, d1] true)).push (.row [a2, b2, c2, d2] true)).next 0) = some (.agg [.nils, .nils, .nils, .nils]) := s1_
  have s8_ : ltN ((s.push (.row [a1, b1, c1, d1] true)).push (.row [a2, b2, c2, d2] true)).next (((s.push (.row [a1, b1, c1, d1] true)).push (.row [a2, b2, c2, d2] true)).lowed.push (.row [.nils, .nils, .nils, .nils] true)) := s8_
  have hKb : Keep s (((s.push (.row [a1, b1, c1, d1] true)).push (.row [a2, b2, c2, d2] true)).lowed.push (.row [.nils, .nils, .nils, .nils] true)) := (((Keep.refl s).push _).push _).lowed.push _
  have n20 : ((2 : Int) = 0) = False := eq_false (by decide)
  have n00 : ((0 : Int) = 0) = True := eq_true rfl
  cases h1s : dgV D
  · rw [h1s] at v1
    simp (config := {contextual := true, maxDischargeDepth := 12}) only [tb_at, h0, h1, hlen, v1, notV_bool, Bool.not_false, ap_build, fillP_nil, st4, s1_, s8_, rc2, hbx, hby, p1, p2, p3, p4, p5, p6, p7, p8, r1, r2, r3, r4, r5, r6, r7, r8, ↓bD, bU, forall_const, bS, implies_true, isNx, eq_self, ↓wp_cond, ↓wp_loop, ↓reduceIte, reduceCtorEq, Nat.reduceEqDiff, Nat.reduceLT, Nat.reduceAdd, Nat.reduceMul, bT, ↓sg_bsl, ↓st_callf, bX, List.cons_append, List.nil_append, ↓st_appf, bY, slcV_nils0N, slcV_sl0N, bslV_0N, bin_shr1, bsl_nd]
    all_goals first | exact hKb | skip
  rw [h1s] at v1
  have h2s : dgV G = false := by
    cases h : dgV G
    · rfl
    · exact absurd ⟨h1s, h⟩ hb
  rw [h2s] at v2
  simp (config := {contextual := true, maxDischargeDepth := 12}) only [tb_at, h0, h1, hlen, v1, v2, notV_bool, Bool.not_true, Bool.not_false, ap_build, fillP_nil, st4, s1_, s8_, rc2, hbx, hby, p1, p2, p3, p4, p5, p6, p7, p8, r1, r2, r3, r4, r5, r6, r7, r8, ↓bD, bU, forall_const, bS, implies_true, isNx, eq_self, ↓wp_cond, ↓wp_loop, ↓reduceIte, reduceCtorEq, Nat.reduceEqDiff, Nat.reduceLT, Nat.reduceAdd, Nat.reduceMul, bT, ↓sg_bsl, ↓st_callf, bX, List.cons_append, List.nil_append, ↓st_appf, bY, slcV_nils0N, slcV_sl0N, bslV_0N, bin_shr1, bsl_nd]
  all_goals first | exact hKb | skip
theorem q_DgMerge_bad (cl : Bool) {s : St} {a1 b1 c1 d1 : AV} {D : DDg} (hD : DgR s a1 b1 c1 d1 D) (hDl : DgL D 1000) {a2 b2 c2 d2 : AV} {G : DDg} (hG : DgR s a2 b2 c2 d2 G) (hGl : DgL G 1000) (hb : ¬ (dgV D = true ∧ dgV G = true)) : acall R_DgMerge cl [.agg [a1, b1, c1, d1], .agg [a2, b2, c2, d2]] s = some (.tup [.agg [.nils, .nils, .nils, .nils], .int .i64 2], s) := run_same n_DgMerge (by simp [a44]) rfl (w_DgMerge_bad (s := lowd s) hD.low hDl hG.low hGl hb)
theorem w_DgMerge {s : St} {a1 b1 c1 d1 : AV} {D : DDg} (hD : DgR s a1 b1 c1 d1 D) (hDl : DgL D 1000) {a2 b2 c2 d2 : AV} {G : DDg} (hG : DgR s a2 b2 c2 d2 G) (hGl : DgL G 1000) (hvD : dgV D = true) (hvG : dgV G = true) : ∀ env : Env, elen env = a44.ntmps → (∀ i x_, [.agg [a1, b1, c1, d1], .agg [a2, b2, c2, d2]][i]? = some x_ → E env i = x_) → awp (tb [(12, R_DgValid), (56, R_CUnion)]) a44.body (fun x e t => (∀ i, x ≠ .exit i) ∧ ∃ r, aresults e t a44.results = some r ∧ (∃ x1 x2 x3 x4, r = .tup [.agg [x1, x2, x3, x4], .int .i64 0] ∧ DgR t x1 x2 x3 x4 (dgMerge D G)) ∧ Keep s t) env s := by
  intro env hlen ha
  have h0 : E env 0 = _ := ha 0 _ rfl
  have h1 : E env 1 = _ := ha 1 _ rfl
  have hlen : elen env = _ := hlen
  simp only [a44] at hlen
  unfold a44
  try dsimp only [oO, oG]
  have hbx := hD.box
  have hby := hG.box
  have hK2 : Keep s (((s.push (.row [a1, b1, c1, d1] true)).push (.row [a2, b2, c2, d2] true)).push (.row [.nils, .nils, .nils, .nils] true)) := (((Keep.refl s).push _).push _).push _
  have hK12 : Keep (s.push (.row [a1, b1, c1, d1] true)) (((s.push (.row [a1, b1, c1, d1] true)).push (.row [a2, b2, c2, d2] true)).push (.row [.nils, .nils, .nils, .nils] true)) := ((Keep.refl _).push _).push _
  have hK22 : Keep ((s.push (.row [a1, b1, c1, d1] true)).push (.row [a2, b2, c2, d2] true)) (((s.push (.row [a1, b1, c1, d1] true)).push (.row [a2, b2, c2, d2] true)).push (.row [.nils, .nils, .nils, .nils] true)) := (Keep.refl _).push _
  obtain ⟨p1, p2, p3, p4, p5, p6, p7, p8⟩ := box_dg s a1 b1 c1 d1 hK12
  obtain ⟨r1, r2, r3, r4, r5, r6, r7, r8⟩ := box_dg (s.push (.row [a1, b1, c1, d1] true)) a2 b2 c2 d2 hK22
  have hb3 := St.get_push_new ((s.push (.row [a1, b1, c1, d1] true)).push (.row [a2, b2, c2, d2] true)) (.row [.nils, .nils, .nils, .nils] true)
  have v1 := q_DgValid false (hD.keep hK2) hDl
  have v2 := q_DgValid false (hG.keep hK2) hGl
  rw [hvD] at v1
  rw [hvG] at v2
  obtain ⟨z1, z2, _⟩ := dgV_parts hvD
  obtain ⟨y1, y2, _⟩ := dgV_parts hvG
  obtain ⟨x1, x2, t1, q1, hC1, hKa⟩ := q_CUnion (hK2.read hD.r1) (hK2.read hD.r2) (lim_80 hDl.l1) (lim_80 hDl.l2) (hK2.read hG.r1) (hK2.read hG.r2) (lim_80 hGl.l1) (lim_80 hGl.l2) (isC_cvalid z1) (isC_cvalid y1)
  have hs1 := sto_ctx (show sameN t1.next t1 from rfl) (read_oneD hC1.1).2 (read_oneD hC1.2).2
  have hK3 : Keep t1 (t1.lowed.push (.row [x1, x2] true)) := (Keep.refl t1).lowed.push _
  have hg3 := St.get_push_new t1.lowed (.row [x1, x2] true)
  have hKb := (hK2.trans hKa).trans hK3
  obtain ⟨P1, P2, P3, P4, P5, P6, P7, P8⟩ := box_dg s a1 b1 c1 d1 ((hK12.trans hKa).trans hK3)
  obtain ⟨R1, R2, R3, R4, R5, R6, R7, R8⟩ := box_dg (s.push (.row [a1, b1, c1, d1] true)) a2 b2 c2 d2 ((hK22.trans hKa).trans hK3)
  obtain ⟨x3, x4, t2, q2, hC2, hK4⟩ := q_CUnion (hKb.read hD.r3) (hKb.read hD.r4) (lim_80 hDl.l3) (lim_80 hDl.l4) (hKb.read hG.r3) (hKb.read hG.r4) (lim_80 hGl.l3) (lim_80 hGl.l4) (isC_cvalid z2) (isC_cvalid y2)
  have hs2 := sto_ctx (show sameN t2.next t2 from rfl) (read_oneD hC2.1).2 (read_oneD hC2.2).2
  have hK5 : Keep t2 (t2.lowed.push (.row [x3, x4] true)) := (Keep.refl t2).lowed.push _
  have hg5 := St.get_push_new t2.lowed (.row [x3, x4] true)
  have e1 : lod (t2.lowed.push (.row [x3, x4] true)) 2 (.ptr t1.next 0) = some (.agg [x1, x2]) := lod_row2 ((hK4.trans hK5).blk hg3)
  have e2 : ltN t1.next (t2.lowed.push (.row [x3, x4] true)) := St.get_lt ((hK4.trans hK5).blk hg3)
  have e3 : lod (t2.lowed.push (.row [x3, x4] true)) 2 (.ptr t2.next 0) = some (.agg [x3, x4]) := lod_row2 hg5
  have e4 : ltN t2.next (t2.lowed.push (.row [x3, x4] true)) := St.get_lt hg5
  have hC1' := hC1.keep ((hK3.trans hK4).trans hK5)
  have hC2' := hC2.keep hK5
  have hR : DgR (t2.lowed.push (.row [x3, x4] true)) x1 x2 x3 x4 (dgMerge D G) := ⟨hC1'.1, hC1'.2, hC2'.1, hC2'.2⟩
  have hKr : Keep (((s.push (.row [a1, b1, c1, d1] true)).push (.row [a2, b2, c2, d2] true)).push (.row [.nils, .nils, .nils, .nils] true)) (t2.lowed.push (.row [x3, x4] true)) := (hKa.trans hK3).trans (hK4.trans hK5)
  have hbx4 := hKr.blk hb3
  have f0 := fstep_q0 (read_oneD hR.r1).2 (read_oneD hR.r2).2 .nils .nils .nils .nils
  have f2 := fstep_q2 (read_oneD hR.r3).2 (read_oneD hR.r4).2 x1 x2 .nils .nils
  have st4 := sto_row4 hbx4 hR
  have hlt := St.get_lt hbx4
  obtain ⟨s1_, s2_, s3_, s4_, s5_, s6_, s7_, s8_⟩ := row4_lods (St.get_put_same (b := .row [x1, x2, x3, x4] true) hbx4)
  have n20 : ((2 : Int) = 0) = False := eq_false (by decide)
  have n00 : ((0 : Int) = 0) = True := eq_true rfl
  simp (config := {contextual := true, maxDischargeDepth := 12}) only [tb_at, h0, h1, hlen, v1, v2, q1, hs1, q2, hs2, e1, e2, e3, e4, P1, P2, P3, P8, R1, R2, R3, R8, n00, decide_true, notV_bool, Bool.not_true, bin_eqE, ap_build, fillP_nil, fillP_cons, f0, f2, st4, hlt, s1_, s8_, rc2, hbx, hby, p1, p2, p3, p4, p5, p6, p7, p8, r1, r2, r3, r4, r5, r6, r7, r8, ↓bD, bU, forall_const, bS, implies_true, isNx, eq_self, ↓wp_cond, ↓wp_loop, ↓reduceIte, reduceCtorEq, Nat.reduceEqDiff, Nat.reduceLT, Nat.reduceAdd, Nat.reduceMul, bT, ↓sg_bsl, ↓st_callf, bX, List.cons_append, List.nil_append, ↓st_appf, bY, slcV_nils0N, slcV_sl0N, bslV_0N, bin_shr1, bsl_nd]
  exact ⟨_, rfl, ⟨x1, x2, x3, x4, rfl, dgr_put hbx4 hR⟩, (hK2.trans hKr).put _ (by simp; omega) hlt⟩
theorem q_DgMerge {s : St} {a1 b1 c1 d1 : AV} {D : DDg} (hD : DgR s a1 b1 c1 d1 D) (hDl : DgL D 1000) {a2 b2 c2 d2 : AV} {G : DDg} (hG : DgR s a2 b2 c2 d2 G) (hGl : DgL G 1000) (hvD : dgV D = true) (hvG : dgV G = true) : ∃ x1 x2 x3 x4 t, acall R_DgMerge false [.agg [a1, b1, c1, d1], .agg [a2, b2, c2, d2]] s = some (.tup [.agg [x1, x2, x3, x4], .int .i64 0], t) ∧ DgR t x1 x2 x3 x4 (dgMerge D G) ∧ Keep s t := by
  obtain ⟨r, t, h1, ⟨x1, x2, x3, x4, rfl, h2⟩, h3⟩ := run_any n_DgMerge (args := [.agg [a1, b1, c1, d1], .agg [a2, b2, c2, d2]]) (Q := fun r t => ∃ x1 x2 x3 x4, r = .tup [.agg [x1, x2, x3, x4], .int .i64 0] ∧ DgR t x1 x2 x3 x4 (dgMerge D G)) (by simp [a44]) (fun r t t' hg hn ⟨x1, x2, x3, x4, e, h⟩ => ⟨x1, x2, x3, x4, e, h.mono fun id b hb => by rw [hg]; exact hb⟩) (fun r t hgr hk ⟨x1, x2, x3, x4, e, h⟩ => ⟨x1, x2, x3, x4, e, by
    rw [e] at hgr
    obtain ⟨g1, g2, g3, g4⟩ := ground4t hgr
    exact h.ground (plain_ground g1) (plain_ground g2) (plain_ground g3) (plain_ground g4)⟩) (w_DgMerge (s := lowd s) hD.low hDl hG.low hGl hvD hvG)
  exact ⟨x1, x2, x3, x4, t, h1, h2, h3⟩

end Go.AM
end
/-
  Contracts of digests that the kernel runs. Own work of this project; in part printed by a program of it.
-/
section
set_option maxRecDepth 100000
set_option maxHeartbeats 8000000
namespace Go.AM
open Go Go.Proofs

variable {s t u : St}

def rdDg (s : St) (a b c d : AV) : Option DDg := match AM.read dotC s a, AM.read dotC s b, AM.read dotC s c, AM.read dotC s d with
  | some v1, some c1, some v2, some c2 => if v1.length ≤ 1000 ∧ c1.length ≤ 1000 ∧ v2.length ≤ 1000 ∧ c2.length ≤ 1000 then some ⟨⟨v1, c1⟩, ⟨v2, c2⟩⟩ else none
  | _, _, _, _ => none
theorem rdDg_some {s : St} {a b c d : AV} {D : DDg} (h : rdDg s a b c d = some D) : DgR s a b c d D ∧ DgL D 1000 := by
  unfold rdDg at h
  split at h
  · split at h
    · rename_i h1 h2 h3 h4 hl
      injection h with h
      subst h
      exact ⟨⟨h1, h2, h3, h4⟩, ⟨hl.1, hl.2.1, hl.2.2.1, hl.2.2.2⟩⟩
    · cases h
  · cases h
def cDg (f : DDg → AV) : Con := fun xs s => match xs with
  | [.agg [a, b, c, d]] => (rdDg s a b c d).map fun D => (f D, s.lowed)
  | _ => none
def cDgDg (f : DDg → DDg → AV) : Con := fun xs s => match xs with
  | [.agg [a, b, c, d], .agg [a', b', c', d']] => match rdDg s a b c d, rdDg s a' b' c' d' with
    | some D, some G => some (f D G, s.lowed)
    | _, _ => none
  | _ => none
theorem cDg_some {f : DDg → AV} {xs : List AV} {s s' : St} {r : AV} (h : cDg f xs s = some (r, s')) : ∃ a b c d D, xs = [.agg [a, b, c, d]] ∧ DgR s a b c d D ∧ DgL D 1000 ∧ r = f D ∧ s' = s.lowed := by
  unfold cDg at h
  split at h
  · obtain ⟨D, h1, h2⟩ := Option.map_eq_some_iff.1 h
    obtain ⟨rfl, rfl⟩ := Prod.mk.inj h2
    exact ⟨_, _, _, _, D, rfl, (rdDg_some h1).1, (rdDg_some h1).2, rfl, rfl⟩
  · cases h
theorem cDgDg_some {f : DDg → DDg → AV} {xs : List AV} {s s' : St} {r : AV} (h : cDgDg f xs s = some (r, s')) : ∃ a b c d a' b' c' d' D G, xs = [.agg [a, b, c, d], .agg [a', b', c', d']] ∧ DgR s a b c d D ∧ DgL D 1000 ∧ DgR s a' b' c' d' G ∧ DgL G 1000 ∧ r = f D G ∧ s' = s.lowed := by
  unfold cDgDg at h
  split at h
  · split at h
    · rename_i D G h1 h2
      injection h with h
      obtain ⟨rfl, rfl⟩ := Prod.mk.inj h
      exact ⟨_, _, _, _, _, _, _, _, D, G, rfl, (rdDg_some h1).1, (rdDg_some h1).2, (rdDg_some h2).1, (rdDg_some h2).2, rfl, rfl⟩
    · cases h
  · cases h
theorem k_DgValid : SoundAt Tryz.prog 12 (cDg fun D => .bool (dgV D)) :=
  con_keep (tb_sound (l := [(36, R_CWithin), (37, R_IsC)]) (by simpa using ⟨s_CWithin, s_IsC⟩)) mixed Tryz.func12 k12 c12 fun args s r s' h => by
    obtain ⟨a, b, c, d, D, rfl, hD, hDl, rfl, rfl⟩ := cDg_some h
    exact ⟨rfl, rfl, by simp [a12], fun env hlen ha => w_DgValid hD hDl env hlen ha⟩
theorem k_DgWithin : SoundAt Tryz.prog 43 (cDgDg fun D G => .tup [.bool (dwinP D G).1, .int .i64 (dwinP D G).2]) :=
  con_keep (tb_sound (l := [(12, R_DgValid), (36, R_CWithin)]) (by simpa using ⟨s_DgValid, s_CWithin⟩)) mixed Tryz.func43 k43 c43 fun args s r s' h => by
    obtain ⟨a, b, c, d, a', b', c', d', D, G, rfl, hD, hDl, hG, hGl, rfl, rfl⟩ := cDgDg_some h
    exact ⟨rfl, rfl, by simp [a43], fun env hlen ha => w_DgWithin hD hDl hG hGl env hlen ha⟩
theorem k_RgSame : SoundAt Tryz.prog 26 (cDgDg fun D G => .bool (decide (D = G))) :=
  con_keep (tb_sound (l := [(47, R_JSameC)]) (by simpa using s_JSameC)) mixed Tryz.func26 k26 c26 fun args s r s' h => by
    obtain ⟨a, b, c, d, a', b', c', d', D, G, rfl, hD, hDl, hG, hGl, rfl, rfl⟩ := cDgDg_some h
    exact ⟨rfl, rfl, by simp [a26], fun env hlen ha => w_RgSame hD hDl hG hGl env hlen ha⟩

end Go.AM
end
/-
  What a closed run by the kernel shows. Own work of this project.
-/
section
namespace Go.AM
open Go

def isTrue : Option (AV × St) → Bool
  | some (.bool true, _) => true
  | _ => false
theorem isTrue_ex {o : Option (AV × St)} (h : isTrue o = true) : ∃ s, o = some (.bool true, s) := by
  unfold isTrue at h
  split at h
  · exact ⟨_, rfl⟩
  · cases h
end Go.AM
end
/-
  The chapter's examples: 'known' answers true. Own work of this project; in part printed by a program of it.
-/
section
set_option maxRecDepth 100000
set_option maxHeartbeats 4000000
namespace Go.AM
open Go Go.Proofs

def tabK : Nat → AFun
  | 8 => .code a8
  | 31 => .code a31
  | 10 => .code a10
  | 15 => .code a15
  | 23 => .code a23
  | 21 => .code a21
  | 28 => .code a28
  | 42 => .code a42
  | 63 => .code a63
  | 18 => .code a18
  | 44 => .code a44
  | 20 => .code a20
  | 56 => .code a56
  | 64 => .code a64
  | 68 => .code a68
  | 94 => .code a94
  | 57 => .code a57
  | 60 => .code a60
  | 87 => .code a87
  | 107 => .code a107
  | 85 => .code a85
  | 59 => .code a59
  | 84 => .code a84
  | 82 => .code a82
  | 91 => .code a91
  | 79 => .code a79
  | 106 => .code a106
  | 92 => .code a92
  | 97 => .code a97
  | 93 => .code a93
  | 86 => .code a86
  | 113 => .code a113
  | 80 => .code a80
  | 102 => .code a102
  | 50 => .code a50
  | 103 => .code a103
  | 62 => .code a62
  | 48 => .code a48
  | 49 => .code a49
  | 72 => .code a72
  | 69 => .code a69
  | 90 => .code a90
  | 76 => .code a76
  | 73 => .code a73
  | 98 => .code a98
  | 109 => .code a109
  | 118 => .code a118
  | 81 => .code a81
  | 71 => .code a71
  | 61 => .code a61
  | 105 => .code a105
  | 89 => .code a89
  | 88 => .code a88
  | 83 => .code a83
  | 95 => .code a95
  | 104 => .code a104
  | 101 => .code a101
  | 114 => .code a114
  | 112 => .code a112
  | 120 => .code a120
  | 119 => .code a119
  | 108 => .code a108
  | 115 => .code a115
  | 70 => .code a70
  | 74 => .code a74
  | 75 => .code a75
  | 96 => .code a96
  | 100 => .con (conF dotC (pL dotC gMade))
  | 116 => .con (cPdq 50 (fun _ => true) sortD)
  | 117 => .con (cBits)
  | 41 => .con (conL ndC fValid)
  | 12 => .con (cDg fun D => .bool (dgV D))
  | 43 => .con (cDgDg fun D G => .tup [.bool (dwinP D G).1, .int .i64 (dwinP D G).2])
  | 26 => .con (cDgDg fun D G => .bool (decide (D = G)))
  | _ => .no
theorem tabK_ok : ∀ f, FunOk Tryz.prog f (tabK f) := by
  intro f
  unfold tabK
  split
  · exact ⟨k8, _, Tryz.func8, c8⟩
  · exact ⟨k31, _, Tryz.func31, c31⟩
  · exact ⟨k10, _, Tryz.func10, c10⟩
  · exact ⟨k15, _, Tryz.func15, c15⟩
  · exact ⟨k23, _, Tryz.func23, c23⟩
  · exact ⟨k21, _, Tryz.func21, c21⟩
  · exact ⟨k28, _, Tryz.func28, c28⟩
  · exact ⟨k42, _, Tryz.func42, c42⟩
  · exact ⟨k63, _, Tryz.func63, c63⟩
  · exact ⟨k18, _, Tryz.func18, c18⟩
  · exact ⟨k44, _, Tryz.func44, c44⟩
  · exact ⟨k20, _, Tryz.func20, c20⟩
  · exact ⟨k56, _, Tryz.func56, c56⟩
  · exact ⟨k64, _, Tryz.func64, c64⟩
  · exact ⟨k68, _, Tryz.func68, c68⟩
  · exact ⟨k94, _, Tryz.func94, c94⟩
  · exact ⟨k57, _, Tryz.func57, c57⟩
  · exact ⟨k60, _, Tryz.func60, c60⟩
  · exact ⟨k87, _, Tryz.func87, c87⟩
  · exact ⟨k107, _, Tryz.func107, c107⟩
  · exact ⟨k85, _, Tryz.func85, c85⟩
  · exact ⟨k59, _, Tryz.func59, c59⟩
  · exact ⟨k84, _, Tryz.func84, c84⟩
  · exact ⟨k82, _, Tryz.func82, c82⟩
  · exact ⟨k91, _, Tryz.func91, c91⟩
  · exact ⟨k79, _, Tryz.func79, c79⟩
  · exact ⟨k106, _, Tryz.func106, c106⟩
  · exact ⟨k92, _, Tryz.func92, c92⟩
  · exact ⟨k97, _, Tryz.func97, c97⟩
  · exact ⟨k93, _, Tryz.func93, c93⟩
  · exact ⟨k86, _, Tryz.func86, c86⟩
  · exact ⟨k113, _, Tryz.func113, c113⟩
  · exact ⟨k80, _, Tryz.func80, c80⟩
  · exact ⟨k102, _, Tryz.func102, c102⟩
  · exact ⟨k50, _, Tryz.func50, c50⟩
  · exact ⟨k103, _, Tryz.func103, c103⟩
  · exact ⟨k62, _, Tryz.func62, c62⟩
  · exact ⟨k48, _, Tryz.func48, c48⟩
  · exact ⟨k49, _, Tryz.func49, c49⟩
  · exact ⟨k72, _, Tryz.func72, c72⟩
  · exact ⟨k69, _, Tryz.func69, c69⟩
  · exact ⟨k90, _, Tryz.func90, c90⟩
  · exact ⟨k76, _, Tryz.func76, c76⟩
  · exact ⟨k73, _, Tryz.func73, c73⟩
  · exact ⟨k98, _, Tryz.func98, c98⟩
  · exact ⟨k109, _, Tryz.func109, c109⟩
  · exact ⟨k118, _, Tryz.func118, c118⟩
  · exact ⟨k81, _, Tryz.func81, c81⟩
  · exact ⟨k71, _, Tryz.func71, c71⟩
  · exact ⟨k61, _, Tryz.func61, c61⟩
  · exact ⟨k105, _, Tryz.func105, c105⟩
  · exact ⟨k89, _, Tryz.func89, c89⟩
  · exact ⟨k88, _, Tryz.func88, c88⟩
  · exact ⟨k83, _, Tryz.func83, c83⟩
  · exact ⟨k95, _, Tryz.func95, c95⟩
  · exact ⟨k104, _, Tryz.func104, c104⟩
  · exact ⟨k101, _, Tryz.func101, c101⟩
  · exact ⟨k114, _, Tryz.func114, c114⟩
  · exact ⟨k112, _, Tryz.func112, c112⟩
  · exact ⟨k120, _, Tryz.func120, c120⟩
  · exact ⟨k119, _, Tryz.func119, c119⟩
  · exact ⟨k108, _, Tryz.func108, c108⟩
  · exact ⟨k115, _, Tryz.func115, c115⟩
  · exact ⟨k70, _, Tryz.func70, c70⟩
  · exact ⟨k74, _, Tryz.func74, c74⟩
  · exact ⟨k75, _, Tryz.func75, c75⟩
  · exact ⟨k96, _, Tryz.func96, c96⟩
  · exact s_VMade
  · exact s_pdqSSortD
  · exact s_bits
  · exact s_JValid
  · exact k_DgValid
  · exact k_DgWithin
  · exact k_RgSame
  · trivial
theorem known_run : isTrue (acalls tabK 400 20 8 [] St.empty) = true := by kernel_rfl
theorem s_known : SoundAt Tryz.prog 8 (closed [] (.bool true)) := by
  obtain ⟨s, hs⟩ := isTrue_ex known_run
  exact closed_sound (acalls_sound mixed tabK_ok 20 _) hs rfl
end Go.AM
end
/-
  The helpers of the statements of layer 16. Own work of this project; in part printed by a program of it.
-/
section
set_option maxRecDepth 100000
set_option maxHeartbeats 8000000
namespace Go.AM
open Go Go.Proofs

variable {s t u : St}

theorem dgL_nil {n : Nat} : DgL ⟨⟨[], []⟩, ⟨[], []⟩⟩ n := ⟨Nat.zero_le _, Nat.zero_le _, Nat.zero_le _, Nat.zero_le _⟩
noncomputable def R_diffs : Con := runFn (tb [(18, R_DgDiff), (20, conLL ndC ndC fSame)]) a15
theorem s_diffs : SoundAt Tryz.prog 15 R_diffs := run_sound (tb_sound (l := [(18, R_DgDiff), (20, conLL ndC ndC fSame)]) (by simpa using ⟨s_DgDiff, s_Same⟩)) mixed Tryz.func15 k15 c15
theorem n_diffs : noNxtC a15.body = true := by kernel_rfl
theorem w_diffs {s : St} {vl : AV} {l : List Nd} (hr : read ndC s vl = some l) (hl : l.length ≤ 1000) {a1 b1 c1 d1 : AV} {D : DDg} (hD : DgR s a1 b1 c1 d1 D) (hDl : DgL D 1000) {wl : AV} {m : List Nd} (hm : read ndC s wl = some m) (hml : m.length ≤ 1000) (c : Int) : ∀ env : Env, elen env = a15.ntmps → (∀ i x_, [vl, .agg [a1, b1, c1, d1], wl, .int .i64 c][i]? = some x_ → E env i = x_) → awp (tb [(18, R_DgDiff), (20, conLL ndC ndC fSame)]) a15.body (fun x e t => (∀ i, x ≠ .exit i) ∧ aresults e t a15.results = some (.bool (decide ((diffP l D).1 = m) && decide ((diffP l D).2 = c))) ∧ Keep s t) env s := by
  intro env hlen ha
  have h0 : E env 0 = _ := ha 0 _ rfl
  have h1 : E env 1 = _ := ha 1 _ rfl
  have h2 : E env 2 = _ := ha 2 _ rfl
  have h3 : E env 3 = _ := ha 3 _ rfl
  have hlen : elen env = _ := hlen
  simp only [a15] at hlen
  unfold a15
  try dsimp only [oO, oG]
  have hbx := hD.box
  have hK1 : Keep s (s.push (.row [a1, b1, c1, d1] true)) := (Keep.refl s).push _
  obtain ⟨p1, p2, p3, p4, p5, p6, p7, p8⟩ := box_dg s a1 b1 c1 d1 (.refl _)
  obtain ⟨v, t1, q1, hO, hKq⟩ := q_DgDiff (hK1.read hr) hl (hD.keep hK1) hDl
  have hKt := hK1.trans hKq
  have hlen1 := diffP_len l D
  have q2 := q_Same false hO.read (hKt.read hm) (by unfold lim; omega) (by unfold lim; omega)
  simp (config := {contextual := true, maxDischargeDepth := 12}) only [tb_at, h0, h1, h2, h3, hlen, hbx, p1, p2, p3, p4, p5, p6, p7, p8, q1, q2, bin_eqE, ↓bD, bU, forall_const, bS, implies_true, isNx, eq_self, ↓wp_cond, ↓wp_loop, ↓reduceIte, reduceCtorEq, Nat.reduceEqDiff, Nat.reduceLT, Nat.reduceAdd, Nat.reduceMul, bT, ↓sg_bsl, ↓st_callf, bX, List.cons_append, List.nil_append, ↓st_appf, bY, slcV_nils0N, slcV_sl0N, bslV_0N, bin_shr1, bsl_nd, q_known]
  all_goals first | exact hKt | skip
theorem q_diffs (cl : Bool) {s : St} {vl : AV} {l : List Nd} (hr : read ndC s vl = some l) (hl : l.length ≤ 1000) {a1 b1 c1 d1 : AV} {D : DDg} (hD : DgR s a1 b1 c1 d1 D) (hDl : DgL D 1000) {wl : AV} {m : List Nd} (hm : read ndC s wl = some m) (hml : m.length ≤ 1000) (c : Int) : acall R_diffs cl [vl, .agg [a1, b1, c1, d1], wl, .int .i64 c] s = some (.bool (decide ((diffP l D).1 = m) && decide ((diffP l D).2 = c)), s) := run_same n_diffs (by simp [a15]) rfl (w_diffs (s := lowd s) (read_low' hr) hl hD.low hDl (read_low' hm) hml c)
noncomputable def R_dwithin : Con := runFn (tb [(43, R_DgWithin)]) a21
theorem s_dwithin : SoundAt Tryz.prog 21 R_dwithin := run_sound (tb_sound (l := [(43, R_DgWithin)]) (by simpa using s_DgWithin)) mixed Tryz.func21 k21 c21
theorem n_dwithin : noNxtC a21.body = true := by kernel_rfl
theorem w_dwithin {s : St} {a1 b1 c1 d1 : AV} {D : DDg} (hD : DgR s a1 b1 c1 d1 D) (hDl : DgL D 1000) {a2 b2 c2 d2 : AV} {G : DDg} (hG : DgR s a2 b2 c2 d2 G) (hGl : DgL G 1000) (w : Bool) (c : Int) : ∀ env : Env, elen env = a21.ntmps → (∀ i x_, [.agg [a1, b1, c1, d1], .agg [a2, b2, c2, d2], .bool w, .int .i64 c][i]? = some x_ → E env i = x_) → awp (tb [(43, R_DgWithin)]) a21.body (fun x e t => (∀ i, x ≠ .exit i) ∧ aresults e t a21.results = some (.bool (((dwinP D G).1 == w) && decide ((dwinP D G).2 = c))) ∧ Keep s t) env s := by
  intro env hlen ha
  have h0 : E env 0 = _ := ha 0 _ rfl
  have h1 : E env 1 = _ := ha 1 _ rfl
  have h2 : E env 2 = _ := ha 2 _ rfl
  have h3 : E env 3 = _ := ha 3 _ rfl
  have hlen : elen env = _ := hlen
  simp only [a21] at hlen
  unfold a21
  try dsimp only [oO, oG]
  have hbx := hD.box
  have hby := hG.box
  have hK2 : Keep s ((s.push (.row [a1, b1, c1, d1] true)).push (.row [a2, b2, c2, d2] true)) := ((Keep.refl s).push _).push _
  have hK12 : Keep (s.push (.row [a1, b1, c1, d1] true)) ((s.push (.row [a1, b1, c1, d1] true)).push (.row [a2, b2, c2, d2] true)) := (Keep.refl _).push _
  obtain ⟨p1, p2, p3, p4, p5, p6, p7, p8⟩ := box_dg s a1 b1 c1 d1 hK12
  obtain ⟨r1, r2, r3, r4, r5, r6, r7, r8⟩ := box_dg (s.push (.row [a1, b1, c1, d1] true)) a2 b2 c2 d2 (.refl _)
  have q1 := q_DgWithin false (hD.keep hK2) hDl (hG.keep hK2) hGl
  simp (config := {contextual := true, maxDischargeDepth := 12}) only [tb_at, h0, h1, h2, h3, hlen, hbx, hby, p1, p2, p3, p4, p5, p6, p7, p8, r1, r2, r3, r4, r5, r6, r7, r8, q1, bin_eqE, bin_eqb, ↓bD, bU, forall_const, bS, implies_true, isNx, eq_self, ↓wp_cond, ↓wp_loop, ↓reduceIte, reduceCtorEq, Nat.reduceEqDiff, Nat.reduceLT, Nat.reduceAdd, Nat.reduceMul, bT, ↓sg_bsl, ↓st_callf, bX, List.cons_append, List.nil_append, ↓st_appf, bY, slcV_nils0N, slcV_sl0N, bslV_0N, bin_shr1, bsl_nd, q_known]
  all_goals first | exact hK2 | skip
theorem q_dwithin (cl : Bool) {s : St} {a1 b1 c1 d1 : AV} {D : DDg} (hD : DgR s a1 b1 c1 d1 D) (hDl : DgL D 1000) {a2 b2 c2 d2 : AV} {G : DDg} (hG : DgR s a2 b2 c2 d2 G) (hGl : DgL G 1000) (w : Bool) (c : Int) : acall R_dwithin cl [.agg [a1, b1, c1, d1], .agg [a2, b2, c2, d2], .bool w, .int .i64 c] s = some (.bool (((dwinP D G).1 == w) && decide ((dwinP D G).2 = c)), s) := run_same n_dwithin (by simp [a21]) rfl (w_dwithin (s := lowd s) hD.low hDl hG.low hGl w c)

theorem dgMerge_len {D G : DDg} {n m : Nat} (h : DgL D n) (k : DgL G m) : DgL (dgMerge D G) (2 * (n + m)) := by
  have e1 := uni_len D.all G.all
  have e2 := uni_len D.gone G.gone
  have := h.l1; have := h.l2; have := h.l3; have := h.l4
  have := k.l1; have := k.l2; have := k.l3; have := k.l4
  refine ⟨?_, ?_, ?_, ?_⟩ <;> simp only [dgMerge] <;> omega
theorem DgL.le {D : DDg} {n m : Nat} (h : DgL D n) (k : n ≤ m) : DgL D m := ⟨Nat.le_trans h.l1 k, Nat.le_trans h.l2 k, Nat.le_trans h.l3 k, Nat.le_trans h.l4 k⟩
noncomputable def R_merges : Con := runFn (tb [(44, R_DgMerge), (26, R_RgSame)]) a23
theorem s_merges : SoundAt Tryz.prog 23 R_merges := run_sound (tb_sound (l := [(44, R_DgMerge), (26, R_RgSame)]) (by simpa using ⟨s_DgMerge, s_RgSame⟩)) mixed Tryz.func23 k23 c23
theorem n_merges : noNxtC a23.body = true := by kernel_rfl
theorem w_merges {s : St} {a1 b1 c1 d1 : AV} {D : DDg} (hD : DgR s a1 b1 c1 d1 D) (hDl : DgL D 250) {a2 b2 c2 d2 : AV} {G : DDg} (hG : DgR s a2 b2 c2 d2 G) (hGl : DgL G 250) {a3 b3 c3 d3 : AV} {H : DDg} (hH : DgR s a3 b3 c3 d3 H) (hHl : DgL H 1000) (c : Int) : ∀ env : Env, elen env = a23.ntmps → (∀ i x_, [.agg [a1, b1, c1, d1], .agg [a2, b2, c2, d2], .agg [a3, b3, c3, d3], .int .i64 c][i]? = some x_ → E env i = x_) → awp (tb [(44, R_DgMerge), (26, R_RgSame)]) a23.body (fun x e t => (∀ i, x ≠ .exit i) ∧ aresults e t a23.results = some (.bool (decide ((dmerP D G).1 = H) && decide ((dmerP D G).2 = c))) ∧ Keep s t) env s := by
  intro env hlen ha
  have h0 : E env 0 = _ := ha 0 _ rfl
  have h1 : E env 1 = _ := ha 1 _ rfl
  have h2 : E env 2 = _ := ha 2 _ rfl
  have h3 : E env 3 = _ := ha 3 _ rfl
  have hlen : elen env = _ := hlen
  simp only [a23] at hlen
  unfold a23
  try dsimp only [oO, oG]
  have hbx := hD.box
  have hby := hG.box
  have hbz := hH.box
  have hK3 : Keep s (((s.push (.row [a1, b1, c1, d1] true)).push (.row [a2, b2, c2, d2] true)).push (.row [a3, b3, c3, d3] true)) := (((Keep.refl s).push _).push _).push _
  have hK13 : Keep (s.push (.row [a1, b1, c1, d1] true)) (((s.push (.row [a1, b1, c1, d1] true)).push (.row [a2, b2, c2, d2] true)).push (.row [a3, b3, c3, d3] true)) := ((Keep.refl _).push _).push _
  have hK23 : Keep ((s.push (.row [a1, b1, c1, d1] true)).push (.row [a2, b2, c2, d2] true)) (((s.push (.row [a1, b1, c1, d1] true)).push (.row [a2, b2, c2, d2] true)).push (.row [a3, b3, c3, d3] true)) := (Keep.refl _).push _
  obtain ⟨p1, p2, p3, p4, p5, p6, p7, p8⟩ := box_dg s a1 b1 c1 d1 hK13
  obtain ⟨r1, r2, r3, r4, r5, r6, r7, r8⟩ := box_dg (s.push (.row [a1, b1, c1, d1] true)) a2 b2 c2 d2 hK23
  have hDm := hDl.le (m := 1000) (by omega)
  have hGm := hGl.le (m := 1000) (by omega)
  by_cases hv : dgV D = true ∧ dgV G = true
  · rw [dmerP_ok hv.1 hv.2]
    obtain ⟨y1, y2, y3, y4, t1, q1, hQ, hKq⟩ := q_DgMerge (hD.keep hK3) hDm (hG.keep hK3) hGm hv.1 hv.2
    have hQl : DgL (dgMerge D G) 1000 := (dgMerge_len hDl hGl).le (by omega)
    have hst0 := sto_dg (show sameN (t1).next (t1) from rfl) hQ
    have hKb : Keep (t1) ((t1).lowed.push (.row [y1, y2, y3, y4] true)) := (Keep.refl _).lowed.push _
    obtain ⟨s1_, s2_, s3_, s4_, s5_, s6_, s7_, s8_⟩ := row4_lods (St.get_push_new (t1).lowed (.row [y1, y2, y3, y4] true))
    have s1_ : lod ((t1).lowed.push (.row [y1, y2, y3, y4] true)) 4 (.ptr (t1).next 0) = some (.agg [y1, y2, y3, y4]) := s1_
    have s8_ : ltN (t1).next ((t1).lowed.push (.row [y1, y2, y3, y4] true)) := s8_
    have hQb := hQ.keep hKb
    obtain ⟨z1, z2, z3, z4, z5, z6, z7, z8⟩ := box_dg ((s.push (.row [a1, b1, c1, d1] true)).push (.row [a2, b2, c2, d2] true)) a3 b3 c3 d3 (hKq.trans hKb)
    have q2 := q_RgSame false hQb hQl (hH.keep (hK3.trans (hKq.trans hKb))) hHl
    simp (config := {contextual := true, maxDischargeDepth := 12}) only [tb_at, h0, h1, h2, h3, hlen, hbx, hby, hbz, p1, p8, r1, r8, q1, hst0, s1_, s8_, z1, z8, q2, bin_eqE, ↓bD, bU, forall_const, bS, implies_true, isNx, eq_self, ↓wp_cond, ↓wp_loop, ↓reduceIte, reduceCtorEq, Nat.reduceEqDiff, Nat.reduceLT, Nat.reduceAdd, Nat.reduceMul, bT, ↓sg_bsl, ↓st_callf, bX, List.cons_append, List.nil_append, ↓st_appf, bY, slcV_nils0N, slcV_sl0N, bslV_0N, bin_shr1, bsl_nd, q_known]
    all_goals first | exact hK3.trans (hKq.trans hKb) | skip
  rw [dmerP_bad hv]
  have q1 := q_DgMerge_bad false (hD.keep hK3) hDm (hG.keep hK3) hGm hv
  have hQ : DgR (((s.push (.row [a1, b1, c1, d1] true)).push (.row [a2, b2, c2, d2] true)).push (.row [a3, b3, c3, d3] true)) .nils .nils .nils .nils ⟨⟨[], []⟩, ⟨[], []⟩⟩ := .nils
  have hQl : DgL ⟨⟨[], []⟩, ⟨[], []⟩⟩ 1000 := dgL_nil
  have hst0 := sto_dg (show sameN (((s.push (.row [a1, b1, c1, d1] true)).push (.row [a2, b2, c2, d2] true)).push (.row [a3, b3, c3, d3] true)).next (((s.push (.row [a1, b1, c1, d1] true)).push (.row [a2, b2, c2, d2] true)).push (.row [a3, b3, c3, d3] true)) from rfl) hQ
  have hKb : Keep (((s.push (.row [a1, b1, c1, d1] true)).push (.row [a2, b2, c2, d2] true)).push (.row [a3, b3, c3, d3] true)) ((((s.push (.row [a1, b1, c1, d1] true)).push (.row [a2, b2, c2, d2] true)).push (.row [a3, b3, c3, d3] true)).lowed.push (.row [.nils, .nils, .nils, .nils] true)) := (Keep.refl _).lowed.push _
  obtain ⟨s1_, s2_, s3_, s4_, s5_, s6_, s7_, s8_⟩ := row4_lods (St.get_push_new (((s.push (.row [a1, b1, c1, d1] true)).push (.row [a2, b2, c2, d2] true)).push (.row [a3, b3, c3, d3] true)).lowed (.row [.nils, .nils, .nils, .nils] true))
  have s1_ : lod ((((s.push (.row [a1, b1, c1, d1] true)).push (.row [a2, b2, c2, d2] true)).push (.row [a3, b3, c3, d3] true)).lowed.push (.row [.nils, .nils, .nils, .nils] true)) 4 (.ptr (((s.push (.row [a1, b1, c1, d1] true)).push (.row [a2, b2, c2, d2] true)).push (.row [a3, b3, c3, d3] true)).next 0) = some (.agg [.nils, .nils, .nils, .nils]) := s1_
  have s8_ : ltN (((s.push (.row [a1, b1, c1, d1] true)).push (.row [a2, b2, c2, d2] true)).push (.row [a3, b3, c3, d3] true)).next ((((s.push (.row [a1, b1, c1, d1] true)).push (.row [a2, b2, c2, d2] true)).push (.row [a3, b3, c3, d3] true)).lowed.push (.row [.nils, .nils, .nils, .nils] true)) := s8_
  have hQb := hQ.keep hKb
  obtain ⟨z1, z2, z3, z4, z5, z6, z7, z8⟩ := box_dg ((s.push (.row [a1, b1, c1, d1] true)).push (.row [a2, b2, c2, d2] true)) a3 b3 c3 d3 (hKb)
  have q2 := q_RgSame false hQb hQl (hH.keep (hK3.trans (hKb))) hHl
  simp (config := {contextual := true, maxDischargeDepth := 12}) only [tb_at, h0, h1, h2, h3, hlen, hbx, hby, hbz, p1, p8, r1, r8, q1, hst0, s1_, s8_, z1, z8, q2, bin_eqE, ↓bD, bU, forall_const, bS, implies_true, isNx, eq_self, ↓wp_cond, ↓wp_loop, ↓reduceIte, reduceCtorEq, Nat.reduceEqDiff, Nat.reduceLT, Nat.reduceAdd, Nat.reduceMul, bT, ↓sg_bsl, ↓st_callf, bX, List.cons_append, List.nil_append, ↓st_appf, bY, slcV_nils0N, slcV_sl0N, bslV_0N, bin_shr1, bsl_nd, q_known]
  all_goals first | exact hK3.trans (hKb) | skip
theorem q_merges (cl : Bool) {s : St} {a1 b1 c1 d1 : AV} {D : DDg} (hD : DgR s a1 b1 c1 d1 D) (hDl : DgL D 250) {a2 b2 c2 d2 : AV} {G : DDg} (hG : DgR s a2 b2 c2 d2 G) (hGl : DgL G 250) {a3 b3 c3 d3 : AV} {H : DDg} (hH : DgR s a3 b3 c3 d3 H) (hHl : DgL H 1000) (c : Int) : acall R_merges cl [.agg [a1, b1, c1, d1], .agg [a2, b2, c2, d2], .agg [a3, b3, c3, d3], .int .i64 c] s = some (.bool (decide ((dmerP D G).1 = H) && decide ((dmerP D G).2 = c)), s) := run_same n_merges (by simp [a23]) rfl (w_merges (s := lowd s) hD.low hDl hG.low hGl hH.low hHl c)

end Go.AM
end
