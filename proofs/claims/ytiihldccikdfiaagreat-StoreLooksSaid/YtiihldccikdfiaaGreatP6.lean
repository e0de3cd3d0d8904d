/-
  Arguments with slices in slices and in structs, opened into the abstract machine's memory. Own work of this project.
-/
import Derived.Test.YtiihldccikdfiaaGreatP5
import Derived.HandedShaped
import Derived.ProofKit
import Derived.OpenShut
import Derived.KernelRfl
set_option linter.unusedVariables false
set_option linter.unusedSimpArgs false
section
set_option maxRecDepth 100000
namespace Go.AM
open Go Go.ChangeShapes Go.WideShapes Go.ChangeAt Go.RowKit Go.Deep

/-- Some block of cells is there. -/
def HasCellsD (W : World) : Prop := ∃ (b : Nat) (cs : Array Value) (e : TypeId) (fr : Nat × Nat), W.heap[b]? = some (Obj.cells cs e fr)
theorem dummyD {W : World} (h : HasCellsD W) : ∃ L : Loc, L.b < W.heap.size ∧ ∀ ρ, BlkOk ρ L W (.row [] false) := by
  obtain ⟨b, cs, e, fr, hb⟩ := h
  refine ⟨⟨b, 0, cs.size⟩, (Array.getElem?_eq_some_iff.1 hb).1, fun ρ => ?_⟩
  simp only [BlkOk]
  exact ⟨cs, e, fr, hb, rfl, by simp, fun i v h => by simp at h, by simp, rfl⟩

section
variable (P : Program)
/-- What the memory shows at cells of a type. -/
def RdF (ok : TypeId → List AV → Prop) : List Field → List AV → Prop
  | [], vs => vs = []
  | f :: r, vs => ∃ a b, vs = a ++ b ∧ ok f.type a ∧ RdF ok r b
def RdT (s : St) : Nat → TypeId → List AV → Prop
  | 0, _, _ => False
  | d + 1, t, vs => match P.underlying t with
    | some .bool => ∃ x, vs = [.bool x]
    | some (.int k) => ∃ n, vs = [.int k n] ∧ (Lit.int k n).wf = true
    | some .string => ∃ x, vs = [.str x]
    | some (.struct fs) => RdF (RdT s d) fs.toList vs
    | some (.slice e) => vs = [.nils] ∨ ∃ (id n cap : Nat) (rows : List (List AV)), vs = [.sl id 0 n (some cap) (P.cellsOf e)] ∧ n ≤ cap ∧ cap ≤ maxLen ∧ rows.length = cap ∧ s.get id = some (.row rows.flatten false) ∧ ∀ r ∈ rows, RdT s d e r ∧ r.length = P.cellsOf e
    | _ => False
def okF (ok : TypeId → Bool) : List Field → Nat → Nat → Bool
  | [], at_, sz => decide (sz = at_)
  | f :: r, at_, sz => decide (f.offset = at_) && ok f.type && okF ok r (at_ + P.cellsOf f.type) sz
def okT : Nat → TypeId → Bool
  | 0, _ => false
  | d + 1, t => match P.underlying t with
    | some .bool | some (.int _) | some .string => true
    | some (.struct fs) => okF P (okT d) fs.toList 0 (P.cellsOf t)
    | some (.slice e) => decide (P.cellsOf e ≠ 0) && okT d e
    | _ => false
end

variable {P : Program} {H : Type} {enc : TypeId × Value → H} {W : World} {base : Nat} {held : Bool}
/-- Cells, and the blocks that they reach, numbered from 'start' on. -/
structure Opn (W : World) (Q : St → List AV → Prop) (start : Nat) (cs : List Value) (vs : List AV) (bl : List (AB × Loc)) : Prop where
  lt : ∀ p ∈ bl, p.2.b < W.heap.size
  own : ∀ p ∈ bl, p.1.owned = false
  vr : ∀ ρ : Ren, (∀ i p, bl[i]? = some p → ρ (start + i) = some p.2) → VRs ρ vs cs ∧ ∀ p ∈ bl, BlkOk ρ p.2 W p.1
  rd : ∀ s : St, (∀ i p, bl[i]? = some p → s.get (start + i) = some p.1) → Q s vs
  one : vs.all AV.one = true
  len : vs.length = cs.length
theorem Opn.plain {Q : St → List AV → Prop} {start : Nat} {cs : List Value} {vs : List AV} (h : ∀ ρ, VRs ρ vs cs) (hq : ∀ s, Q s vs) (ho : vs.all AV.one = true) (hl : vs.length = cs.length) : Opn W Q start cs vs [] :=
  ⟨by simp, by simp, fun ρ _ => ⟨h ρ, by simp⟩, fun s _ => hq s, ho, hl⟩
theorem Opn.app {Q1 Q2 : St → List AV → Prop} {start : Nat} {c1 c2 : List Value} {v1 v2 : List AV} {b1 b2 : List (AB × Loc)} (h : Opn W Q1 start c1 v1 b1) (k : Opn W Q2 (start + b1.length) c2 v2 b2) :
    Opn W (fun s _ => Q1 s v1 ∧ Q2 s v2) start (c1 ++ c2) (v1 ++ v2) (b1 ++ b2) := by
  have e1 : ∀ {i : Nat} {p}, b1[i]? = some p → (b1 ++ b2)[i]? = some p := fun {i p} hp => by
    rw [List.getElem?_append_left (List.getElem?_eq_some_iff.1 hp).1]; exact hp
  have e2 : ∀ {i : Nat} {p}, b2[i]? = some p → (b1 ++ b2)[b1.length + i]? = some p := fun {i p} hp => by
    rw [List.getElem?_append_right (by omega), Nat.add_sub_cancel_left]; exact hp
  refine ⟨fun p hp => ?_, fun p hp => ?_, fun ρ hρ => ?_, fun s hs => ⟨h.rd s fun i p hp => hs i p (e1 hp), k.rd s fun i p hp => ?_⟩, by simp [h.one, k.one], by simp [h.len, k.len]⟩
  · rcases List.mem_append.1 hp with q | q
    · exact h.lt p q
    · exact k.lt p q
  · rcases List.mem_append.1 hp with q | q
    · exact h.own p q
    · exact k.own p q
  · obtain ⟨r1, r2⟩ := h.vr ρ fun i p hp => hρ i p (e1 hp)
    obtain ⟨r3, r4⟩ := k.vr ρ fun i p hp => by have := hρ _ p (e2 hp); rwa [← Nat.add_assoc] at this
    refine ⟨r1.append r3, fun p hp => ?_⟩
    rcases List.mem_append.1 hp with q | q
    · exact r2 p q
    · exact r4 p q
  · have := hs _ p (e2 hp)
    rwa [← Nat.add_assoc] at this
theorem Opn.imp {Q Q' : St → List AV → Prop} {start : Nat} {cs : List Value} {vs : List AV} {bl : List (AB × Loc)} (h : Opn W Q start cs vs bl) (k : ∀ s, Q s vs → Q' s vs) : Opn W Q' start cs vs bl :=
  ⟨h.lt, h.own, h.vr, fun s hs => k s (h.rd s hs), h.one, h.len⟩

/-- A slice's place, its elements as they are read one by one. -/
theorem slice_geo {t e : TypeId} {fuel : Nat} {cs : List Value} {x : DataW H × List MemPlace} (hu : P.underlying t = some (.slice e)) (h0 : P.cellsOf e ≠ 0)
    (h : DataW.trod enc P W base (fun _ => true) held fuel t cs = some x) : cs = [.slice none 0 0] ∨ (∃ a, cs = [.slice (some a) 0 0]) ∨
    ∃ (b off len cap : Nat) (cells : Array Value) (el : TypeId) (fr : Nat × Nat) (n : Nat), cs = [.slice (some ⟨b, off, none⟩) len cap] ∧ 0 < cap ∧ len ≤ cap ∧ cap ≤ maxLen ∧ W.heap[b]? = some (.cells cells el fr) ∧ off + cap * P.cellsOf e ≤ cells.size ∧
      ∀ i, i < cap → ∃ x, DataW.trod enc P W base (fun _ => true) held n e ((cells.toList.drop (off + i * P.cellsOf e)).take (P.cellsOf e)) = some x := by
  rcases open_slice hu h with ⟨rfl, _⟩ | ⟨a, len, cap, m, n, D, Pl, rfl, hb, hl, hm, hmm, _, hx⟩
  · exact .inl rfl
  right
  simp only [if_true] at hmm
  subst hmm
  by_cases hc : m = 0
  · left
    subst hc
    have : len = 0 := by omega
    subst this
    exact ⟨a, rfl⟩
  right
  obtain ⟨cs0, h1, _⟩ := hx 0 (by omega)
  obtain ⟨_, hl0, hat0⟩ := World.cells?_some h1
  have hc0 := hat0 0 (by omega)
  obtain ⟨b, off, spot⟩ := a
  have hsome : ∃ v, cs0[0]? = some v := ⟨cs0[0]'(by omega), by simp⟩
  obtain ⟨v0, hv0⟩ := hsome
  rw [hv0] at hc0
  obtain ⟨cells, el, fr, hh, hsp⟩ := cell_some hc0
  rw [addr_block, addr_block] at hh
  simp only at hh
  have hspot : spot = none := by
    have h2 := addr_spot _ 0 hsp (.inl rfl) rfl
    have h3 := addr_spot _ (0 * P.cellsOf e) h2 (.inr trivial) (by simp)
    exact h3
  subst hspot
  have hat : ∀ i, i < m → off + (i + 1) * P.cellsOf e ≤ cells.size ∧ ∃ x, DataW.trod enc P W base (fun _ => true) held n e ((cells.toList.drop (off + i * P.cellsOf e)).take (P.cellsOf e)) = some x := by
    intro i hi
    obtain ⟨cs', e1, e2⟩ := hx i hi
    obtain ⟨_, hl', hat'⟩ := World.cells?_some e1
    have hget : ∀ j, j < P.cellsOf e → cells[off + i * P.cellsOf e + j]? = cs'[j]? := by
      intro j hj
      have := hat' j hj
      rw [addr_add, addr_add, cell_at hh] at this
      exact this
    have hsz : off + (i + 1) * P.cellsOf e ≤ cells.size := by
      have hj : P.cellsOf e - 1 < P.cellsOf e := by omega
      have := hget _ hj
      rw [List.getElem?_eq_getElem (by omega)] at this
      have hlt := (Array.getElem?_eq_some_iff.1 this).1
      rw [Nat.succ_mul]
      omega
    refine ⟨hsz, (D i, Pl i), ?_⟩
    have : (cells.toList.drop (off + i * P.cellsOf e)).take (P.cellsOf e) = cs' := by
      apply List.ext_getElem?
      intro j
      by_cases hj : j < P.cellsOf e
      · rw [List.getElem?_take_of_lt hj, List.getElem?_drop]
        have := hget j (by omega)
        simpa using this
      · rw [List.getElem?_eq_none (by simp; omega), List.getElem?_eq_none (by omega)]
    rw [this]
    exact e2
  obtain ⟨q2, _⟩ := hat (m - 1) (by omega)
  rw [show m - 1 + 1 = m by omega] at q2
  exact ⟨b, off, len, m, cells, el, fr, n, rfl, by omega, hl, hm, hh, q2, fun i hi => (hat i hi).2⟩

def DeepOk (P : Program) (enc : TypeId × Value → H) (W : World) (base : Nat) (held : Bool) (d : Nat) (t : TypeId) : Prop :=
  ∀ (fuel : Nat) (cs : List Value) (x : DataW H × List MemPlace), DataW.trod enc P W base (fun _ => true) held fuel t cs = some x → ∀ start, ∃ vs bl, Opn W (fun s vs => RdT P s d t vs) start cs vs bl

theorem deep_fields {d : Nat} (IH : ∀ t, okT P d t = true → DeepOk P enc W base held d t) {n : Nat} {cs : List Value} {sz : Nat} (hcs : cs.length = sz) : ∀ (fs : List Field) (at_ : Nat), okF P (okT P d) fs at_ sz = true →
    (∀ f ∈ fs, ∃ x, DataW.trod enc P W base (fun _ => true) held n f.type ((cs.drop f.offset).take (P.cellsOf f.type)) = some x) → ∀ start, ∃ vs bl, Opn W (fun s vs => RdF (RdT P s d) fs vs) start (cs.drop at_) vs bl
  | [], at_, h, _, start => by
    simp only [okF, decide_eq_true_eq] at h
    rw [List.drop_eq_nil_of_le (by omega)]
    exact ⟨[], [], .plain (fun _ => VRs_nil) (fun _ => rfl) rfl rfl⟩
  | f :: r, at_, h, hx, start => by
    simp only [okF, Bool.and_eq_true, decide_eq_true_eq] at h
    obtain ⟨⟨hoff, hok⟩, hr⟩ := h
    obtain ⟨x, hxf⟩ := hx f (by simp)
    obtain ⟨v1, b1, o1⟩ := IH f.type hok n _ x hxf start
    obtain ⟨v2, b2, o2⟩ := deep_fields IH hcs r (at_ + P.cellsOf f.type) hr (fun g hg => hx g (by simp [hg])) (start + b1.length)
    refine ⟨v1 ++ v2, b1 ++ b2, ?_⟩
    have := o1.app o2
    rw [hoff, ← List.drop_drop, List.take_append_drop] at this
    exact this.imp fun s q => ⟨v1, v2, rfl, q⟩
theorem deep_rows {d : Nat} {e : TypeId} {n : Nat} (IH : DeepOk P enc W base held d e) (cells : List Value) (off : Nat) : ∀ (k : Nat), off + k * P.cellsOf e ≤ cells.length →
    (∀ i, i < k → ∃ x, DataW.trod enc P W base (fun _ => true) held n e ((cells.drop (off + i * P.cellsOf e)).take (P.cellsOf e)) = some x) → ∀ start, ∃ (rows : List (List AV)) (bl : List (AB × Loc)), rows.length = k ∧
      Opn W (fun s _ => ∀ r ∈ rows, RdT P s d e r ∧ r.length = P.cellsOf e) start ((cells.drop off).take (k * P.cellsOf e)) rows.flatten bl
  | 0, _, _, start => ⟨[], [], rfl, .plain (fun _ => by simpa using VRs_nil) (fun _ r hr => by simp at hr) rfl (by simp)⟩
  | k + 1, hle, hx, start => by
    obtain ⟨rows, b1, h1, o1⟩ := deep_rows IH cells off k (by rw [Nat.succ_mul] at hle; omega) (fun i hi => hx i (by omega)) start
    obtain ⟨x, hxk⟩ := hx k (by omega)
    obtain ⟨v2, b2, o2⟩ := IH n _ x hxk (start + b1.length)
    refine ⟨rows ++ [v2], b1 ++ b2, by simp [h1], ?_⟩
    have hl2 : v2.length = P.cellsOf e := by
      rw [o2.len, List.length_take, List.length_drop]
      rw [Nat.succ_mul] at hle
      omega
    have := o1.app o2
    rw [List.flatten_append, List.flatten_singleton, Nat.succ_mul, List.take_add, List.drop_drop]
    refine this.imp fun s hq r hr => ?_
    rcases List.mem_append.1 hr with q | q
    · exact hq.1 r q
    · simp at q
      subst q
      exact ⟨hq.2, hl2⟩
theorem VRs.cell {ρ : Ren} {vs : List AV} {cs : List Value} (h : VRs ρ vs cs) {i : Nat} {v : AV} (hi : vs[i]? = some v) : ∃ c, cs[i]? = some c ∧ VR ρ v c := VRs.at_ i h hi
theorem deep_open (hc : HasCellsD W) : ∀ (d : Nat) (t : TypeId), okT P d t = true → DeepOk P enc W base held d t
  | 0, t, h => by simp [okT] at h
  | d + 1, t, h => by
    intro fuel cs x hx start
    simp only [okT] at h
    split at h
    · rename_i hu
      obtain ⟨b, rfl, _⟩ := DataW.trod_bool hu hx
      exact ⟨[.bool b], [], .plain (fun ρ => VRs_cons.2 ⟨by simp [VR], VRs_nil⟩) (fun s => by simp only [RdT, hu]; exact ⟨b, rfl⟩) rfl rfl⟩
    · rename_i k hu
      obtain ⟨b, rfl, _, hw⟩ := DataW.trod_int hu hx
      exact ⟨[.int k b], [], .plain (fun ρ => VRs_cons.2 ⟨by simp [VR], VRs_nil⟩) (fun s => by simp only [RdT, hu]; exact ⟨b, rfl, hw⟩) rfl rfl⟩
    · rename_i hu
      obtain ⟨b, rfl, _⟩ := DataW.trod_string hu hx
      exact ⟨[.str b], [], .plain (fun ρ => VRs_cons.2 ⟨by simp [VR], VRs_nil⟩) (fun s => by simp only [RdT, hu]; exact ⟨b, rfl⟩) rfl rfl⟩
    · rename_i fs hu
      obtain ⟨xs, n, _, _, hl, hxl, hf⟩ := DataW.trod_struct hu hx
      obtain ⟨vs, bl, ho⟩ := deep_fields (fun t hk => deep_open hc d t hk) hl fs.toList 0 h (n := n) (fun f hmem => by
        obtain ⟨i, hi⟩ := List.getElem?_of_mem hmem
        have hi' : fs[i]? = some f := by simpa using hi
        have hlt : i < xs.length := by
          have := (Array.getElem?_eq_some_iff.1 hi').1
          omega
        exact ⟨xs[i], by rw [hf i f hi']; simp [hlt]⟩) start
      rw [List.drop_zero] at ho
      exact ⟨vs, bl, ho.imp fun s q => by simp only [RdT, hu]; exact q⟩
    · rename_i e hu
      simp only [Bool.and_eq_true, decide_eq_true_eq] at h
      obtain ⟨L, hL1, hL2⟩ := dummyD hc
      rcases slice_geo hu h.1 hx with rfl | ⟨a, rfl⟩ | ⟨b, off, len, cap, cells, el, fr, n, rfl, h2, h3, h4, h5, h6, h7⟩
      · exact ⟨[.nils], [], .plain (fun ρ => VRs_cons.2 ⟨by simp [VR], VRs_nil⟩) (fun s => by simp only [RdT, hu]; exact .inl (by trivial)) rfl rfl⟩
      · refine ⟨[.sl start 0 0 (some 0) (P.cellsOf e)], [(.row [] false, L)], ?_, ?_, fun ρ hρ => ⟨VRs_cons.2 ⟨?_, VRs_nil⟩, ?_⟩, fun s hs => ?_, rfl, rfl⟩
        · intro p hp
          simp at hp
          subst hp
          exact hL1
        · intro p hp
          simp at hp
          subst hp
          rfl
        · simp only [VR]
          exact ⟨L, a, 0, hρ 0 _ rfl, rfl, Nat.le_refl _, fun k hk => by injection hk, .inl rfl⟩
        · intro p hp
          simp at hp
          subst hp
          exact hL2 ρ
        · simp only [RdT, hu]
          exact .inr ⟨start, 0, 0, [], rfl, Nat.le_refl _, Nat.zero_le _, rfl, hs 0 _ rfl, fun r hr => by simp at hr⟩
      · have hlt := (Array.getElem?_eq_some_iff.1 h5).1
        obtain ⟨rows, bl, hr1, ho⟩ := deep_rows (deep_open hc d e h.2) cells.toList off cap (by simpa using h6) h7 (start + 1)
        have hfl : rows.flatten.length = cap * P.cellsOf e := by
          rw [ho.len, List.length_take, List.length_drop]
          simp
          omega
        have hup : ∀ {ρ : Ren}, (∀ i p, ((AB.row rows.flatten false, (⟨b, off, cells.size⟩ : Loc)) :: bl)[i]? = some p → ρ (start + i) = some p.2) → ∀ i p, bl[i]? = some p → ρ (start + 1 + i) = some p.2 := fun hρ i p hp => by
          have := hρ (i + 1) p (by simpa using hp)
          rwa [show start + (i + 1) = start + 1 + i by omega] at this
        refine ⟨[.sl start 0 len (some cap) (P.cellsOf e)], (.row rows.flatten false, ⟨b, off, cells.size⟩) :: bl, ?_, ?_, fun ρ hρ => ?_, fun s hs => ?_, rfl, rfl⟩
        · intro p hp
          rcases List.mem_cons.1 hp with rfl | hp
          · exact hlt
          · exact ho.lt p hp
        · intro p hp
          rcases List.mem_cons.1 hp with rfl | hp
          · rfl
          · exact ho.own p hp
        · obtain ⟨r1, r2⟩ := ho.vr ρ (hup hρ)
          refine ⟨VRs_cons.2 ⟨?_, VRs_nil⟩, fun p hp => ?_⟩
          · simp only [VR]
            exact ⟨⟨b, off, cells.size⟩, ⟨b, off, none⟩, cap, hρ 0 _ rfl, rfl, h3, fun k hk => by injection hk, .inr ⟨by simp, by simpa using h6⟩⟩
          · rcases List.mem_cons.1 hp with rfl | hp
            · simp only [BlkOk]
              refine ⟨cells, el, fr, h5, rfl, by rw [hfl]; exact h6, fun i v hi => ?_, by simp, ho.one⟩
              have hi' := (List.getElem?_eq_some_iff.1 hi).1
              obtain ⟨c, hc1, hc2⟩ := r1.cell hi
              refine ⟨c, ?_, hc2⟩
              rw [List.getElem?_take_of_lt (by omega), List.getElem?_drop] at hc1
              simpa using hc1
            · exact r2 p hp
        · simp only [RdT, hu]
          refine .inr ⟨start, len, cap, rows, rfl, h3, h4, hr1, hs 0 _ rfl, ?_⟩
          refine ho.rd s fun i p hp => ?_
          have := hs (i + 1) p (by simpa using hp)
          rwa [show start + (i + 1) = start + 1 + i by omega] at this
    · cases h

/-! ### All arguments of a call -/
def argAV (P : Program) (t : TypeId) (vs : List AV) : AV := match P.underlying t with
  | some (.struct _) => .agg vs
  | _ => vs.headD .und
def RdA (P : Program) (s : St) (d : Nat) (t : TypeId) (v : AV) : Prop := ∃ vs, RdT P s d t vs ∧ v = argAV P t vs
def RdAs (P : Program) (s : St) (d : Nat) : List TypeId → List AV → Prop
  | [], xs => xs = []
  | t :: ts, xs => ∃ v r, xs = v :: r ∧ RdA P s d t v ∧ RdAs P s d ts r
structure OpnA (W : World) (Q : St → List AV → Prop) (start : Nat) (cs : List Value) (vs : List AV) (bl : List (AB × Loc)) : Prop where
  lt : ∀ p ∈ bl, p.2.b < W.heap.size
  own : ∀ p ∈ bl, p.1.owned = false
  vr : ∀ ρ : Ren, (∀ i p, bl[i]? = some p → ρ (start + i) = some p.2) → VRs ρ vs cs ∧ ∀ p ∈ bl, BlkOk ρ p.2 W p.1
  rd : ∀ s : St, (∀ i p, bl[i]? = some p → s.get (start + i) = some p.1) → Q s vs
theorem OpnA.cons {Q1 Q2 : St → List AV → Prop} {start : Nat} {c : Value} {cs : List Value} {v : AV} {vs : List AV} {b1 b2 : List (AB × Loc)} (h : OpnA W Q1 start [c] [v] b1) (k : OpnA W Q2 (start + b1.length) cs vs b2) :
    OpnA W (fun s _ => Q1 s [v] ∧ Q2 s vs) start (c :: cs) (v :: vs) (b1 ++ b2) := by
  have e1 : ∀ {i : Nat} {p}, b1[i]? = some p → (b1 ++ b2)[i]? = some p := fun {i p} hp => by
    rw [List.getElem?_append_left (List.getElem?_eq_some_iff.1 hp).1]; exact hp
  have e2 : ∀ {i : Nat} {p}, b2[i]? = some p → (b1 ++ b2)[b1.length + i]? = some p := fun {i p} hp => by
    rw [List.getElem?_append_right (by omega), Nat.add_sub_cancel_left]; exact hp
  refine ⟨fun p hp => ?_, fun p hp => ?_, fun ρ hρ => ?_, fun s hs => ⟨h.rd s fun i p hp => hs i p (e1 hp), k.rd s fun i p hp => ?_⟩⟩
  · rcases List.mem_append.1 hp with q | q
    · exact h.lt p q
    · exact k.lt p q
  · rcases List.mem_append.1 hp with q | q
    · exact h.own p q
    · exact k.own p q
  · obtain ⟨r1, r2⟩ := h.vr ρ fun i p hp => hρ i p (e1 hp)
    obtain ⟨r3, r4⟩ := k.vr ρ fun i p hp => by have := hρ _ p (e2 hp); rwa [← Nat.add_assoc] at this
    refine ⟨r1.append r3, fun p hp => ?_⟩
    rcases List.mem_append.1 hp with q | q
    · exact r2 p q
    · exact r4 p q
  · have := hs _ p (e2 hp)
    rwa [← Nat.add_assoc] at this
theorem arg_deep (hc : HasCellsD W) {d : Nat} {t : TypeId} (hok : okT P (d + 1) t = true) {v : Value} {x : DataW H} {p : List MemPlace} (h : DataW.Trod enc P W base (fun _ => true) held t v x p) {b0 : Nat} (hval : Value.okWide P W .any b0 t v) (start : Nat) :
    ∃ a bl, OpnA W (fun s _ => RdA P s (d + 1) t a) start [v] [a] bl := by
  obtain ⟨fuel, h⟩ := h
  obtain ⟨vs, bl, ho⟩ := deep_open hc (d + 1) t hok fuel _ _ h start
  have hone : ∀ (hv : v.cells.toList = [v]) (ha : argAV P t vs = vs.headD .und), ∃ a bl, OpnA W (fun s _ => RdA P s (d + 1) t a) start [v] [a] bl := by
    intro hv ha
    have hl := ho.len
    rw [hv] at hl
    match vs, hl with
    | [a], _ =>
      refine ⟨a, bl, ho.lt, ho.own, fun ρ hρ => ?_, fun s hs => ⟨[a], ho.rd s hs, by rw [ha]; rfl⟩⟩
      have := ho.vr ρ hρ
      rw [hv] at this
      exact this
  simp only [okT] at hok
  split at hok
  · rename_i hu
    obtain ⟨b, rfl⟩ := okWide_bool hu hval
    exact hone rfl (by simp [argAV, hu])
  · rename_i k hu
    obtain ⟨b, rfl⟩ := okWide_int hu hval
    exact hone rfl (by simp [argAV, hu])
  · rename_i hu
    obtain ⟨b, rfl⟩ := okWide_string hu hval
    exact hone rfl (by simp [argAV, hu])
  · rename_i fs hu
    obtain ⟨cs, rfl, _⟩ := okWide_struct hu hval
    refine ⟨.agg vs, bl, ho.lt, ho.own, fun ρ hρ => ?_, fun s hs => ⟨vs, ho.rd s hs, by simp [argAV, hu]⟩⟩
    obtain ⟨r1, r2⟩ := ho.vr ρ hρ
    refine ⟨VRs_cons.2 ⟨?_, VRs_nil⟩, r2⟩
    simp only [VR]
    exact ⟨cs.toList, by simp, r1⟩
  · rename_i e hu
    obtain ⟨a, len, cap, rfl⟩ := okWide_slice hu hval
    exact hone rfl (by simp [argAV, hu])
  · cases hok
theorem args_deep (hc : HasCellsD W) {d : Nat} : ∀ {ts : List TypeId} {vs : List Value} {ds : List (DataW H)} {ps : List MemPlace}, (∀ t ∈ ts, okT P (d + 1) t = true) → DataW.TrodAll enc P W base (fun _ => true) held ts vs ds ps →
    (∀ (j : Nat) t v, ts[j]? = some t → vs[j]? = some v → ∃ b0, Value.okWide P W .any b0 t v) → ∀ start, ∃ xs bl, OpnA W (fun s _ => RdAs P s (d + 1) ts xs) start vs xs bl
  | [], vs, ds, ps, _, h, _, start => by
    obtain ⟨rfl, rfl, rfl⟩ := trodAll_nil h
    exact ⟨[], [], by simp, by simp, fun ρ _ => ⟨VRs_nil, by simp⟩, fun s _ => rfl⟩
  | t :: ts, vs, ds, ps, hok, h, hval, start => by
    obtain ⟨v, vs1, x, ds1, a, b, rfl, rfl, rfl, h1, h2⟩ := trodAll_cons h
    obtain ⟨b0, hv⟩ := hval 0 t v rfl rfl
    obtain ⟨av, bl1, o1⟩ := arg_deep hc (hok t (by simp)) h1 hv start
    obtain ⟨xs, bl2, o2⟩ := args_deep hc (fun t' ht => hok t' (by simp [ht])) h2 (fun j t' v' e1 e2 => hval (j + 1) t' v' (by simpa using e1) (by simpa using e2)) (start + bl1.length)
    have := o1.cons o2
    exact ⟨av :: xs, bl1 ++ bl2, this.lt, this.own, this.vr, fun s hs => ⟨av, xs, rfl, this.rd s hs⟩⟩
open Classical in
noncomputable def lawC (P : Program) (d : Nat) (ts : List TypeId) : List AV → St → Option (AV × St) := fun xs s => if RdAs P s d ts xs then some (.bool true, { heap := s.heap, next := s.next, low := min s.low s.next }) else none
theorem deep_call {d : Nat} {ts : List TypeId} {args : List Value} {xs : List AV} {bl : List (AB × Loc)} (ho : OpnA W (fun s _ => RdAs P s d ts xs) 0 args xs bl) {f : Nat} (hs : SoundAt P f (lawC P d ts)) : Calls P f args.toArray W fun e W' => e = .returned (.bool true) ∧ Clean W W' := by
  obtain ⟨s0, hs0⟩ : ∃ s0 : St, s0 = ⟨(bl.map (·.1)).reverse, bl.length, 0⟩ := ⟨_, rfl⟩
  have hnx : s0.next = bl.length := by rw [hs0]
  have hget : ∀ i, s0.get i = (bl[i]?).map (·.1) := by
    intro i
    subst hs0
    unfold St.get
    simp only
    split
    · rename_i h
      rw [List.getElem?_reverse (by simp; omega)]
      simp only [List.length_map, List.getElem?_map]
      rw [show bl.length - 1 - (bl.length - 1 - i) = i by omega]
    · rename_i h
      rw [List.getElem?_eq_none (by omega)]
      rfl
  have hown : ∀ i b, s0.get i = some b → b.owned = false := by
    intro i b h
    rw [hget] at h
    obtain ⟨p, hp, rfl⟩ := Option.map_eq_some_iff.1 h
    exact ho.own p (List.mem_of_getElem? hp)
  obtain ⟨ρ, hρ⟩ : ∃ ρ : Ren, ρ = fun i => (bl[i]?).map (·.2) := ⟨_, rfl⟩
  have hρ1 : ∀ i p, bl[i]? = some p → ρ (0 + i) = some p.2 := fun i p hp => by rw [hρ, Nat.zero_add]; simp [hp]
  obtain ⟨hv, hb⟩ := ho.vr ρ hρ1
  have hR : R s0 ρ W := by
    refine ⟨fun i L h => ?_, fun i b L h1 h2 => ?_, fun i j L M bi bj _ _ _ e3 _ e5 _ => ?_⟩
    · rw [hρ] at h
      obtain ⟨p, hp, rfl⟩ := Option.map_eq_some_iff.1 h
      exact ho.lt p (List.mem_of_getElem? hp)
    · rw [hget] at h1
      rw [hρ] at h2
      obtain ⟨p, hp, rfl⟩ := Option.map_eq_some_iff.1 h1
      simp [hp] at h2
      subst h2
      exact hb p (List.mem_of_getElem? hp)
    · rw [hown i bi e3] at e5; cases e5
  have hrd := ho.rd s0 fun i p hp => by rw [Nat.zero_add, hget, hp]; rfl
  obtain ⟨_, _, h⟩ := hs xs s0 _ _ (by unfold lawC; rw [if_pos hrd])
  have := h ρ W args (fun i hi => by rw [hρ]; simp; omega) hR hv
  refine this.mono fun e W' hp => ?_
  obtain ⟨ρ', v, rfl, hv', hst, _⟩ := hp
  simp only [VR] at hv'
  subst hv'
  exact ⟨rfl, hst.size, hst.os, hst.tape, hst.output, hst.drawn, fun b hb => hst.frame b hb fun id L blk _ _ h1 h2 => by rw [hown id blk h1] at h2; cases h2⟩
theorem trodAll_len : ∀ {ts : List TypeId} {vs : List Value} {ds : List (DataW H)} {ps : List MemPlace}, DataW.TrodAll enc P W base (fun _ => true) held ts vs ds ps → ds.length = ts.length
  | [], vs, ds, ps, h => by
    obtain ⟨rfl, rfl, rfl⟩ := trodAll_nil h
    rfl
  | t :: ts, vs, ds, ps, h => by
    obtain ⟨v, vs1, x, ds1, a, b, rfl, rfl, rfl, h1, h2⟩ := trodAll_cons h
    simp [trodAll_len h2]
end Go.AM
end
/-
  What the arguments of the statements show: numbers, nodes, states, lists of states. Own work of this project.
-/
section
set_option maxRecDepth 100000
namespace Go.AM
open Go Go.Proofs

variable {P : Program} {s : St}
theorem rd_cksF {ok : TypeId → Option (List CK)} {rd : TypeId → List AV → Prop} (IH : ∀ t ks vs, ok t = some ks → rd t vs → CKs ks vs) : ∀ (fs : List Field) (at_ sz : Nat) (ks : List CK) (vs : List AV),
    cks.cksF P ok fs at_ sz = some ks → RdF rd fs vs → CKs ks vs
  | [], at_, sz, ks, vs, h, hr => by
    simp only [cks.cksF] at h
    split at h
    · injection h with h; subst h
      exact hr
    · cases h
  | f :: r, at_, sz, ks, vs, h, hr => by
    simp only [cks.cksF] at h
    split at h
    · split at h
      · rename_i ks1 hk
        split at h
        · obtain ⟨ks2, h2, rfl⟩ := Option.map_eq_some_iff.1 h
          obtain ⟨a, b, rfl, h3, h4⟩ := hr
          exact (IH _ _ _ hk h3).append (rd_cksF IH r _ _ _ _ h2 h4)
        · cases h
      · cases h
    · cases h
theorem rd_cks : ∀ (d : Nat) (t : TypeId) (ks : List CK) (vs : List AV), cks P d t = some ks → RdT P s d t vs → CKs ks vs
  | 0, t, ks, vs, h, _ => by simp [cks] at h
  | d + 1, t, ks, vs, h, hr => by
    simp only [cks] at h
    split at h
    · rename_i hu
      injection h with h; subst h
      simp only [RdT, hu] at hr
      obtain ⟨x, rfl⟩ := hr
      exact ⟨_, _, rfl, ⟨x, rfl⟩, rfl⟩
    · rename_i k hu
      injection h with h; subst h
      simp only [RdT, hu] at hr
      obtain ⟨x, rfl, hw⟩ := hr
      exact ⟨_, _, rfl, ⟨x, rfl, hw⟩, rfl⟩
    · rename_i hu
      injection h with h; subst h
      simp only [RdT, hu] at hr
      obtain ⟨x, rfl⟩ := hr
      exact ⟨_, _, rfl, ⟨x, rfl⟩, rfl⟩
    · rename_i fs hu
      simp only [RdT, hu] at hr
      exact rd_cksF (fun t ks vs h1 h2 => rd_cks d t ks vs h1 h2) _ _ _ _ _ h hr
    · cases h
def ndKs : List CK := [.i .i64, .i .i64, .i .i64, .i .i64, .i .i64, .i .i32]
theorem rd_slice {d : Nat} {t e : TypeId} {vs : List AV} (hu : P.underlying t = some (.slice e)) (h : RdT P s (d + 1) t vs) : vs = [.nils] ∨ ∃ (id n cap : Nat) (rows : List (List AV)), vs = [.sl id 0 n (some cap) (P.cellsOf e)] ∧ n ≤ cap ∧ cap ≤ maxLen ∧ rows.length = cap ∧ s.get id = some (.row rows.flatten false) ∧ ∀ r ∈ rows, RdT P s d e r ∧ r.length = P.cellsOf e := by
  simp only [RdT, hu] at h
  exact h
theorem nd_cells : Tryz.prog.cellsOf 26 = 6 := by kernel_rfl
theorem nd_cks7 : cks Tryz.prog 7 26 = some ndKs := by kernel_rfl
theorem lawC_some {d : Nat} {ts : List TypeId} {xs : List AV} {r : AV} {s' : St} (h : lawC P d ts xs s = some (r, s')) : RdAs P s d ts xs ∧ r = .bool true ∧ s' = s.lowed := by
  unfold lawC at h
  split at h
  · rename_i hr
    injection h with h
    obtain ⟨rfl, rfl⟩ := Prod.mk.inj h
    exact ⟨hr, rfl, rfl⟩
  · cases h
theorem rdas_1 {d : Nat} {t : TypeId} {xs : List AV} (h : RdAs P s d [t] xs) : ∃ v, xs = [v] ∧ RdA P s d t v := by
  obtain ⟨v, r, rfl, h1, h2⟩ := h
  simp only [RdAs] at h2
  subst h2
  exact ⟨v, rfl, h1⟩
end Go.AM
end
/-
  Arguments that are structs, field by field. Own work of this project.
-/
section
namespace Go.AM
open Go

variable {s t u : St}
section
variable {P : Program}
end
end Go.AM
end
/-
  What arguments show: dots, lists of dots, contexts. Own work of this project.
-/
section
set_option maxRecDepth 100000
namespace Go.AM
open Go Go.Proofs

variable {P : Program} {s : St}
end Go.AM
end
/-
  What arguments show: nodes and lists of nodes, with what their runes can be. Own work of this project.
-/
section
set_option maxRecDepth 100000
namespace Go.AM
open Go Go.Proofs

variable {P : Program} {s : St}
theorem wf_i32 {x : Int} (h : (Lit.int .i32 x).wf = true) : okR x := by
  have h1 : IntKind.i32.min = -2147483648 := by decide
  have h2 : IntKind.i32.max = 2147483647 := by decide
  simp [Lit.wf, h1, h2] at h
  unfold okR
  omega
theorem nd_of_ksR {r : List AV} (h : CKs ndKs r) : ∃ x : Nd, r = Nd.av x ∧ okR x.x := by
  simp only [ndKs, CKs] at h
  obtain ⟨_, _, rfl, ⟨a, rfl, _⟩, _, _, rfl, ⟨b, rfl, _⟩, _, _, rfl, ⟨c, rfl, _⟩, _, _, rfl, ⟨d, rfl, _⟩, _, _, rfl, ⟨e, rfl, _⟩, _, _, rfl, ⟨x, rfl, hw⟩, rfl⟩ := h
  exact ⟨⟨⟨a, b⟩, ⟨c, d⟩, e, x⟩, rfl, wf_i32 hw⟩
theorem nds_of_rowsR : ∀ {rows : List (List AV)}, (∀ r ∈ rows, CKs ndKs r) → ∃ l : List Nd, rows.flatten = ndC.cells l ∧ l.length = rows.length ∧ okL l
  | [], _ => ⟨[], rfl, rfl, fun n h => by simp at h⟩
  | r :: rows, h => by
    obtain ⟨x, rfl, hx⟩ := nd_of_ksR (h r (by simp))
    obtain ⟨l, h1, h2, h3⟩ := nds_of_rowsR (rows := rows) fun r' hr' => h r' (by simp [hr'])
    exact ⟨x :: l, by rw [List.flatten_cons, h1, cells_cons]; rfl, by simp [h2], fun n hn => by
      rcases List.mem_cons.1 hn with rfl | hn
      · exact hx
      · exact h3 n hn⟩
theorem nds_under : Tryz.prog.underlying 22 = some (.slice 26) := by kernel_rfl
theorem rda_nodes {v : AV} (h : RdA Tryz.prog s 8 22 v) : ∃ l, read ndC s v = some l ∧ okL l ∧ CapOK v := by
  obtain ⟨vs, h1, rfl⟩ := h
  rcases rd_slice nds_under h1 with rfl | ⟨id, n, cap, rows, rfl, h1, _, h3, h4, h5⟩
  · have : argAV Tryz.prog 22 [.nils] = .nils := by simp [argAV, nds_under]
    rw [this]
    exact ⟨[], rfl, fun n h => by simp at h, .nils⟩
  · have : argAV Tryz.prog 22 [.sl id 0 n (some cap) (Tryz.prog.cellsOf 26)] = .sl id 0 n (some cap) (Tryz.prog.cellsOf 26) := by simp [argAV, nds_under]
    rw [this]
    obtain ⟨l, e1, e2, e3⟩ := nds_of_rowsR fun r hr => rd_cks 7 _ _ _ nd_cks7 (h5 r hr).1
    rw [nd_cells]
    refine ⟨l.take n, ?_, fun x hx => e3 x (List.mem_of_mem_take hx), ?_⟩
    · have hall : read ndC s (.sl id 0 cap (some cap) 6) = some l := by
        refine read_of (C := ndC) (by omega) h4 ?_ ?_
        · have : (ndC.cells l).length = l.length * 6 := cells_len ndC l
          rw [e1, this]
          show 0 + cap * 6 ≤ _
          omega
        · have : (ndC.cells l).length = l.length * 6 := cells_len ndC l
          rw [e1, List.drop_zero, show cap * ndC.sz = (ndC.cells l).length by rw [this]; show cap * 6 = _; omega, List.take_length]
      exact read_take hall n h1
    · intro _ _ _ c _ e
      injection e with _ _ e1 e2
      injection e2 with e2
      omega
end Go.AM
end
/-
  What the statements of layer 10 call; StoreValid, StorePuts, StoreKills. Own work of this project; in part printed by a program of it.
-/
section
set_option maxRecDepth 100000
set_option maxHeartbeats 8000000
namespace Go.AM
open Go Go.Proofs

variable {s t u : St}

end Go.AM
end
/-
  StorePuts. Own work of this project; in part printed by a program of it.
-/
section
set_option maxRecDepth 100000
set_option maxHeartbeats 8000000
namespace Go.AM
open Go Go.Proofs

variable {s t u : St}

end Go.AM
end
/-
  StoreKills, StoreValid. Own work of this project; in part printed by a program of it.
-/
section
set_option maxRecDepth 100000
set_option maxHeartbeats 8000000
namespace Go.AM
open Go Go.Proofs

variable {s t u : St}

end Go.AM
end
/-
  StoreValid. Own work of this project; in part printed by a program of it.
-/
section
set_option maxRecDepth 100000
set_option maxHeartbeats 8000000
namespace Go.AM
open Go Go.Proofs

variable {s t u : St}
end Go.AM
end
/-
  What StoreLooks asks: contexts, times, the parents that are lacking. Own work of this project; in part printed by a program of it.
-/
section
set_option maxRecDepth 100000
set_option maxHeartbeats 8000000
namespace Go.AM
open Go Go.Proofs

variable {s t u : St}

def deadL (l : List Nd) : List Nd := l.filter fun n => decide (n.x = 0)
theorem dots_valid {l m : List Nd} (h : storeL l = true) (k : ∀ x ∈ m, x ∈ l) : (m.map Nd.d).all Dot.valid = true := by
  rw [List.all_map, List.all_eq_true]
  intro x hx
  have := store_mem h (k x hx)
  simp only [Nd.valid, Bool.and_eq_true] at this
  exact this.1.1.1.1.1
def timeL (l : List Nd) : Int := l.foldl (fun m n => max m n.t) 0
theorem timeL_snoc {l : List Nd} {i : Nat} {x : Nd} (hx : l[i]? = some x) : timeL (l.take (i + 1)) = max (timeL (l.take i)) x.t := by
  rw [take_snoc hx]
  unfold timeL
  rw [List.foldl_append]
  rfl
def dotsR (l : List Nd) (b : Bool) : List Dot := (l.filter fun n => !b || decide (n.x = 0)).map Nd.d
theorem dotsR_f (l : List Nd) : dotsR l false = l.map Nd.d := by
  have h : (l.filter fun n => !false || decide (n.x = 0)) = l := List.filter_eq_self.2 fun x _ => rfl
  unfold dotsR
  rw [h]
theorem dotsR_t (l : List Nd) : dotsR l true = (deadL l).map Nd.d := by simp [dotsR, deadL]
theorem dotsR_snoc {l : List Nd} {b : Bool} {i : Nat} {x : Nd} (hx : l[i]? = some x) : dotsR (l.take (i + 1)) b = dotsR (l.take i) b ++ (if (!b || decide (x.x = 0)) = true then [x.d] else []) := by
  rw [take_snoc hx]
  unfold dotsR
  rw [List.filter_append, List.map_append]
  congr 1
  by_cases h : (!b || decide (x.x = 0)) = true
  · rw [if_pos h]; simp [h]
  · rw [if_neg h]; simp [h]
theorem dotsR_len (l : List Nd) (b : Bool) : (dotsR l b).length ≤ l.length := by
  unfold dotsR
  rw [List.length_map]
  exact List.length_filter_le _ _
noncomputable def R_SCtx : Con := runFn (tb [(31, conL ndC fValid), (65, conF dotC (pL ndC gDots)), (74, R_COf)]) a49
theorem s_SCtx : SoundAt Tryz.prog 49 R_SCtx := run_sound (tb_sound (l := [(31, conL ndC fValid), (65, conF dotC (pL ndC gDots)), (74, R_COf)]) (by simpa using ⟨s_StValid, s_Dots, s_COf⟩)) mixed Tryz.func49 k49 c49
theorem n_SCtx : noNxtC a49.body = true := by kernel_rfl
theorem w_SCtx_bad {s : St} {vl : AV} {l : List Nd} (hr : read ndC s vl = some l) (hl : l.length ≤ 1000) (hst : storeL l = false) : ∀ env : Env, elen env = a49.ntmps → (∀ i x_, [vl][i]? = some x_ → E env i = x_) → awp (tb [(31, conL ndC fValid), (65, conF dotC (pL ndC gDots)), (74, R_COf)]) a49.body (fun x e t => (∀ i, x ≠ .exit i) ∧ aresults e t a49.results = some (.tup [.agg [.nils, .nils], .int .i64 2]) ∧ Keep s t) env s := by
  intro env hlen ha
  have h0 : E env 0 = _ := ha 0 _ rfl
  have hlen : elen env = _ := hlen
  simp only [a49] at hlen
  unfold a49
  try dsimp only [oO, oG]
  have hK1 : Keep s (s.push (.row [.nils, .nils] true)) := (Keep.refl s).push _
  have qv := q_StValid false (hK1.read hr) (by unfold lim; omega)
  rw [hst] at qv
  have hst0 := sto_ctx (show sameN s.next s from rfl) (a := .nils) (b := .nils) rfl rfl
  simp (config := {contextual := true, maxDischargeDepth := 12}) only [tb_at, h0, hlen, qv, ap_build, fillP_nil, rc2, hst0, notV_bool, Bool.not_false, ↓bD, bU, forall_const, bS, implies_true, isNx, eq_self, ↓wp_cond, ↓wp_loop, ↓reduceIte, reduceCtorEq, Nat.reduceEqDiff, Nat.reduceLT, Nat.reduceAdd, Nat.reduceMul, bT, ↓sg_bsl, ↓st_callf, bX, List.cons_append, List.nil_append, ↓st_appf, bY, slcV_nils0N, slcV_sl0N, bslV_0N, bin_shr1, bsl_nd, q_known]
  all_goals exact (Keep.refl s).lowed.push _
theorem q_SCtx_bad (cl : Bool) {s : St} {vl : AV} {l : List Nd} (hr : read ndC s vl = some l) (hl : l.length ≤ 1000) (hst : storeL l = false) : acall R_SCtx cl [vl] s = some (.tup [.agg [.nils, .nils], .int .i64 2], s) := run_same n_SCtx (by simp [a49]) rfl (w_SCtx_bad (s := lowd s) (read_low' hr) hl hst)
theorem w_SCtx {s : St} {vl : AV} {l : List Nd} (hr : read ndC s vl = some l) (hl : l.length ≤ 1000) (hst : storeL l = true) : ∀ env : Env, elen env = a49.ntmps → (∀ i x_, [vl][i]? = some x_ → E env i = x_) → awp (tb [(31, conL ndC fValid), (65, conF dotC (pL ndC gDots)), (74, R_COf)]) a49.body (fun x e t => (∀ i, x ≠ .exit i) ∧ ∃ r, aresults e t a49.results = some r ∧ (∃ vv cc, r = .tup [.agg [vv, cc], .int .i64 0] ∧ CR t vv cc (addC ⟨[], []⟩ (l.map Nd.d))) ∧ Keep s t) env s := by
  intro env hlen ha
  have h0 : E env 0 = _ := ha 0 _ rfl
  have hlen : elen env = _ := hlen
  simp only [a49] at hlen
  unfold a49
  try dsimp only [oO, oG]
  have hK1 : Keep s (s.push (.row [.nils, .nils] true)) := (Keep.refl s).push _
  have qv := q_StValid false (hK1.read hr) (by unfold lim; omega)
  rw [hst] at qv
  obtain ⟨u1, t1, hd, hKd, hOd⟩ := fresh_L (D := dotC) (f := gDots) (hK1.read hr) (by unfold lim; omega) rfl (by simp)
  rw [mkR_none] at hd
  obtain ⟨vv, cc, t3, q1, hR, hKc⟩ := q_COf hOd.read (by rw [List.length_map]; omega) (dots_valid hst fun x hx => hx)
  have hKr := hKd.trans hKc
  have hrb : t3.get (s).next = some (.row [.nils, .nils] true) := hKr.blk (St.get_push_new (s) _)
  have hstr := sto_row2 hrb (read_oneD hR.1).2 (read_oneD hR.2).2
  have hlr := St.get_lt hrb
  have hlo : lod (t3.put (s).next (.row [vv, cc] true)) 2 (.ptr (s).next 0) = some (.agg [vv, cc]) := lod_row2 (St.get_put_same hrb)
  skip
  simp (config := {contextual := true, maxDischargeDepth := 12}) only [tb_at, h0, hlen, qv, hd, q1, ap_build, fillP_nil, rc2, hstr, hlo, notV_bool, Bool.not_true, ↓bD, bU, forall_const, bS, implies_true, isNx, eq_self, ↓wp_cond, ↓wp_loop, ↓reduceIte, reduceCtorEq, Nat.reduceEqDiff, Nat.reduceLT, Nat.reduceAdd, Nat.reduceMul, bT, ↓sg_bsl, ↓st_callf, bX, List.cons_append, List.nil_append, ↓st_appf, bY, slcV_nils0N, slcV_sl0N, bslV_0N, bin_shr1, bsl_nd, q_known]
  exact ⟨_, rfl, ⟨vv, cc, rfl, cr_put hrb (by intro k n h; cases h) hR⟩, (hK1.trans hKr).put _ (by simp) hlr⟩
theorem q_SCtx {s : St} {vl : AV} {l : List Nd} (hr : read ndC s vl = some l) (hl : l.length ≤ 1000) (hst : storeL l = true) : ∃ vv cc t, acall R_SCtx false [vl] s = some (.tup [.agg [vv, cc], .int .i64 0], t) ∧ CR t vv cc (addC ⟨[], []⟩ (l.map Nd.d)) ∧ Keep s t := by
  obtain ⟨r, t, h1, ⟨vv, cc, rfl, h2⟩, h3⟩ := run_any n_SCtx (args := [vl]) (Q := fun r t => ∃ vv cc, r = .tup [.agg [vv, cc], .int .i64 0] ∧ CR t vv cc (addC ⟨[], []⟩ (l.map Nd.d))) (by simp [a49]) (fun r t t' hg hn ⟨vv, cc, e, h⟩ => ⟨vv, cc, e, h.mono fun id b hb => by rw [hg]; exact hb⟩) (fun r t hgr hk ⟨vv, cc, e, h⟩ => ⟨vv, cc, e, by
    rw [e] at hgr
    exact h.ground (plain_ground (ground_tup hgr).1) (plain_ground (ground_tup hgr).2)⟩) (w_SCtx (s := lowd s) (read_low' hr) hl hst)
  exact ⟨vv, cc, t, h1, h2, h3⟩
noncomputable def R_SDead : Con := runFn (tb [(31, conL ndC fValid), (72, R_SClN), (75, R_DelN), (65, conF dotC (pL ndC gDots)), (74, R_COf)]) a38
theorem s_SDead : SoundAt Tryz.prog 38 R_SDead := run_sound (tb_sound (l := [(31, conL ndC fValid), (72, R_SClN), (75, R_DelN), (65, conF dotC (pL ndC gDots)), (74, R_COf)]) (by simpa using ⟨s_StValid, s_SClN, s_DelN, s_Dots, s_COf⟩)) mixed Tryz.func38 k38 c38
theorem n_SDead : noNxtC a38.body = true := by kernel_rfl
theorem w_SDead_bad {s : St} {vl : AV} {l : List Nd} (hr : read ndC s vl = some l) (hl : l.length ≤ 1000) (hst : storeL l = false) : ∀ env : Env, elen env = a38.ntmps → (∀ i x_, [vl][i]? = some x_ → E env i = x_) → awp (tb [(31, conL ndC fValid), (72, R_SClN), (75, R_DelN), (65, conF dotC (pL ndC gDots)), (74, R_COf)]) a38.body (fun x e t => (∀ i, x ≠ .exit i) ∧ aresults e t a38.results = some (.tup [.agg [.nils, .nils], .int .i64 2]) ∧ Keep s t) env s := by
  intro env hlen ha
  have h0 : E env 0 = _ := ha 0 _ rfl
  have hlen : elen env = _ := hlen
  simp only [a38] at hlen
  unfold a38
  try dsimp only [oO, oG]
  have hK1 : Keep s (s.push (.row [.nils, .nils] true)) := (Keep.refl s).push _
  have qv := q_StValid false (hK1.read hr) (by unfold lim; omega)
  rw [hst] at qv
  have hst0 := sto_ctx (show sameN s.next s from rfl) (a := .nils) (b := .nils) rfl rfl
  simp (config := {contextual := true, maxDischargeDepth := 12}) only [tb_at, h0, hlen, qv, ap_build, fillP_nil, rc2, hst0, notV_bool, Bool.not_false, ↓bD, bU, forall_const, bS, implies_true, isNx, eq_self, ↓wp_cond, ↓wp_loop, ↓reduceIte, reduceCtorEq, Nat.reduceEqDiff, Nat.reduceLT, Nat.reduceAdd, Nat.reduceMul, bT, ↓sg_bsl, ↓st_callf, bX, List.cons_append, List.nil_append, ↓st_appf, bY, slcV_nils0N, slcV_sl0N, bslV_0N, bin_shr1, bsl_nd, q_known]
  all_goals exact (Keep.refl s).lowed.push _
theorem q_SDead_bad (cl : Bool) {s : St} {vl : AV} {l : List Nd} (hr : read ndC s vl = some l) (hl : l.length ≤ 1000) (hst : storeL l = false) : acall R_SDead cl [vl] s = some (.tup [.agg [.nils, .nils], .int .i64 2], s) := run_same n_SDead (by simp [a38]) rfl (w_SDead_bad (s := lowd s) (read_low' hr) hl hst)
theorem w_SDead {s : St} {vl : AV} {l : List Nd} (hr : read ndC s vl = some l) (hl : l.length ≤ 1000) (hst : storeL l = true) : ∀ env : Env, elen env = a38.ntmps → (∀ i x_, [vl][i]? = some x_ → E env i = x_) → awp (tb [(31, conL ndC fValid), (72, R_SClN), (75, R_DelN), (65, conF dotC (pL ndC gDots)), (74, R_COf)]) a38.body (fun x e t => (∀ i, x ≠ .exit i) ∧ ∃ r, aresults e t a38.results = some r ∧ (∃ vv cc, r = .tup [.agg [vv, cc], .int .i64 0] ∧ CR t vv cc (addC ⟨[], []⟩ ((deadL l).map Nd.d))) ∧ Keep s t) env s := by
  intro env hlen ha
  have h0 : E env 0 = _ := ha 0 _ rfl
  have hlen : elen env = _ := hlen
  simp only [a38] at hlen
  unfold a38
  try dsimp only [oO, oG]
  have hK1 : Keep s (s.push (.row [.nils, .nils] true)) := (Keep.refl s).push _
  have qv := q_StValid false (hK1.read hr) (by unfold lim; omega)
  rw [hst] at qv
  obtain ⟨w0, tc, qc, ⟨hN0, hcap⟩, hKc0⟩ := q_SClN (hK1.read hr) (by unfold lim; omega)
  obtain ⟨w1, td, qx, hN1, hC1⟩ := q_DelN hN0.nw hcap (by unfold lim; omega) (g := 76) (caps := []) (fun n => !decide (n.x = 0)) (fun t d _ => q_DeadF false d) (fun t d _ => q_DeadF false d)
  have hE : l.filter (fun d => !!decide (d.x = 0)) = deadL l := by simp [deadL]
  rw [hE] at hN1
  have hKd0 := hKc0.chgn hC1 (newX_vids hN0)
  have hdl : (deadL l).length ≤ 1000 := Nat.le_trans (List.length_filter_le _ _) hl
  obtain ⟨u1, t1, hd, hKd, hOd⟩ := fresh_L (D := dotC) (f := gDots) hN1.read (by unfold lim; omega) rfl (by simp)
  rw [mkR_none] at hd
  obtain ⟨vv, cc, t3, q1, hR, hKc⟩ := q_COf hOd.read (by rw [List.length_map]; omega) (dots_valid hst fun x hx => (List.mem_filter.1 hx).1)
  have hKr := (hKd0.trans hKd).trans hKc
  have hrb : t3.get (s).next = some (.row [.nils, .nils] true) := hKr.blk (St.get_push_new (s) _)
  have hstr := sto_row2 hrb (read_oneD hR.1).2 (read_oneD hR.2).2
  have hlr := St.get_lt hrb
  have hlo : lod (t3.put (s).next (.row [vv, cc] true)) 2 (.ptr (s).next 0) = some (.agg [vv, cc]) := lod_row2 (St.get_put_same hrb)
  skip
  simp (config := {contextual := true, maxDischargeDepth := 12}) only [tb_at, h0, hlen, qv, hd, q1, qc, qx, ap_build, fillP_nil, rc2, hstr, hlo, notV_bool, Bool.not_true, ↓bD, bU, forall_const, bS, implies_true, isNx, eq_self, ↓wp_cond, ↓wp_loop, ↓reduceIte, reduceCtorEq, Nat.reduceEqDiff, Nat.reduceLT, Nat.reduceAdd, Nat.reduceMul, bT, ↓sg_bsl, ↓st_callf, bX, List.cons_append, List.nil_append, ↓st_appf, bY, slcV_nils0N, slcV_sl0N, bslV_0N, bin_shr1, bsl_nd, q_known]
  exact ⟨_, rfl, ⟨vv, cc, rfl, cr_put hrb (by intro k n h; cases h) hR⟩, (hK1.trans hKr).put _ (by simp) hlr⟩
theorem q_SDead {s : St} {vl : AV} {l : List Nd} (hr : read ndC s vl = some l) (hl : l.length ≤ 1000) (hst : storeL l = true) : ∃ vv cc t, acall R_SDead false [vl] s = some (.tup [.agg [vv, cc], .int .i64 0], t) ∧ CR t vv cc (addC ⟨[], []⟩ ((deadL l).map Nd.d)) ∧ Keep s t := by
  obtain ⟨r, t, h1, ⟨vv, cc, rfl, h2⟩, h3⟩ := run_any n_SDead (args := [vl]) (Q := fun r t => ∃ vv cc, r = .tup [.agg [vv, cc], .int .i64 0] ∧ CR t vv cc (addC ⟨[], []⟩ ((deadL l).map Nd.d))) (by simp [a38]) (fun r t t' hg hn ⟨vv, cc, e, h⟩ => ⟨vv, cc, e, h.mono fun id b hb => by rw [hg]; exact hb⟩) (fun r t hgr hk ⟨vv, cc, e, h⟩ => ⟨vv, cc, e, by
    rw [e] at hgr
    exact h.ground (plain_ground (ground_tup hgr).1) (plain_ground (ground_tup hgr).2)⟩) (w_SDead (s := lowd s) (read_low' hr) hl hst)
  exact ⟨vv, cc, t, h1, h2, h3⟩
noncomputable def R_STime : Con := runFn (tb [(31, conL ndC fValid)]) a51
theorem s_STime : SoundAt Tryz.prog 51 R_STime := run_sound (tb_sound (l := [(31, conL ndC fValid)]) (by simpa using s_StValid)) mixed Tryz.func51 k51 c51
theorem n_STime : noNxtC a51.body = true := by kernel_rfl
def timeP (l : List Nd) : Int × Int := if storeL l = true then (timeL l, 0) else (0, 2)
theorem w_STime {s : St} {vl : AV} {l : List Nd} (hr : read ndC s vl = some l) (hl : l.length ≤ 1000) : ∀ env : Env, elen env = a51.ntmps → (∀ i x_, [vl][i]? = some x_ → E env i = x_) → awp (tb [(31, conL ndC fValid)]) a51.body (fun x e t => (∀ i, x ≠ .exit i) ∧ aresults e t a51.results = some (.tup [.int .i64 (timeP l).1, .int .i64 (timeP l).2]) ∧ Keep s t) env s := by
  intro env hlen ha
  have h0 : E env 0 = _ := ha 0 _ rfl
  have hlen : elen env = _ := hlen
  simp only [a51] at hlen
  unfold a51
  try dsimp only [oO, oG]
  have hL := lenV_read hr
  have qv := q_StValid false hr (by unfold lim; omega)
  cases hst : storeL l
  · rw [hst] at qv
    have hS : timeP l = (0, 2) := by unfold timeP; rw [hst]; rfl
    rw [hS]
    simp (config := {contextual := true, maxDischargeDepth := 12}) only [tb_at, h0, hlen, qv, notV_bool, Bool.not_false, ↓bD, bU, forall_const, bS, implies_true, isNx, eq_self, ↓wp_cond, ↓wp_loop, ↓reduceIte, reduceCtorEq, Nat.reduceEqDiff, Nat.reduceLT, Nat.reduceAdd, Nat.reduceMul, bT, ↓sg_bsl, ↓st_callf, bX, List.cons_append, List.nil_append, ↓st_appf, bY, slcV_nils0N, slcV_sl0N, bslV_0N, bin_shr1, bsl_nd, q_known]
    all_goals first | exact .refl s | skip
  rw [hst] at qv
  have hS : timeP l = (timeL l, 0) := by unfold timeP; rw [hst]; rfl
  rw [hS]
  simp (config := {contextual := true, maxDischargeDepth := 12}) only [tb_at, h0, hlen, qv, hL, notV_bool, Bool.not_true, ↓bD, bU, forall_const, bS, implies_true, isNx, eq_self, ↓wp_cond, ↓wp_loop, ↓reduceIte, reduceCtorEq, Nat.reduceEqDiff, Nat.reduceLT, Nat.reduceAdd, Nat.reduceMul, bT, ↓sg_bsl, ↓st_callf, bX, List.cons_append, List.nil_append, ↓st_appf, bY, slcV_nils0N, slcV_sl0N, bslV_0N, bin_shr1, bsl_nd, q_known]
  obtain ⟨I, hI⟩ : ∃ I : Nat → Env → St → Prop, ∀ n e t, I n e t = (Keep s t ∧ ∃ i : Nat, n + i = l.length ∧ elen e = 22 ∧ E e 4 = .int .i64 (timeL (l.take i)) ∧ E e 10 = vl ∧ E e 11 = .int .i64 (l.length : Int) ∧ E e 12 = .int .i64 (i : Int)) := ⟨fun n e t => (Keep s t ∧ ∃ i : Nat, n + i = l.length ∧ elen e = 22 ∧ E e 4 = .int .i64 (timeL (l.take i)) ∧ E e 10 = vl ∧ E e 11 = .int .i64 (l.length : Int) ∧ E e 12 = .int .i64 (i : Int)), fun _ _ _ => rfl⟩
  refine lwp_inv I (n := l.length) ?_ ?_
  · rw [hI]
    exact ⟨.refl s, 0, by omega, (by simp only [bE, Nat.reduceEqDiff, bN, Nat.reduceLT, hlen]; try rfl), (by simp only [bE, Nat.reduceEqDiff, bN, Nat.reduceLT, hlen]; try rfl), (by simp only [bE, Nat.reduceEqDiff, bN, Nat.reduceLT, hlen, h0]; try rfl), (by simp only [bE, Nat.reduceEqDiff, bN, Nat.reduceLT, hlen, hL]; try rfl), (by simp only [bE, Nat.reduceEqDiff, bN, Nat.reduceLT, hlen]; try rfl)⟩
  clear h0 hlen
  intro n e t hi
  rw [hI] at hi
  obtain ⟨hK, i, hni, he, e4, e10, e11, e12⟩ := hi
  by_cases hlt : i < l.length
  · obtain ⟨x, hx⟩ := getsome hlt
    have hw2 := wrap_add1 (n := i) (by omega)
    obtain ⟨a1, a2, a3, a5, a6, a4⟩ := nd_lods hr hK hx
    have i1 := nd_idx hr hx .i64
    have hsn := timeL_snoc hx
    simp (config := {contextual := true, maxDischargeDepth := 12}) only [tb_at, he, e4, e10, e11, e12, hL, hlt, hw2, a1, a4, i1, ↓bD, bU, forall_const, bS, implies_true, isNx, eq_self, ↓wp_cond, ↓wp_loop, ↓reduceIte, reduceCtorEq, Nat.reduceEqDiff, Nat.reduceLT, Nat.reduceAdd, Nat.reduceMul, bT, ↓sg_bsl, ↓st_callf, bX, List.cons_append, List.nil_append, ↓st_appf, bY, slcV_nils0N, slcV_sl0N, bslV_0N, bin_shr1, bsl_nd, q_known]
    refine ⟨n - 1, by omega, ?_⟩
    rw [hI]
    exact ⟨hK.lowed.push _, i + 1, by omega, (by simp only [bE, Nat.reduceEqDiff, bN, Nat.reduceLT, he]; try rfl), (by rw [hsn]; simp only [bE, Nat.reduceEqDiff, bN, Nat.reduceLT, he, e4]), (by simp only [bE, Nat.reduceEqDiff, bN, Nat.reduceLT, he, e10]; try rfl), (by simp only [bE, Nat.reduceEqDiff, bN, Nat.reduceLT, he, e11]; try rfl), (by simp only [bE, Nat.reduceEqDiff, bN, Nat.reduceLT, he]; try rfl)⟩
  · obtain rfl : i = l.length := by omega
    rw [List.take_length] at e4
    simp (config := {contextual := true, maxDischargeDepth := 12}) only [tb_at, he, e4, e10, e11, e12, hlt, ↓bD, bU, forall_const, bS, implies_true, isNx, eq_self, ↓wp_cond, ↓wp_loop, ↓reduceIte, reduceCtorEq, Nat.reduceEqDiff, Nat.reduceLT, Nat.reduceAdd, Nat.reduceMul, bT, ↓sg_bsl, ↓st_callf, bX, List.cons_append, List.nil_append, ↓st_appf, bY, slcV_nils0N, slcV_sl0N, bslV_0N, bin_shr1, bsl_nd, q_known]
    all_goals first | exact hK | skip
theorem q_STime (cl : Bool) {s : St} {vl : AV} {l : List Nd} (hr : read ndC s vl = some l) (hl : l.length ≤ 1000) : acall R_STime cl [vl] s = some (.tup [.int .i64 (timeP l).1, .int .i64 (timeP l).2], s) := run_same n_STime (by simp [a51]) rfl (w_STime (s := lowd s) (read_low' hr) hl)
noncomputable def R_RTime : Con := runFn (tb []) a27
theorem s_RTime : SoundAt Tryz.prog 27 R_RTime := run_sound (tb_sound (l := []) (by simp)) mixed Tryz.func27 k27 c27
theorem n_RTime : noNxtC a27.body = true := by kernel_rfl
theorem w_RTime {s : St} {vl : AV} {l : List Nd} (hr : read ndC s vl = some l) (hl : l.length ≤ 1000) : ∀ env : Env, elen env = a27.ntmps → (∀ i x_, [vl][i]? = some x_ → E env i = x_) → awp (tb []) a27.body (fun x e t => (∀ i, x ≠ .exit i) ∧ aresults e t a27.results = some (.int .i64 (timeL l)) ∧ Keep s t) env s := by
  intro env hlen ha
  have h0 : E env 0 = _ := ha 0 _ rfl
  have hlen : elen env = _ := hlen
  simp only [a27] at hlen
  unfold a27
  try dsimp only [oO, oG]
  have hL := lenV_read hr
  simp (config := {contextual := true, maxDischargeDepth := 12}) only [tb_at, h0, hlen, hL, ↓bD, bU, forall_const, bS, implies_true, isNx, eq_self, ↓wp_cond, ↓wp_loop, ↓reduceIte, reduceCtorEq, Nat.reduceEqDiff, Nat.reduceLT, Nat.reduceAdd, Nat.reduceMul, bT, ↓sg_bsl, ↓st_callf, bX, List.cons_append, List.nil_append, ↓st_appf, bY, slcV_nils0N, slcV_sl0N, bslV_0N, bin_shr1, bsl_nd, q_known]
  obtain ⟨I, hI⟩ : ∃ I : Nat → Env → St → Prop, ∀ n e t, I n e t = (t = s ∧ ∃ i : Nat, n + i = l.length ∧ elen e = 24 ∧ E e 0 = vl ∧ E e 3 = .int .i64 (timeL (l.take i)) ∧ E e 4 = .int .i64 (i : Int)) := ⟨fun n e t => (t = s ∧ ∃ i : Nat, n + i = l.length ∧ elen e = 24 ∧ E e 0 = vl ∧ E e 3 = .int .i64 (timeL (l.take i)) ∧ E e 4 = .int .i64 (i : Int)), fun _ _ _ => rfl⟩
  refine lwp_inv I (n := l.length) ?_ ?_
  · rw [hI]
    exact ⟨rfl, 0, by omega, (by simp only [bE, Nat.reduceEqDiff, bN, Nat.reduceLT, hlen]; try rfl), (by simp only [bE, Nat.reduceEqDiff, bN, Nat.reduceLT, hlen, h0]; try rfl), (by simp only [bE, Nat.reduceEqDiff, bN, Nat.reduceLT, hlen]; try rfl), (by simp only [bE, Nat.reduceEqDiff, bN, Nat.reduceLT, hlen]; try rfl)⟩
  clear h0 hlen
  intro n e t hi
  rw [hI] at hi
  obtain ⟨hK, i, hni, he, e0, e3, e4⟩ := hi
  have hK := hK.symm
  subst hK
  by_cases hlt : i < l.length
  · obtain ⟨x, hx⟩ := getsome hlt
    have hw2 := wrap_add1 (n := i) (by omega)
    obtain ⟨a1, a2, a3, a5, a6, a4⟩ := nd_lods hr (.refl _) hx
    have i1 := nd_idx hr hx .i64
    have hsn := timeL_snoc hx
    by_cases hgt : timeL (l.take i) < x.t
    · have hz := eq_true hgt
      have hm : timeL (l.take (i + 1)) = x.t := by rw [hsn]; omega
      simp (config := {contextual := true, maxDischargeDepth := 12}) only [tb_at, he, e0, e3, e4, hL, hlt, hw2, a5, a4, i1, hz, ↓bD, bU, forall_const, bS, implies_true, isNx, eq_self, ↓wp_cond, ↓wp_loop, ↓reduceIte, reduceCtorEq, Nat.reduceEqDiff, Nat.reduceLT, Nat.reduceAdd, Nat.reduceMul, bT, ↓sg_bsl, ↓st_callf, bX, List.cons_append, List.nil_append, ↓st_appf, bY, slcV_nils0N, slcV_sl0N, bslV_0N, bin_shr1, bsl_nd, q_known]
      refine ⟨n - 1, by omega, ?_⟩
      rw [hI]
      exact ⟨rfl, i + 1, by omega, (by simp only [bE, Nat.reduceEqDiff, bN, Nat.reduceLT, he]; try rfl), (by simp only [bE, Nat.reduceEqDiff, bN, Nat.reduceLT, he, e0]; try rfl), (by rw [hm]; simp only [bE, Nat.reduceEqDiff, bN, Nat.reduceLT, he]), (by simp only [bE, Nat.reduceEqDiff, bN, Nat.reduceLT, he]; try rfl)⟩
    · have hz := eq_false hgt
      have hm : timeL (l.take (i + 1)) = timeL (l.take i) := by rw [hsn]; omega
      simp (config := {contextual := true, maxDischargeDepth := 12}) only [tb_at, he, e0, e3, e4, hL, hlt, hw2, a5, a4, i1, hz, ↓bD, bU, forall_const, bS, implies_true, isNx, eq_self, ↓wp_cond, ↓wp_loop, ↓reduceIte, reduceCtorEq, Nat.reduceEqDiff, Nat.reduceLT, Nat.reduceAdd, Nat.reduceMul, bT, ↓sg_bsl, ↓st_callf, bX, List.cons_append, List.nil_append, ↓st_appf, bY, slcV_nils0N, slcV_sl0N, bslV_0N, bin_shr1, bsl_nd, q_known]
      refine ⟨n - 1, by omega, ?_⟩
      rw [hI]
      exact ⟨rfl, i + 1, by omega, (by simp only [bE, Nat.reduceEqDiff, bN, Nat.reduceLT, he]; try rfl), (by simp only [bE, Nat.reduceEqDiff, bN, Nat.reduceLT, he, e0]; try rfl), (by rw [hm]; simp only [bE, Nat.reduceEqDiff, bN, Nat.reduceLT, he, e3]), (by simp only [bE, Nat.reduceEqDiff, bN, Nat.reduceLT, he]; try rfl)⟩
  · obtain rfl : i = l.length := by omega
    rw [List.take_length] at e3
    simp (config := {contextual := true, maxDischargeDepth := 12}) only [tb_at, he, e0, e3, e4, hL, hlt, ↓bD, bU, forall_const, bS, implies_true, isNx, eq_self, ↓wp_cond, ↓wp_loop, ↓reduceIte, reduceCtorEq, Nat.reduceEqDiff, Nat.reduceLT, Nat.reduceAdd, Nat.reduceMul, bT, ↓sg_bsl, ↓st_callf, bX, List.cons_append, List.nil_append, ↓st_appf, bY, slcV_nils0N, slcV_sl0N, bslV_0N, bin_shr1, bsl_nd, q_known]
    all_goals first | exact .refl s | skip
theorem q_RTime (cl : Bool) {s : St} {vl : AV} {l : List Nd} (hr : read ndC s vl = some l) (hl : l.length ≤ 1000) : acall R_RTime cl [vl] s = some (.int .i64 (timeL l), s) := run_same n_RTime (by simp [a27]) rfl (w_RTime (s := lowd s) (read_low' hr) hl)

end Go.AM
end
/-
  What StoreLooks asks: the reference, the helpers. Own work of this project; in part printed by a program of it.
-/
section
set_option maxRecDepth 100000
set_option maxHeartbeats 8000000
namespace Go.AM
open Go Go.Proofs

variable {s t u : St}
noncomputable def R_RDots10 : Con := runFn (tb []) a54
theorem s_RDots10 : SoundAt Tryz.prog 54 R_RDots10 := run_sound (tb_sound (l := []) (by simp)) mixed Tryz.func54 k54 c54
theorem n_RDots10 : noNxtC a54.body = true := by kernel_rfl
theorem w_RDots10 {s : St} {vl : AV} {l : List Nd} (hr : read ndC s vl = some l) (hl : l.length ≤ 1000) (b : Bool) : ∀ env : Env, elen env = a54.ntmps → (∀ i x_, [vl, .bool b][i]? = some x_ → E env i = x_) → awp (tb []) a54.body (fun x e t => (∀ i, x ≠ .exit i) ∧ Keep s t ∧ ∃ r, aresults e t a54.results = some r ∧ Own dotC s t r (dotsR l b)) env s := by
  intro env hlen ha
  have h0 : E env 0 = _ := ha 0 _ rfl
  have h1 : E env 1 = _ := ha 1 _ rfl
  have hlen : elen env = _ := hlen
  simp only [a54] at hlen
  unfold a54
  try dsimp only [oO, oG]
  have hL := lenV_read hr
  simp (config := {contextual := true, maxDischargeDepth := 12}) only [tb_at, h0, h1, hlen, hL, ↓bD, bU, forall_const, bS, implies_true, isNx, eq_self, ↓wp_cond, ↓wp_loop, ↓reduceIte, reduceCtorEq, Nat.reduceEqDiff, Nat.reduceLT, Nat.reduceAdd, Nat.reduceMul, bT, ↓sg_bsl, ↓st_callf, bX, List.cons_append, List.nil_append, ↓st_appf, bY, slcV_nils0N, slcV_sl0N, bslV_0N, bin_shr1, bsl_nd, q_known]
  obtain ⟨I, hI⟩ : ∃ I : Nat → Env → St → Prop, ∀ n e t, I n e t = (Keep s t ∧ ∃ i : Nat, n + i = l.length ∧ elen e = 32 ∧ E e 0 = vl ∧ E e 1 = .bool b ∧ E e 6 = .int .i64 (i : Int) ∧ Own dotC s t (E e 5) (dotsR (l.take i) b)) := ⟨fun n e t => (Keep s t ∧ ∃ i : Nat, n + i = l.length ∧ elen e = 32 ∧ E e 0 = vl ∧ E e 1 = .bool b ∧ E e 6 = .int .i64 (i : Int) ∧ Own dotC s t (E e 5) (dotsR (l.take i) b)), fun _ _ _ => rfl⟩
  refine lwp_inv I (n := l.length) ?_ ?_
  · rw [hI]
    exact ⟨.refl s, 0, by omega, (by simp only [bE, Nat.reduceEqDiff, bN, Nat.reduceLT, hlen]; try rfl), (by simp only [bE, Nat.reduceEqDiff, bN, Nat.reduceLT, hlen, h0]; try rfl), (by simp only [bE, Nat.reduceEqDiff, bN, Nat.reduceLT, hlen, h1]; try rfl), (by simp only [bE, Nat.reduceEqDiff, bN, Nat.reduceLT, hlen]; try rfl), by simp only [bE, Nat.reduceEqDiff, bN, Nat.reduceLT, hlen]; exact .nil _ _ _⟩
  clear h0 h1 hlen
  intro n e t hi
  rw [hI] at hi
  obtain ⟨hK, i, hni, he, e0, e1, e6, hO⟩ := hi
  by_cases hlt : i < l.length
  · obtain ⟨x, hx⟩ := getsome hlt
    have hw2 := wrap_add1 (n := i) (by omega)
    obtain ⟨a1, a2, a3, a5, a6, a4⟩ := nd_lods hr hK hx
    have i1 := nd_idx hr hx .i64
    have hsn := dotsR_snoc (b := b) hx
    cases b
    · rw [if_pos (by simp)] at hsn
      obtain ⟨u1, t1, ap, hK', hO'⟩ := appV_one (C := dotC) hK hO x.d 16 (by have := dotsR_len (l.take i) false; rw [List.length_take] at this; unfold roomBytes; omega)
      have ap : appV (t.push (.row (Dot.av x.d) true)) 2 16 (E e 5) (.sl t.next 0 1 (some 1) 2) = some (u1, t1) := ap
      simp (config := {contextual := true, maxDischargeDepth := 12}) only [tb_at, he, e0, e1, e6, hL, hlt, hw2, a2, a4, a6, i1, ap, notV_bool, Bool.not_false, ↓bD, bU, forall_const, bS, implies_true, isNx, eq_self, ↓wp_cond, ↓wp_loop, ↓reduceIte, reduceCtorEq, Nat.reduceEqDiff, Nat.reduceLT, Nat.reduceAdd, Nat.reduceMul, bT, ↓sg_bsl, ↓st_callf, bX, List.cons_append, List.nil_append, ↓st_appf, bY, slcV_nils0N, slcV_sl0N, bslV_0N, bin_shr1, bsl_nd, q_known]
      refine ⟨n - 1, by omega, ?_⟩
      rw [hI]
      exact ⟨hK', i + 1, by omega, (by simp only [bE, Nat.reduceEqDiff, bN, Nat.reduceLT, he, e0, e1, e6]; try rfl), (by simp only [bE, Nat.reduceEqDiff, bN, Nat.reduceLT, he, e0, e1, e6]; try rfl), (by simp only [bE, Nat.reduceEqDiff, bN, Nat.reduceLT, he, e0, e1, e6]; try rfl), (by simp only [bE, Nat.reduceEqDiff, bN, Nat.reduceLT, he, e0, e1, e6]; try rfl), by simp only [bE, Nat.reduceEqDiff, bN, Nat.reduceLT, he]; rw [hsn]; exact hO'⟩
    · by_cases hx0 : x.x = 0
      · have hz := eq_true hx0
        rw [if_pos (by simp [hx0])] at hsn
        obtain ⟨u1, t1, ap, hK', hO'⟩ := appV_one (C := dotC) hK hO x.d 16 (by have := dotsR_len (l.take i) true; rw [List.length_take] at this; unfold roomBytes; omega)
        have ap : appV (t.push (.row (Dot.av x.d) true)) 2 16 (E e 5) (.sl t.next 0 1 (some 1) 2) = some (u1, t1) := ap
        simp (config := {contextual := true, maxDischargeDepth := 12}) only [tb_at, he, e0, e1, e6, hL, hlt, hw2, a2, a4, a6, i1, ap, notV_bool, Bool.not_true, hz, ↓bD, bU, forall_const, bS, implies_true, isNx, eq_self, ↓wp_cond, ↓wp_loop, ↓reduceIte, reduceCtorEq, Nat.reduceEqDiff, Nat.reduceLT, Nat.reduceAdd, Nat.reduceMul, bT, ↓sg_bsl, ↓st_callf, bX, List.cons_append, List.nil_append, ↓st_appf, bY, slcV_nils0N, slcV_sl0N, bslV_0N, bin_shr1, bsl_nd, q_known]
        refine ⟨n - 1, by omega, ?_⟩
        rw [hI]
        exact ⟨hK', i + 1, by omega, (by simp only [bE, Nat.reduceEqDiff, bN, Nat.reduceLT, he, e0, e1, e6]; try rfl), (by simp only [bE, Nat.reduceEqDiff, bN, Nat.reduceLT, he, e0, e1, e6]; try rfl), (by simp only [bE, Nat.reduceEqDiff, bN, Nat.reduceLT, he, e0, e1, e6]; try rfl), (by simp only [bE, Nat.reduceEqDiff, bN, Nat.reduceLT, he, e0, e1, e6]; try rfl), by simp only [bE, Nat.reduceEqDiff, bN, Nat.reduceLT, he]; rw [hsn]; exact hO'⟩
      · have hz := eq_false hx0
        rw [if_neg (by simp [hx0]), List.append_nil] at hsn
        simp (config := {contextual := true, maxDischargeDepth := 12}) only [tb_at, he, e0, e1, e6, hL, hlt, hw2, a2, a4, a6, i1, notV_bool, Bool.not_true, hz, ↓bD, bU, forall_const, bS, implies_true, isNx, eq_self, ↓wp_cond, ↓wp_loop, ↓reduceIte, reduceCtorEq, Nat.reduceEqDiff, Nat.reduceLT, Nat.reduceAdd, Nat.reduceMul, bT, ↓sg_bsl, ↓st_callf, bX, List.cons_append, List.nil_append, ↓st_appf, bY, slcV_nils0N, slcV_sl0N, bslV_0N, bin_shr1, bsl_nd, q_known]
        refine ⟨n - 1, by omega, ?_⟩
        rw [hI]
        exact ⟨hK, i + 1, by omega, (by simp only [bE, Nat.reduceEqDiff, bN, Nat.reduceLT, he, e0, e1, e6]; try rfl), (by simp only [bE, Nat.reduceEqDiff, bN, Nat.reduceLT, he, e0, e1, e6]; try rfl), (by simp only [bE, Nat.reduceEqDiff, bN, Nat.reduceLT, he, e0, e1, e6]; try rfl), (by simp only [bE, Nat.reduceEqDiff, bN, Nat.reduceLT, he, e0, e1, e6]; try rfl), by simp only [bE, Nat.reduceEqDiff, bN, Nat.reduceLT, he]; rw [hsn]; exact hO⟩
  · obtain rfl : i = l.length := by omega
    rw [List.take_length] at hO
    simp (config := {contextual := true, maxDischargeDepth := 12}) only [tb_at, he, e0, e1, e6, hL, hlt, ↓bD, bU, forall_const, bS, implies_true, isNx, eq_self, ↓wp_cond, ↓wp_loop, ↓reduceIte, reduceCtorEq, Nat.reduceEqDiff, Nat.reduceLT, Nat.reduceAdd, Nat.reduceMul, bT, ↓sg_bsl, ↓st_callf, bX, List.cons_append, List.nil_append, ↓st_appf, bY, slcV_nils0N, slcV_sl0N, bslV_0N, bin_shr1, bsl_nd, q_known]
    first | exact ⟨hK, _, rfl, hO⟩ | exact ⟨_, rfl, hO⟩
theorem q_RDots10 {s : St} {vl : AV} {l : List Nd} (hr : read ndC s vl = some l) (hl : l.length ≤ 1000) (b : Bool) : ∃ v t, acall R_RDots10 false [vl, .bool b] s = some (v, t) ∧ Own dotC s t v (dotsR l b) ∧ Keep s t := run_fresh n_RDots10 (by simp [a54]) (fun v => v) (fun _ _ _ _ _ => rfl) (w_RDots10 (s := lowd s) (read_low' hr) hl b)
noncomputable def R_RCtx10 : Con := runFn (tb [(54, R_RDots10), (53, R_RAdd)]) a26
theorem s_RCtx10 : SoundAt Tryz.prog 26 R_RCtx10 := run_sound (tb_sound (l := [(54, R_RDots10), (53, R_RAdd)]) (by simpa using ⟨s_RDots10, s_RAdd⟩)) mixed Tryz.func26 k26 c26
theorem n_RCtx10 : noNxtC a26.body = true := by kernel_rfl
theorem w_RCtx10 {s : St} {vl : AV} {l : List Nd} (hr : read ndC s vl = some l) (hl : l.length ≤ 1000) (b : Bool) (hst : storeL l = true) : ∀ env : Env, elen env = a26.ntmps → (∀ i x_, [vl, .bool b][i]? = some x_ → E env i = x_) → awp (tb [(54, R_RDots10), (53, R_RAdd)]) a26.body (fun x e t => (∀ i, x ≠ .exit i) ∧ ∃ r, aresults e t a26.results = some r ∧ (∃ vv cc, r = .agg [vv, cc] ∧ CR t vv cc (addC ⟨[], []⟩ (dotsR l b))) ∧ Keep s t) env s := by
  intro env hlen ha
  have h0 : E env 0 = _ := ha 0 _ rfl
  have h1 : E env 1 = _ := ha 1 _ rfl
  have hlen : elen env = _ := hlen
  simp only [a26] at hlen
  unfold a26
  try dsimp only [oO, oG]
  have hK1 : Keep s (s.push (.row [.nils, .nils] true)) := (Keep.refl s).push _
  obtain ⟨u1, t1, hd, hOd, hKd⟩ := q_RDots10 (hK1.read hr) hl b
  have hdv : (dotsR l b).all Dot.valid = true := dots_valid hst fun x hx => (List.mem_filter.1 hx).1
  obtain ⟨vv, cc, t3, q1, hR, hKc⟩ := q_RAdd (s := t1) (X := ⟨[], []⟩) (read_nils dotC _) (read_nils dotC _) (by simp) (by simp) hOd.read (Nat.le_trans (dotsR_len l b) (by omega)) rfl hdv
  have hKr := hKd.trans hKc
  have hrb : t3.get (s).next = some (.row [.nils, .nils] true) := hKr.blk (St.get_push_new (s) _)
  have hstr := sto_row2 hrb (read_oneD hR.1).2 (read_oneD hR.2).2
  have hlr := St.get_lt hrb
  have hlo : lod (t3.put (s).next (.row [vv, cc] true)) 2 (.ptr (s).next 0) = some (.agg [vv, cc]) := lod_row2 (St.get_put_same hrb)
  simp (config := {contextual := true, maxDischargeDepth := 12}) only [tb_at, h0, h1, hlen, hd, q1, ap_build, fillP_nil, rc1, hstr, hlo, ↓bD, bU, forall_const, bS, implies_true, isNx, eq_self, ↓wp_cond, ↓wp_loop, ↓reduceIte, reduceCtorEq, Nat.reduceEqDiff, Nat.reduceLT, Nat.reduceAdd, Nat.reduceMul, bT, ↓sg_bsl, ↓st_callf, bX, List.cons_append, List.nil_append, ↓st_appf, bY, slcV_nils0N, slcV_sl0N, bslV_0N, bin_shr1, bsl_nd, q_known]
  exact ⟨_, rfl, ⟨vv, cc, rfl, cr_put hrb (by intro k n h; cases h) hR⟩, (hK1.trans hKr).put _ (by simp) hlr⟩
theorem q_RCtx10 {s : St} {vl : AV} {l : List Nd} (hr : read ndC s vl = some l) (hl : l.length ≤ 1000) (b : Bool) (hst : storeL l = true) : ∃ vv cc t, acall R_RCtx10 false [vl, .bool b] s = some (.agg [vv, cc], t) ∧ CR t vv cc (addC ⟨[], []⟩ (dotsR l b)) ∧ Keep s t := by
  obtain ⟨r, t, h1, ⟨vv, cc, rfl, h2⟩, h3⟩ := run_any n_RCtx10 (args := [vl, .bool b]) (Q := fun r t => ∃ vv cc, r = .agg [vv, cc] ∧ CR t vv cc (addC ⟨[], []⟩ (dotsR l b))) (by simp [a26]) (fun r t t' hg hn ⟨vv, cc, e, h⟩ => ⟨vv, cc, e, h.mono fun id b hb => by rw [hg]; exact hb⟩) (fun r t hgr hk ⟨vv, cc, e, h⟩ => ⟨vv, cc, e, by
    rw [e] at hgr
    exact h.ground (plain_ground (ground_agg hgr).1) (plain_ground (ground_agg hgr).2)⟩) (w_RCtx10 (s := lowd s) (read_low' hr) hl b hst)
  exact ⟨vv, cc, t, h1, h2, h3⟩

def lackF (l : List Nd) (out : List Dot) (n : Nd) : List Dot := if n.p.root = false ∧ hasN l n.p = false then withL out n.p else out
theorem lackF_eq (l : List Nd) : ∀ (m : List Nd) (out : List Dot), m.foldl (lackF l) out = (((m.filter fun n => !n.p.root).map Nd.p).filter fun d => !hasN l d).foldl withL out
  | [], out => rfl
  | n :: m, out => by
    rw [List.foldl_cons, lackF_eq l m]
    unfold lackF
    cases hr : n.p.root
    · cases hh : hasN l n.p <;> simp [hr, hh]
    · simp [hr]
theorem lackF_all (l : List Nd) : l.foldl (lackF l) [] = lackL l := lackF_eq l l []
theorem lackF_len (l : List Nd) : ∀ (m : List Nd) (out : List Dot), (m.foldl (lackF l) out).length ≤ out.length + m.length
  | [], out => by simp
  | n :: m, out => by
    rw [List.foldl_cons]
    have h1 := lackF_len l m (lackF l out n)
    have h2 : (lackF l out n).length ≤ out.length + 1 := by
      unfold lackF
      split
      · exact withL_len _ _
      · omega
    simp only [List.length_cons]
    omega
noncomputable def R_RLack10 : Con := runFn (tb [(45, R_RRoot), (11, R_RFnd), (55, R_RWith)]) a28
theorem s_RLack10 : SoundAt Tryz.prog 28 R_RLack10 := run_sound (tb_sound (l := [(45, R_RRoot), (11, R_RFnd), (55, R_RWith)]) (by simpa using ⟨s_RRoot, s_RFnd, s_RWith⟩)) mixed Tryz.func28 k28 c28
theorem n_RLack10 : noNxtC a28.body = true := by kernel_rfl
theorem w_RLack10 {s : St} {vl : AV} {l : List Nd} (hr : read ndC s vl = some l) (hl : l.length ≤ 1000) : ∀ env : Env, elen env = a28.ntmps → (∀ i x_, [vl][i]? = some x_ → E env i = x_) → awp (tb [(45, R_RRoot), (11, R_RFnd), (55, R_RWith)]) a28.body (fun x e t => (∀ i, x ≠ .exit i) ∧ Keep s t ∧ ∃ r, aresults e t a28.results = some r ∧ Own dotC s t r (lackL l)) env s := by
  intro env hlen ha
  have h0 : E env 0 = _ := ha 0 _ rfl
  have hlen : elen env = _ := hlen
  simp only [a28] at hlen
  unfold a28
  try dsimp only [oO, oG]
  have hL := lenV_read hr
  simp (config := {contextual := true, maxDischargeDepth := 12}) only [tb_at, h0, hlen, hL, ↓bD, bU, forall_const, bS, implies_true, isNx, eq_self, ↓wp_cond, ↓wp_loop, ↓reduceIte, reduceCtorEq, Nat.reduceEqDiff, Nat.reduceLT, Nat.reduceAdd, Nat.reduceMul, bT, ↓sg_bsl, ↓st_callf, bX, List.cons_append, List.nil_append, ↓st_appf, bY, slcV_nils0N, slcV_sl0N, bslV_0N, bin_shr1, bsl_nd, q_known]
  obtain ⟨I, hI⟩ : ∃ I : Nat → Env → St → Prop, ∀ n e t, I n e t = (Keep s t ∧ ∃ i : Nat, n + i = l.length ∧ elen e = 30 ∧ E e 0 = vl ∧ E e 4 = .int .i64 (i : Int) ∧ Own dotC s t (E e 3) ((l.take i).foldl (lackF l) [])) := ⟨fun n e t => (Keep s t ∧ ∃ i : Nat, n + i = l.length ∧ elen e = 30 ∧ E e 0 = vl ∧ E e 4 = .int .i64 (i : Int) ∧ Own dotC s t (E e 3) ((l.take i).foldl (lackF l) [])), fun _ _ _ => rfl⟩
  refine lwp_inv I (n := l.length) ?_ ?_
  · rw [hI]
    exact ⟨.refl s, 0, by omega, (by simp only [bE, Nat.reduceEqDiff, bN, Nat.reduceLT, hlen]; try rfl), (by simp only [bE, Nat.reduceEqDiff, bN, Nat.reduceLT, hlen, h0]; try rfl), (by simp only [bE, Nat.reduceEqDiff, bN, Nat.reduceLT, hlen]; try rfl), by simp only [bE, Nat.reduceEqDiff, bN, Nat.reduceLT, hlen]; exact .nil _ _ _⟩
  clear h0 hlen
  intro n e t hi
  rw [hI] at hi
  obtain ⟨hK, i, hni, he, e0, e4, hO⟩ := hi
  by_cases hlt : i < l.length
  · obtain ⟨x, hx⟩ := getsome hlt
    have hw2 := wrap_add1 (n := i) (by omega)
    obtain ⟨a1, a2, a3, a5, a6, a4⟩ := nd_lods hr hK hx
    have i1 := nd_idx hr hx .i64
    have hsn : (l.take (i + 1)).foldl (lackF l) [] = lackF l ((l.take i).foldl (lackF l) []) x := by rw [take_snoc hx, List.foldl_append]; rfl
    have hKb : Keep s (t.lowed.push (.row (Dot.av x.p) true)) := hK.lowed.push _
    have qr : ∀ u : St, acall R_RRoot false [.agg (Dot.av x.p)] u = some (.bool x.p.root, u) := fun u => q_RRoot false x.p
    have qi := q_RFnd false (hKb.read hr) (by unfold lim; omega) x.p
    have hz := idx_has l x.p
    cases hrt : x.p.root
    · rw [hrt] at qr
      cases hh : hasN l x.p
      · rw [hh] at hz
        have hs2 : lackF l ((l.take i).foldl (lackF l) []) x = withL ((l.take i).foldl (lackF l) []) x.p := by unfold lackF; rw [if_pos ⟨hrt, hh⟩]
        have hln := lackF_len l (l.take i) []
        rw [List.length_take] at hln
        simp only [List.length_nil, Nat.zero_add] at hln
        obtain ⟨w, t5, qw, hO', hK'⟩ := q_RWith (hO.lowed.push (.row (Dot.av x.p) true)) hKb.next (by unfold lim; omega) x.p
        simp (config := {contextual := true, maxDischargeDepth := 12}) only [tb_at, he, e0, e4, hL, hlt, hw2, a3, a4, i1, qr, qi, hz, qw, notV_bool, Bool.not_false, ↓bD, bU, forall_const, bS, implies_true, isNx, eq_self, ↓wp_cond, ↓wp_loop, ↓reduceIte, reduceCtorEq, Nat.reduceEqDiff, Nat.reduceLT, Nat.reduceAdd, Nat.reduceMul, bT, ↓sg_bsl, ↓st_callf, bX, List.cons_append, List.nil_append, ↓st_appf, bY, slcV_nils0N, slcV_sl0N, bslV_0N, bin_shr1, bsl_nd, q_known]
        refine ⟨n - 1, by omega, ?_⟩
        rw [hI]
        exact ⟨hKb.trans hK', i + 1, by omega, (by simp only [bE, Nat.reduceEqDiff, bN, Nat.reduceLT, he, e0, e4]; try rfl), (by simp only [bE, Nat.reduceEqDiff, bN, Nat.reduceLT, he, e0, e4]; try rfl), (by simp only [bE, Nat.reduceEqDiff, bN, Nat.reduceLT, he, e0, e4]; try rfl), by simp only [bE, Nat.reduceEqDiff, bN, Nat.reduceLT, he]; rw [hsn, hs2]; exact hO'⟩
      · rw [hh] at hz
        have hs2 : lackF l ((l.take i).foldl (lackF l) []) x = (l.take i).foldl (lackF l) [] := by unfold lackF; rw [if_neg (by simp [hh])]
        simp (config := {contextual := true, maxDischargeDepth := 12}) only [tb_at, he, e0, e4, hL, hlt, hw2, a3, a4, i1, qr, qi, hz, Bool.true_eq_false, notV_bool, Bool.not_false, ↓bD, bU, forall_const, bS, implies_true, isNx, eq_self, ↓wp_cond, ↓wp_loop, ↓reduceIte, reduceCtorEq, Nat.reduceEqDiff, Nat.reduceLT, Nat.reduceAdd, Nat.reduceMul, bT, ↓sg_bsl, ↓st_callf, bX, List.cons_append, List.nil_append, ↓st_appf, bY, slcV_nils0N, slcV_sl0N, bslV_0N, bin_shr1, bsl_nd, q_known]
        refine ⟨n - 1, by omega, ?_⟩
        rw [hI]
        exact ⟨hKb, i + 1, by omega, (by simp only [bE, Nat.reduceEqDiff, bN, Nat.reduceLT, he, e0, e4]; try rfl), (by simp only [bE, Nat.reduceEqDiff, bN, Nat.reduceLT, he, e0, e4]; try rfl), (by simp only [bE, Nat.reduceEqDiff, bN, Nat.reduceLT, he, e0, e4]; try rfl), by simp only [bE, Nat.reduceEqDiff, bN, Nat.reduceLT, he]; rw [hsn, hs2]; exact hO.lowed.push _⟩
    · rw [hrt] at qr
      have hs2 : lackF l ((l.take i).foldl (lackF l) []) x = (l.take i).foldl (lackF l) [] := by unfold lackF; rw [if_neg (by simp [hrt])]
      simp (config := {contextual := true, maxDischargeDepth := 12}) only [tb_at, he, e0, e4, hL, hlt, hw2, a3, a4, i1, qr, notV_bool, Bool.not_true, ↓bD, bU, forall_const, bS, implies_true, isNx, eq_self, ↓wp_cond, ↓wp_loop, ↓reduceIte, reduceCtorEq, Nat.reduceEqDiff, Nat.reduceLT, Nat.reduceAdd, Nat.reduceMul, bT, ↓sg_bsl, ↓st_callf, bX, List.cons_append, List.nil_append, ↓st_appf, bY, slcV_nils0N, slcV_sl0N, bslV_0N, bin_shr1, bsl_nd, q_known]
      refine ⟨n - 1, by omega, ?_⟩
      rw [hI]
      exact ⟨hKb, i + 1, by omega, (by simp only [bE, Nat.reduceEqDiff, bN, Nat.reduceLT, he, e0, e4]; try rfl), (by simp only [bE, Nat.reduceEqDiff, bN, Nat.reduceLT, he, e0, e4]; try rfl), (by simp only [bE, Nat.reduceEqDiff, bN, Nat.reduceLT, he, e0, e4]; try rfl), by simp only [bE, Nat.reduceEqDiff, bN, Nat.reduceLT, he]; rw [hsn, hs2]; exact hO.lowed.push _⟩
  · obtain rfl : i = l.length := by omega
    rw [List.take_length, lackF_all] at hO
    simp (config := {contextual := true, maxDischargeDepth := 12}) only [tb_at, he, e0, e4, hL, hlt, ↓bD, bU, forall_const, bS, implies_true, isNx, eq_self, ↓wp_cond, ↓wp_loop, ↓reduceIte, reduceCtorEq, Nat.reduceEqDiff, Nat.reduceLT, Nat.reduceAdd, Nat.reduceMul, bT, ↓sg_bsl, ↓st_callf, bX, List.cons_append, List.nil_append, ↓st_appf, bY, slcV_nils0N, slcV_sl0N, bslV_0N, bin_shr1, bsl_nd, q_known]
    first | exact ⟨hK, _, rfl, hO⟩ | exact ⟨_, rfl, hO⟩
theorem q_RLack10 {s : St} {vl : AV} {l : List Nd} (hr : read ndC s vl = some l) (hl : l.length ≤ 1000) : ∃ v t, acall R_RLack10 false [vl] s = some (v, t) ∧ Own dotC s t v (lackL l) ∧ Keep s t := run_fresh n_RLack10 (by simp [a28]) (fun v => v) (fun _ _ _ _ _ => rfl) (w_RLack10 (s := lowd s) (read_low' hr) hl)

end Go.AM
end
/-
  StoreLooks. Own work of this project; in part printed by a program of it.
-/
section
set_option maxRecDepth 100000
set_option maxHeartbeats 8000000
namespace Go.AM
open Go Go.Proofs

variable {s t u : St}
noncomputable def R_seen : Con := runFn (tb [(49, R_SCtx), (50, R_RCEqual)]) a22
theorem s_seen : SoundAt Tryz.prog 22 R_seen := run_sound (tb_sound (l := [(49, R_SCtx), (50, R_RCEqual)]) (by simpa using ⟨s_SCtx, s_RCEqual⟩)) mixed Tryz.func22 k22 c22
theorem n_seen : noNxtC a22.body = true := by kernel_rfl
theorem w_seen {s : St} {vl : AV} {l : List Nd} (hr : read ndC s vl = some l) (hl : l.length ≤ 1000) {v' w' : AV} {Y : DCx} (kv : read dotC s v' = some Y.v) (kw : read dotC s w' = some Y.c) (klv : Y.v.length ≤ lim) (klw : Y.c.length ≤ lim) (e2 : Int) (hst : storeL l = true) : ∀ env : Env, elen env = a22.ntmps → (∀ i x_, [vl, .agg [v', w'], .int .i64 e2][i]? = some x_ → E env i = x_) → awp (tb [(49, R_SCtx), (50, R_RCEqual)]) a22.body (fun x e t => (∀ i, x ≠ .exit i) ∧ aresults e t a22.results = some (.bool (decide (addC ⟨[], []⟩ (l.map Nd.d) = Y) && decide (0 = e2))) ∧ Keep s t) env s := by
  intro env hlen ha
  have h0 : E env 0 = _ := ha 0 _ rfl
  have h1 : E env 1 = _ := ha 1 _ rfl
  have h2 : E env 2 = _ := ha 2 _ rfl
  have hlen : elen env = _ := hlen
  simp only [a22] at hlen
  unfold a22
  try dsimp only [oO, oG]
  have hby := boxV_2 (read_oneD kv).2 (read_oneD kw).2
  have hK2 : Keep s (s.push (.row [v', w'] true)) := (Keep.refl s).push _
  obtain ⟨vv, cc, t1, q1, hR1, hK4⟩ := q_SCtx (hK2.read hr) hl hst
  have hal := add_len ⟨[], []⟩ (l.map Nd.d)
  simp only [List.length_nil, Nat.zero_add] at hal
  have hml : (l.map Nd.d).length ≤ 1000 := by rw [List.length_map]; exact hl
  have hst2 := sto_ctx (show sameN t1.next t1 from rfl) (read_oneD hR1.1).2 (read_oneD hR1.2).2
  have hK5 : Keep t1 (t1.lowed.push (.row [vv, cc] true)) := (Keep.refl t1).lowed.push _
  obtain ⟨d1', d2', d3', d4'⟩ := box_ctx s v' w' (hK4.trans hK5)
  have hR5 := hR1.keep hK5
  have hK25 := hK2.trans (hK4.trans hK5)
  have q3 := q_RCEqual false hR5.1 hR5.2 (by unfold lim; omega) (by unfold lim; omega) (hK25.read kv) (hK25.read kw) klv klw
  simp (config := {contextual := true, maxDischargeDepth := 12}) only [tb_at, h0, h1, h2, hlen, hby, d1', d4', q1, hst2, q3, ↓bD, bU, forall_const, bS, implies_true, isNx, eq_self, ↓wp_cond, ↓wp_loop, ↓reduceIte, reduceCtorEq, Nat.reduceEqDiff, Nat.reduceLT, Nat.reduceAdd, Nat.reduceMul, bT, ↓sg_bsl, ↓st_callf, bX, List.cons_append, List.nil_append, ↓st_appf, bY, slcV_nils0N, slcV_sl0N, bslV_0N, bin_shr1, bsl_nd, q_known]
  all_goals first | exact hK25 | skip
theorem q_seen (cl : Bool) {s : St} {vl : AV} {l : List Nd} (hr : read ndC s vl = some l) (hl : l.length ≤ 1000) {v' w' : AV} {Y : DCx} (kv : read dotC s v' = some Y.v) (kw : read dotC s w' = some Y.c) (klv : Y.v.length ≤ lim) (klw : Y.c.length ≤ lim) (e2 : Int) (hst : storeL l = true) : acall R_seen cl [vl, .agg [v', w'], .int .i64 e2] s = some (.bool (decide (addC ⟨[], []⟩ (l.map Nd.d) = Y) && decide (0 = e2)), s) := run_same n_seen (by simp [a22]) rfl (w_seen (s := lowd s) (read_low' hr) hl (read_low' kv) (read_low' kw) klv klw e2 hst)
theorem w_seen_bad {s : St} {vl : AV} {l : List Nd} (hr : read ndC s vl = some l) (hl : l.length ≤ 1000) {v' w' : AV} {Y : DCx} (kv : read dotC s v' = some Y.v) (kw : read dotC s w' = some Y.c) (klv : Y.v.length ≤ lim) (klw : Y.c.length ≤ lim) (e2 : Int) (hst : storeL l = false) : ∀ env : Env, elen env = a22.ntmps → (∀ i x_, [vl, .agg [v', w'], .int .i64 e2][i]? = some x_ → E env i = x_) → awp (tb [(49, R_SCtx), (50, R_RCEqual)]) a22.body (fun x e t => (∀ i, x ≠ .exit i) ∧ aresults e t a22.results = some (.bool (decide ((⟨[], []⟩ : DCx) = Y) && decide (2 = e2))) ∧ Keep s t) env s := by
  intro env hlen ha
  have h0 : E env 0 = _ := ha 0 _ rfl
  have h1 : E env 1 = _ := ha 1 _ rfl
  have h2 : E env 2 = _ := ha 2 _ rfl
  have hlen : elen env = _ := hlen
  simp only [a22] at hlen
  unfold a22
  try dsimp only [oO, oG]
  have hby := boxV_2 (read_oneD kv).2 (read_oneD kw).2
  have hK2 : Keep s (s.push (.row [v', w'] true)) := (Keep.refl s).push _
  have q1 := q_SCtx_bad false (hK2.read hr) hl hst
  have hst2 := sto_ctx (show sameN (s.push (.row [v', w'] true)).next (s.push (.row [v', w'] true)) from rfl) (a := .nils) (b := .nils) rfl rfl
  have hK5 : Keep (s.push (.row [v', w'] true)) ((s.push (.row [v', w'] true)).lowed.push (.row [.nils, .nils] true)) := (Keep.refl _).lowed.push _
  obtain ⟨d1', d2', d3', d4'⟩ := box_ctx s v' w' hK5
  have hK25 := hK2.trans hK5
  have q3 := q_RCEqual false (s := (s.push (.row [v', w'] true)).lowed.push (.row [.nils, .nils] true)) (X := ⟨[], []⟩) (read_nils dotC _) (read_nils dotC _) (by simp) (by simp) (hK25.read kv) (hK25.read kw) klv klw
  simp (config := {contextual := true, maxDischargeDepth := 12}) only [tb_at, h0, h1, h2, hlen, hby, d1', d4', q1, hst2, q3, ↓bD, bU, forall_const, bS, implies_true, isNx, eq_self, ↓wp_cond, ↓wp_loop, ↓reduceIte, reduceCtorEq, Nat.reduceEqDiff, Nat.reduceLT, Nat.reduceAdd, Nat.reduceMul, bT, ↓sg_bsl, ↓st_callf, bX, List.cons_append, List.nil_append, ↓st_appf, bY, slcV_nils0N, slcV_sl0N, bslV_0N, bin_shr1, bsl_nd, q_known]
  all_goals first | exact hK25 | skip
theorem q_seen_bad (cl : Bool) {s : St} {vl : AV} {l : List Nd} (hr : read ndC s vl = some l) (hl : l.length ≤ 1000) {v' w' : AV} {Y : DCx} (kv : read dotC s v' = some Y.v) (kw : read dotC s w' = some Y.c) (klv : Y.v.length ≤ lim) (klw : Y.c.length ≤ lim) (e2 : Int) (hst : storeL l = false) : acall R_seen cl [vl, .agg [v', w'], .int .i64 e2] s = some (.bool (decide ((⟨[], []⟩ : DCx) = Y) && decide (2 = e2)), s) := run_same n_seen (by simp [a22]) rfl (w_seen_bad (s := lowd s) (read_low' hr) hl (read_low' kv) (read_low' kw) klv klw e2 hst)
noncomputable def R_dead : Con := runFn (tb [(38, R_SDead), (50, R_RCEqual)]) a23
theorem s_dead : SoundAt Tryz.prog 23 R_dead := run_sound (tb_sound (l := [(38, R_SDead), (50, R_RCEqual)]) (by simpa using ⟨s_SDead, s_RCEqual⟩)) mixed Tryz.func23 k23 c23
theorem n_dead : noNxtC a23.body = true := by kernel_rfl
theorem w_dead {s : St} {vl : AV} {l : List Nd} (hr : read ndC s vl = some l) (hl : l.length ≤ 1000) {v' w' : AV} {Y : DCx} (kv : read dotC s v' = some Y.v) (kw : read dotC s w' = some Y.c) (klv : Y.v.length ≤ lim) (klw : Y.c.length ≤ lim) (e2 : Int) (hst : storeL l = true) : ∀ env : Env, elen env = a23.ntmps → (∀ i x_, [vl, .agg [v', w'], .int .i64 e2][i]? = some x_ → E env i = x_) → awp (tb [(38, R_SDead), (50, R_RCEqual)]) a23.body (fun x e t => (∀ i, x ≠ .exit i) ∧ aresults e t a23.results = some (.bool (decide (addC ⟨[], []⟩ ((deadL l).map Nd.d) = Y) && decide (0 = e2))) ∧ Keep s t) env s := by
  intro env hlen ha
  have h0 : E env 0 = _ := ha 0 _ rfl
  have h1 : E env 1 = _ := ha 1 _ rfl
  have h2 : E env 2 = _ := ha 2 _ rfl
  have hlen : elen env = _ := hlen
  simp only [a23] at hlen
  unfold a23
  try dsimp only [oO, oG]
  have hby := boxV_2 (read_oneD kv).2 (read_oneD kw).2
  have hK2 : Keep s (s.push (.row [v', w'] true)) := (Keep.refl s).push _
  obtain ⟨vv, cc, t1, q1, hR1, hK4⟩ := q_SDead (hK2.read hr) hl hst
  have hal := add_len ⟨[], []⟩ ((deadL l).map Nd.d)
  simp only [List.length_nil, Nat.zero_add] at hal
  have hml : ((deadL l).map Nd.d).length ≤ 1000 := by rw [List.length_map]; exact Nat.le_trans (List.length_filter_le _ _) hl
  have hst2 := sto_ctx (show sameN t1.next t1 from rfl) (read_oneD hR1.1).2 (read_oneD hR1.2).2
  have hK5 : Keep t1 (t1.lowed.push (.row [vv, cc] true)) := (Keep.refl t1).lowed.push _
  obtain ⟨d1', d2', d3', d4'⟩ := box_ctx s v' w' (hK4.trans hK5)
  have hR5 := hR1.keep hK5
  have hK25 := hK2.trans (hK4.trans hK5)
  have q3 := q_RCEqual false hR5.1 hR5.2 (by unfold lim; omega) (by unfold lim; omega) (hK25.read kv) (hK25.read kw) klv klw
  simp (config := {contextual := true, maxDischargeDepth := 12}) only [tb_at, h0, h1, h2, hlen, hby, d1', d4', q1, hst2, q3, ↓bD, bU, forall_const, bS, implies_true, isNx, eq_self, ↓wp_cond, ↓wp_loop, ↓reduceIte, reduceCtorEq, Nat.reduceEqDiff, Nat.reduceLT, Nat.reduceAdd, Nat.reduceMul, bT, ↓sg_bsl, ↓st_callf, bX, List.cons_append, List.nil_append, ↓st_appf, bY, slcV_nils0N, slcV_sl0N, bslV_0N, bin_shr1, bsl_nd, q_known]
  all_goals first | exact hK25 | skip
theorem q_dead (cl : Bool) {s : St} {vl : AV} {l : List Nd} (hr : read ndC s vl = some l) (hl : l.length ≤ 1000) {v' w' : AV} {Y : DCx} (kv : read dotC s v' = some Y.v) (kw : read dotC s w' = some Y.c) (klv : Y.v.length ≤ lim) (klw : Y.c.length ≤ lim) (e2 : Int) (hst : storeL l = true) : acall R_dead cl [vl, .agg [v', w'], .int .i64 e2] s = some (.bool (decide (addC ⟨[], []⟩ ((deadL l).map Nd.d) = Y) && decide (0 = e2)), s) := run_same n_dead (by simp [a23]) rfl (w_dead (s := lowd s) (read_low' hr) hl (read_low' kv) (read_low' kw) klv klw e2 hst)
theorem w_dead_bad {s : St} {vl : AV} {l : List Nd} (hr : read ndC s vl = some l) (hl : l.length ≤ 1000) {v' w' : AV} {Y : DCx} (kv : read dotC s v' = some Y.v) (kw : read dotC s w' = some Y.c) (klv : Y.v.length ≤ lim) (klw : Y.c.length ≤ lim) (e2 : Int) (hst : storeL l = false) : ∀ env : Env, elen env = a23.ntmps → (∀ i x_, [vl, .agg [v', w'], .int .i64 e2][i]? = some x_ → E env i = x_) → awp (tb [(38, R_SDead), (50, R_RCEqual)]) a23.body (fun x e t => (∀ i, x ≠ .exit i) ∧ aresults e t a23.results = some (.bool (decide ((⟨[], []⟩ : DCx) = Y) && decide (2 = e2))) ∧ Keep s t) env s := by
  intro env hlen ha
  have h0 : E env 0 = _ := ha 0 _ rfl
  have h1 : E env 1 = _ := ha 1 _ rfl
  have h2 : E env 2 = _ := ha 2 _ rfl
  have hlen : elen env = _ := hlen
  simp only [a23] at hlen
  unfold a23
  try dsimp only [oO, oG]
  have hby := boxV_2 (read_oneD kv).2 (read_oneD kw).2
  have hK2 : Keep s (s.push (.row [v', w'] true)) := (Keep.refl s).push _
  have q1 := q_SDead_bad false (hK2.read hr) hl hst
  have hst2 := sto_ctx (show sameN (s.push (.row [v', w'] true)).next (s.push (.row [v', w'] true)) from rfl) (a := .nils) (b := .nils) rfl rfl
  have hK5 : Keep (s.push (.row [v', w'] true)) ((s.push (.row [v', w'] true)).lowed.push (.row [.nils, .nils] true)) := (Keep.refl _).lowed.push _
  obtain ⟨d1', d2', d3', d4'⟩ := box_ctx s v' w' hK5
  have hK25 := hK2.trans hK5
  have q3 := q_RCEqual false (s := (s.push (.row [v', w'] true)).lowed.push (.row [.nils, .nils] true)) (X := ⟨[], []⟩) (read_nils dotC _) (read_nils dotC _) (by simp) (by simp) (hK25.read kv) (hK25.read kw) klv klw
  simp (config := {contextual := true, maxDischargeDepth := 12}) only [tb_at, h0, h1, h2, hlen, hby, d1', d4', q1, hst2, q3, ↓bD, bU, forall_const, bS, implies_true, isNx, eq_self, ↓wp_cond, ↓wp_loop, ↓reduceIte, reduceCtorEq, Nat.reduceEqDiff, Nat.reduceLT, Nat.reduceAdd, Nat.reduceMul, bT, ↓sg_bsl, ↓st_callf, bX, List.cons_append, List.nil_append, ↓st_appf, bY, slcV_nils0N, slcV_sl0N, bslV_0N, bin_shr1, bsl_nd, q_known]
  all_goals first | exact hK25 | skip
theorem q_dead_bad (cl : Bool) {s : St} {vl : AV} {l : List Nd} (hr : read ndC s vl = some l) (hl : l.length ≤ 1000) {v' w' : AV} {Y : DCx} (kv : read dotC s v' = some Y.v) (kw : read dotC s w' = some Y.c) (klv : Y.v.length ≤ lim) (klw : Y.c.length ≤ lim) (e2 : Int) (hst : storeL l = false) : acall R_dead cl [vl, .agg [v', w'], .int .i64 e2] s = some (.bool (decide ((⟨[], []⟩ : DCx) = Y) && decide (2 = e2)), s) := run_same n_dead (by simp [a23]) rfl (w_dead_bad (s := lowd s) (read_low' hr) hl (read_low' kv) (read_low' kw) klv klw e2 hst)
noncomputable def R_timed : Con := runFn (tb [(51, R_STime)]) a24
theorem s_timed : SoundAt Tryz.prog 24 R_timed := run_sound (tb_sound (l := [(51, R_STime)]) (by simpa using s_STime)) mixed Tryz.func24 k24 c24
theorem n_timed : noNxtC a24.body = true := by kernel_rfl
theorem w_timed {s : St} {vl : AV} {l : List Nd} (hr : read ndC s vl = some l) (hl : l.length ≤ 1000) (w c : Int) : ∀ env : Env, elen env = a24.ntmps → (∀ i x_, [vl, .int .i64 w, .int .i64 c][i]? = some x_ → E env i = x_) → awp (tb [(51, R_STime)]) a24.body (fun x e t => (∀ i, x ≠ .exit i) ∧ aresults e t a24.results = some (.bool (decide ((timeP l).1 = w) && decide ((timeP l).2 = c))) ∧ Keep s t) env s := by
  intro env hlen ha
  have h0 : E env 0 = _ := ha 0 _ rfl
  have h1 : E env 1 = _ := ha 1 _ rfl
  have h2 : E env 2 = _ := ha 2 _ rfl
  have hlen : elen env = _ := hlen
  simp only [a24] at hlen
  unfold a24
  try dsimp only [oO, oG]
  have q := q_STime false hr hl
  simp (config := {contextual := true, maxDischargeDepth := 12}) only [tb_at, h0, h1, h2, hlen, q, ↓bD, bU, forall_const, bS, implies_true, isNx, eq_self, ↓wp_cond, ↓wp_loop, ↓reduceIte, reduceCtorEq, Nat.reduceEqDiff, Nat.reduceLT, Nat.reduceAdd, Nat.reduceMul, bT, ↓sg_bsl, ↓st_callf, bX, List.cons_append, List.nil_append, ↓st_appf, bY, slcV_nils0N, slcV_sl0N, bslV_0N, bin_shr1, bsl_nd, q_known]
  all_goals first | exact .refl s | skip
theorem q_timed (cl : Bool) {s : St} {vl : AV} {l : List Nd} (hr : read ndC s vl = some l) (hl : l.length ≤ 1000) (w c : Int) : acall R_timed cl [vl, .int .i64 w, .int .i64 c] s = some (.bool (decide ((timeP l).1 = w) && decide ((timeP l).2 = c)), s) := run_same n_timed (by simp [a24]) rfl (w_timed (s := lowd s) (read_low' hr) hl w c)

theorem lackP_len (l : List Nd) : (lackP l).1.length ≤ l.length := by
  unfold lackP
  split
  · rw [← lackF_all]
    have := lackF_len l l []
    simpa using this
  · simp
noncomputable def R_lacks : Con := runFn (tb [(52, conF dotC (pL ndC gLack)), (21, R_RSame)]) a25
theorem s_lacks : SoundAt Tryz.prog 25 R_lacks := run_sound (tb_sound (l := [(52, conF dotC (pL ndC gLack)), (21, R_RSame)]) (by simpa using ⟨s_SLack, s_RSame⟩)) mixed Tryz.func25 k25 c25
theorem n_lacks : noNxtC a25.body = true := by kernel_rfl
theorem w_lacks {s : St} {vl : AV} {l : List Nd} (hr : read ndC s vl = some l) (hl : l.length ≤ 1000) {vb : AV} {b : List Dot} (hrb : read dotC s vb = some b) (hlb : b.length ≤ lim) (c : Int) : ∀ env : Env, elen env = a25.ntmps → (∀ i x_, [vl, vb, .int .i64 c][i]? = some x_ → E env i = x_) → awp (tb [(52, conF dotC (pL ndC gLack)), (21, R_RSame)]) a25.body (fun x e t => (∀ i, x ≠ .exit i) ∧ aresults e t a25.results = some (.bool (decide ((lackP l).1 = b) && decide ((lackP l).2 = c))) ∧ Keep s t) env s := by
  intro env hlen ha
  have h0 : E env 0 = _ := ha 0 _ rfl
  have h1 : E env 1 = _ := ha 1 _ rfl
  have h2 : E env 2 = _ := ha 2 _ rfl
  have hlen : elen env = _ := hlen
  simp only [a25] at hlen
  unfold a25
  try dsimp only [oO, oG]
  obtain ⟨w, t, q1, hO, hK⟩ := q_SLack hr (by unfold lim; omega)
  have hll := lackP_len l
  have q2 := q_RSame false hO.read (by unfold lim; omega) (hK.read hrb) hlb
  simp (config := {contextual := true, maxDischargeDepth := 12}) only [tb_at, h0, h1, h2, hlen, q1, q2, ↓bD, bU, forall_const, bS, implies_true, isNx, eq_self, ↓wp_cond, ↓wp_loop, ↓reduceIte, reduceCtorEq, Nat.reduceEqDiff, Nat.reduceLT, Nat.reduceAdd, Nat.reduceMul, bT, ↓sg_bsl, ↓st_callf, bX, List.cons_append, List.nil_append, ↓st_appf, bY, slcV_nils0N, slcV_sl0N, bslV_0N, bin_shr1, bsl_nd, q_known]
  all_goals first | exact hK | skip
theorem q_lacks (cl : Bool) {s : St} {vl : AV} {l : List Nd} (hr : read ndC s vl = some l) (hl : l.length ≤ 1000) {vb : AV} {b : List Dot} (hrb : read dotC s vb = some b) (hlb : b.length ≤ lim) (c : Int) : acall R_lacks cl [vl, vb, .int .i64 c] s = some (.bool (decide ((lackP l).1 = b) && decide ((lackP l).2 = c)), s) := run_same n_lacks (by simp [a25]) rfl (w_lacks (s := lowd s) (read_low' hr) hl (read_low' hrb) hlb c)

end Go.AM
end
/-
  StoreLooks. Own work of this project; in part printed by a program of it.
-/
section
set_option maxRecDepth 100000
set_option maxHeartbeats 8000000
namespace Go.AM
open Go Go.Proofs

variable {s t u : St}
theorem s_StoreLooks : SoundAt Tryz.prog 5 (lawC Tryz.prog 8 [22]) :=
  con_keep (tb_sound (l := [(9, closed [] (.bool true)), (10, R_RStV), (26, R_RCtx10), (22, R_seen), (23, R_dead), (27, R_RTime), (24, R_timed), (28, R_RLack10), (25, R_lacks)]) (by simpa using ⟨s_known, s_RStV, s_RCtx10, s_seen, s_dead, s_RTime, s_timed, s_RLack10, s_lacks⟩)) mixed Tryz.func5 k5 c5 fun args s r s' h => by
    obtain ⟨hh, rfl, rfl⟩ := lawC_some h
    obtain ⟨vl, rfl, hv0⟩ := rdas_1 hh
    obtain ⟨l, hr, ho, hc⟩ := rda_nodes hv0
    refine ⟨rfl, rfl, by simp [a5], fun env hlen ha => ?_⟩
    have h0 : E env 0 = _ := ha 0 _ rfl
    have hlen : elen env = _ := hlen
    simp only [a5] at hlen
    unfold a5
    try dsimp only [oO, oG]
    have hL := lenV_read hr
    by_cases hlz : 60 < l.length
    · have hz := eq_true (show (60 : Int) < (l.length : Int) by omega)
      simp (config := {contextual := true, maxDischargeDepth := 12}) only [tb_at, h0, hlen, hL, hz, notV_bool, Bool.not_true, Bool.not_false, pickV_t, pickV_f, ↓bD, bU, forall_const, bS, implies_true, isNx, eq_self, ↓wp_cond, ↓wp_loop, ↓reduceIte, reduceCtorEq, Nat.reduceEqDiff, Nat.reduceLT, Nat.reduceAdd, Nat.reduceMul, bT, ↓sg_bsl, ↓st_callf, bX, List.cons_append, List.nil_append, ↓st_appf, bY, slcV_nils0N, slcV_sl0N, bslV_0N, bin_shr1, bsl_nd, q_known]
      all_goals first | exact .refl s | skip
    have hz := eq_false (show ¬ (60 : Int) < (l.length : Int) by omega)
    have hlm : l.length ≤ lim := by unfold lim; omega
    have hl : l.length ≤ 1000 := by omega
    have qv := q_RStV false hr hlm ho
    cases hst : storeL l
    · rw [hst] at qv
      have hst2 := sto_ctx (show sameN s.next s from rfl) (a := .nils) (b := .nils) rfl rfl
      have hK : Keep s (s.lowed.push (.row [.nils, .nils] true)) := (Keep.refl s).lowed.push _
      have hg : (s.lowed.push (.row [.nils, .nils] true)).get s.next = some (.row [.nils, .nils] true) := St.get_push_new s.lowed _
      have d1 := lod_row2 hg
      have d2 : ltN s.next (s.lowed.push (.row [.nils, .nils] true)) := St.get_lt hg
      have hrT := hK.read hr
      have q1 : acall R_seen false [vl, .agg [.nils, .nils], .int .i64 2] (s.lowed.push (.row [.nils, .nils] true)) = some (.bool true, s.lowed.push (.row [.nils, .nils] true)) := by
        rw [q_seen_bad false hrT hl (Y := ⟨[], []⟩) (read_nils dotC _) (read_nils dotC _) (by simp) (by simp) 2 hst]; simp
      have q2 : acall R_dead false [vl, .agg [.nils, .nils], .int .i64 2] (s.lowed.push (.row [.nils, .nils] true)) = some (.bool true, s.lowed.push (.row [.nils, .nils] true)) := by
        rw [q_dead_bad false hrT hl (Y := ⟨[], []⟩) (read_nils dotC _) (read_nils dotC _) (by simp) (by simp) 2 hst]; simp
      have q3 : acall R_timed false [vl, .int .i64 0, .int .i64 2] (s.lowed.push (.row [.nils, .nils] true)) = some (.bool true, s.lowed.push (.row [.nils, .nils] true)) := by
        rw [q_timed false hrT hl 0 2]; simp [timeP, hst]
      have q4 : acall R_lacks false [vl, .nils, .int .i64 2] (s.lowed.push (.row [.nils, .nils] true)) = some (.bool true, s.lowed.push (.row [.nils, .nils] true)) := by
        rw [q_lacks false hrT hl (read_nils dotC _) (by simp) 2]; simp [lackP, hst]
      simp (config := {contextual := true, maxDischargeDepth := 12}) only [tb_at, h0, hlen, hL, hz, qv, ap_build, fillP_nil, hst2, d1, d2, q1, q2, q3, q4, notV_bool, Bool.not_true, Bool.not_false, pickV_t, pickV_f, ↓bD, bU, forall_const, bS, implies_true, isNx, eq_self, ↓wp_cond, ↓wp_loop, ↓reduceIte, reduceCtorEq, Nat.reduceEqDiff, Nat.reduceLT, Nat.reduceAdd, Nat.reduceMul, bT, ↓sg_bsl, ↓st_callf, bX, List.cons_append, List.nil_append, ↓st_appf, bY, slcV_nils0N, slcV_sl0N, bslV_0N, bin_shr1, bsl_nd, q_known]
      all_goals first | exact hK | skip
    · rw [hst] at qv
      obtain ⟨vv, cc, t1, r1, hR1, hK1⟩ := q_RCtx10 hr hl false hst
      rw [dotsR_f] at hR1
      have hr1 := hK1.read hr
      have ha1 := add_len ⟨[], []⟩ (l.map Nd.d)
      simp only [List.length_nil, Nat.zero_add, List.length_map] at ha1
      have q1 : acall R_seen false [vl, .agg [vv, cc], .int .i64 0] t1 = some (.bool true, t1) := by
        rw [q_seen false hr1 hl hR1.1 hR1.2 (by unfold lim; omega) (by unfold lim; omega) 0 hst]; simp
      obtain ⟨vw, cw, t2, r2, hR2, hK2⟩ := q_RCtx10 hr1 hl true hst
      rw [dotsR_t] at hR2
      have hr2 := hK2.read hr1
      have hdl : (deadL l).length ≤ 1000 := Nat.le_trans (List.length_filter_le _ _) hl
      have ha2 := add_len ⟨[], []⟩ ((deadL l).map Nd.d)
      simp only [List.length_nil, Nat.zero_add, List.length_map] at ha2
      have q2 : acall R_dead false [vl, .agg [vw, cw], .int .i64 0] t2 = some (.bool true, t2) := by
        rw [q_dead false hr2 hl hR2.1 hR2.2 (by unfold lim; omega) (by unfold lim; omega) 0 hst]; simp
      have r3 := q_RTime false hr2 hl
      have q3 : acall R_timed false [vl, .int .i64 (timeL l), .int .i64 0] t2 = some (.bool true, t2) := by
        rw [q_timed false hr2 hl (timeL l) 0]; simp [timeP, hst]
      obtain ⟨w, t3, r4, hO4, hK3⟩ := q_RLack10 hr2 hl
      have hr3 := hK3.read hr2
      have hll := lackP_len l
      have hlp : lackP l = (lackL l, 0) := by unfold lackP; rw [hst]; rfl
      rw [hlp] at hll
      have hll : (lackL l).length ≤ l.length := hll
      have q4 : acall R_lacks false [vl, w, .int .i64 0] t3 = some (.bool true, t3) := by
        rw [q_lacks false hr3 hl hO4.read (by unfold lim; omega) 0, hlp]; simp
      simp (config := {contextual := true, maxDischargeDepth := 12}) only [tb_at, h0, hlen, hL, hz, qv, r1, q1, r2, q2, r3, q3, r4, q4, notV_bool, Bool.not_true, Bool.not_false, pickV_t, pickV_f, ↓bD, bU, forall_const, bS, implies_true, isNx, eq_self, ↓wp_cond, ↓wp_loop, ↓reduceIte, reduceCtorEq, Nat.reduceEqDiff, Nat.reduceLT, Nat.reduceAdd, Nat.reduceMul, bT, ↓sg_bsl, ↓st_callf, bX, List.cons_append, List.nil_append, ↓st_appf, bY, slcV_nils0N, slcV_sl0N, bslV_0N, bin_shr1, bsl_nd, q_known]
      all_goals first | exact (hK1.trans hK2).trans hK3 | skip

end Go.AM
end
