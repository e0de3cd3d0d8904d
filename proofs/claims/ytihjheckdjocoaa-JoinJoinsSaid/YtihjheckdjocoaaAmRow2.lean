/-
  From a row's reading of lists of nodes to the abstract machine's memory; JoinValid's statement. Own work of this project.
-/
import Derived.Test.YtihjheckdjocoaaAmLV
import Derived.Test.YtihjheckdjocoaaAmOpen
import Derived.Test.YtihjheckdjocoaaRows
import Derived.HandedShaped
import Derived.ProofKit
import Derived.OpenShut
set_option linter.unusedVariables false
set_option linter.unusedSimpArgs false
set_option maxRecDepth 100000
namespace Go.AM
open Go Go.Proofs Go.ChangeShapes Go.WideShapes Go.ChangeAt Go.RowKit Go.Deep

def ndKs : List CK := [.i .i64, .i .i64, .i .i64, .i .i64, .i .i64, .i .i32]
theorem nd_cks : cks Try.prog 8 44 = some ndKs := by kernel_rfl
theorem nd_of_ks {r : List AV} (h : CKs ndKs r) : ∃ x : Nd, r = Nd.av x := by
  simp only [ndKs, CKs] at h
  obtain ⟨_, _, rfl, ⟨a, rfl, _⟩, _, _, rfl, ⟨b, rfl, _⟩, _, _, rfl, ⟨c, rfl, _⟩, _, _, rfl, ⟨d, rfl, _⟩, _, _, rfl, ⟨e, rfl, _⟩, _, _, rfl, ⟨x, rfl, _⟩, rfl⟩ := h
  exact ⟨⟨⟨a, b⟩, ⟨c, d⟩, e, x⟩, rfl⟩
theorem nds_of_rows : ∀ {rows : List (List AV)}, Rows ndKs rows → ∃ l : List Nd, rows.flatten = ndC.cells l ∧ l.length = rows.length
  | [], _ => ⟨[], rfl, rfl⟩
  | r :: rows, h => by
    obtain ⟨x, rfl⟩ := nd_of_ks (h r (by simp))
    obtain ⟨l, h1, h2⟩ := nds_of_rows (rows := rows) fun r' hr' => h r' (by simp [hr'])
    exact ⟨x :: l, by rw [List.flatten_cons, h1, cells_cons]; rfl, by simp [h2]⟩

/-- Some block of cells is there. -/
def HasCells (W : World) : Prop := ∃ (b : Nat) (cs : Array Value) (e : TypeId) (fr : Nat × Nat), W.heap[b]? = some (Obj.cells cs e fr)
/-- What the abstract machine knows of an argument. -/
structure Arg (W : World) (id : Nat) (v : Value) where
  av : AV
  blk : AB
  loc : Loc
  l : List Nd
  lt : loc.b < W.heap.size
  ok : ∀ ρ, BlkOk ρ loc W blk
  own : blk.owned = false
  vr : ∀ ρ : Ren, ρ id = some loc → VR ρ av v
  rd : ∀ s : St, s.get id = some blk → read ndC s av = some l
theorem dummy {W : World} (h : HasCells W) : ∃ L : Loc, L.b < W.heap.size ∧ ∀ ρ, BlkOk ρ L W (.row [] false) := by
  obtain ⟨b, cs, e, fr, hb⟩ := h
  refine ⟨⟨b, 0, cs.size⟩, (Array.getElem?_eq_some_iff.1 hb).1, fun ρ => ?_⟩
  simp only [BlkOk]
  exact ⟨cs, e, fr, hb, rfl, by simp, fun i v h => by simp at h, by simp, rfl⟩
variable {H : Type} {enc : TypeId × Value → H} {base : Nat} {held : Bool}
theorem arg_open {t : TypeId} (hu : Try.prog.underlying t = some (.slice 44)) (hlen : ndKs.length = Try.prog.cellsOf 44) {W : World} {v : Value} {d : DataW H} {p : List MemPlace} (hc : HasCells W)
    (h : DataW.Trod enc Try.prog W base (fun _ => true) held t v d p) {b0 : Nat} (hval : Value.okWide Try.prog W .any b0 t v) (id : Nat) : Nonempty (Arg W id v) := by
  obtain ⟨fuel, h⟩ := h
  obtain ⟨L, hL1, hL2⟩ := dummy hc
  obtain ⟨va, vl, vc, hvs⟩ := okWide_slice hu hval
  have hvc : v.cells.toList = [v] := by rw [hvs]; rfl
  rw [hvc] at h
  rcases slice_open (ks := ndKs) (d := 8) hu nd_cks hlen (by decide) h with hv | ⟨a, hv⟩ | ⟨b, off, len, cap, cells, el, fr, rows, hv, h2, h3, h4, h5, h6, h7, h8, h9⟩
  · have hv : v = .slice none 0 0 := by injection hv
    subst hv
    exact ⟨⟨.nils, .row [] false, L, [], hL1, hL2, rfl, fun ρ _ => by simp [VR], fun s _ => rfl⟩⟩
  · have hv : v = .slice (some a) 0 0 := by injection hv
    subst hv
    refine ⟨⟨.sl id 0 0 (some 0) 6, .row [] false, L, [], hL1, hL2, rfl, fun ρ hρ => ?_, fun s hs => ?_⟩⟩
    · simp only [VR]
      exact ⟨L, a, 0, hρ, rfl, Nat.le_refl _, fun k hk => by injection hk, .inl rfl⟩
    · exact read_of (C := ndC) (n := 0) rfl hs (by simp) rfl
  · have hv : v = .slice (some ⟨b, off, none⟩) len cap := by injection hv
    subst hv
    obtain ⟨l, e1, e2⟩ := nds_of_rows h8
    have h66 : ndKs.length = 6 := rfl
    rw [h66] at h6 h9
    rw [h7] at e2
    have hlt := (Array.getElem?_eq_some_iff.1 h5).1
    refine ⟨⟨.sl id 0 len (some cap) 6, .row (ndC.cells l) false, ⟨b, off, cells.size⟩, l.take len, hlt, fun ρ => ?_, rfl, fun ρ hρ => ?_, fun s hs => ?_⟩⟩
    · simp only [BlkOk]
      have hcl : (ndC.cells l).length = l.length * 6 := cells_len ndC l
      refine ⟨cells, el, fr, h5, rfl, by rw [hcl, e2]; exact h6, fun i v hi => ?_, by simp, cells_one' ndC l⟩
      have h10 := h9 ρ
      rw [e1] at h10
      have hi' := (List.getElem?_eq_some_iff.1 hi).1
      obtain ⟨c, hc1, hc2⟩ := VRs.at_ i h10 hi
      refine ⟨c, ?_, hc2⟩
      rw [List.getElem?_take_of_lt (by omega), List.getElem?_drop] at hc1
      simpa using hc1
    · simp only [VR]
      exact ⟨⟨b, off, cells.size⟩, ⟨b, off, none⟩, cap, hρ, rfl, h3, fun k hk => by injection hk, .inr ⟨by simp, by simpa using h6⟩⟩
    · have hall : read ndC s (.sl id 0 cap (some cap) 6) = some l := by
        refine read_of (C := ndC) e2.symm hs ?_ ?_
        · rw [cells_len, e2]; simp
        · rw [List.drop_zero, ← e2, ← cells_len]; simp
      exact read_take hall len h3

theorem two_args {W : World} {v0 v1 : Value} (a0 : Arg W 0 v0) (a1 : Arg W 1 v1) {f : Nat} (hs : SoundAt Try.prog f law2) : Calls Try.prog f #[v0, v1] W fun e W' => e = .returned (.bool true) ∧ Clean W W' := by
  have g0 : (⟨[a1.blk, a0.blk], 2, 0⟩ : St).get 0 = some a0.blk := rfl
  have g1 : (⟨[a1.blk, a0.blk], 2, 0⟩ : St).get 1 = some a1.blk := rfl
  have hg : ∀ id b, (⟨[a1.blk, a0.blk], 2, 0⟩ : St).get id = some b → (id = 0 ∧ b = a0.blk) ∨ (id = 1 ∧ b = a1.blk) := by
    intro id b h
    have := St.get_lt h
    have : id = 0 ∨ id = 1 := by
      have : id < 2 := this
      omega
    rcases this with rfl | rfl
    · rw [g0] at h; injection h with h; exact .inl ⟨rfl, h.symm⟩
    · rw [g1] at h; injection h with h; exact .inr ⟨rfl, h.symm⟩
  have hown : ∀ id b, (⟨[a1.blk, a0.blk], 2, 0⟩ : St).get id = some b → b.owned = false := by
    intro id b h
    rcases hg id b h with ⟨_, rfl⟩ | ⟨_, rfl⟩
    · exact a0.own
    · exact a1.own
  have hR : R ⟨[a1.blk, a0.blk], 2, 0⟩ (fun i => if i = 0 then some a0.loc else if i = 1 then some a1.loc else none) W := by
    refine ⟨fun id L h => ?_, fun id b L h1 h2 => ?_, fun i j L M bi bj _ _ _ e3 _ e5 _ => ?_⟩
    · split at h
      · injection h with h; subst h; exact a0.lt
      · split at h
        · injection h with h; subst h; exact a1.lt
        · cases h
    · rcases hg id b h1 with ⟨rfl, rfl⟩ | ⟨rfl, rfl⟩
      · simp at h2; subst h2; exact a0.ok _
      · simp at h2; subst h2; exact a1.ok _
    · rw [hown i bi e3] at e5; cases e5
  obtain ⟨_, _, h⟩ := hs [a0.av, a1.av] ⟨[a1.blk, a0.blk], 2, 0⟩ (.bool true) (St.lowed ⟨[a1.blk, a0.blk], 2, 0⟩) (by
    simp only [law2, a0.rd _ g0, a1.rd _ g1])
  have := h _ W [v0, v1] (fun id hid => by
    have : 2 ≤ id := hid
    simp [show id ≠ 0 by omega, show id ≠ 1 by omega]) hR (VRs_cons.2 ⟨a0.vr _ rfl, VRs_cons.2 ⟨a1.vr _ rfl, VRs_nil⟩⟩)
  refine Calls.mono (by simpa using this) fun e W' hp => ?_
  obtain ⟨ρ', v, rfl, hv, hst, _⟩ := hp
  simp only [VR] at hv
  subst hv
  exact ⟨rfl, hst.size, hst.os, hst.tape, hst.output, hst.drawn, fun b hb => hst.frame b hb fun id L blk _ _ h1 h2 => by rw [hown id blk h1] at h2; cases h2⟩

def isCells : Option Obj → Bool
  | some (.cells ..) => true
  | _ => false
theorem seat_hasCells {W : World} (h : W.ShapedOpen Try.prog) : HasCells W := by
  have h0 : decide (Try.prog.globals.size ≤ 0) = true := by kernel_rfl
  have h1 : decide (0 < (begin Try.prog (fun _ _ => 0) default).world.heap.size) = true := by kernel_rfl
  have h2 : isCells ((begin Try.prog (fun _ _ => 0) default).world.heap[0]?) = true := by kernel_rfl
  have h0 := of_decide_eq_true h0
  obtain ⟨o, o0, e1, e2, e3⟩ := h.2 0 h0 (of_decide_eq_true h1)
  have hl : World.looseAt (0 - Try.prog.globals.size) = false := by
    have : 0 - Try.prog.globals.size = 0 := by omega
    rw [this]
    rfl
  rw [hl] at e3
  simp only [Bool.false_eq_true, if_false] at e3
  subst e3
  rw [e2] at h2
  cases o with
  | cells cs e fr => exact ⟨0, cs, e, fr, e1⟩
  | _ => cases h2
end Go.AM
